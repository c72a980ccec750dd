/- Contracts of the hash table's Delete: it answers as the plain data say; condition: table and memory lie in the world. -/
import Derived.Test.YtgkbiknokpmjmaaHWalk2
set_option linter.unusedVariables false
set_option linter.unusedSimpArgs false
namespace Go.Proofs.Ytgkbiknokpmjmaa
open Go.RowKit Go.MapKept
open Go.ChangeMaps (setBlock)

theorem HK.notNil (l : Nat) (W : World) : (binOp BinOp.eql 100 (.map (some l)) (.map none)).run Try.prog W = .ok (.bool false) W := by kernel_rfl
set_option maxRecDepth 100000 in
theorem hdelete_nil (key : ByteArray) (w : World) : Calls Try.prog 29 #[.pointer none, .string key] w (Tells w (.int .i64 1)) := by
  go_enter Try.func29, Try.ntmps29
  go_wp2
  go_ret
  exact ⟨rfl, rfl⟩
set_option maxRecDepth 100000 in
theorem hdelete_arg {w : World} {x m : Nat} {s : HSpec} {t : HT} (h : HM w x m s t) (key : ByteArray) (hk : key.size ≠ s.key) : Calls Try.prog 29 #[.pointer (some ⟨x, 0, none⟩), .string key] w (Tells w (.int .i64 1)) := by
  have hb : ((key.size : Int) != (s.key : Int)) = true := by rw [bne_iff_ne]; omega
  have hnn := HK.notNil t.lb
  obtain ⟨c0, c1, c2, c3, c4, c5, c6, -⟩ := h.cells
  clear h hk
  go_enter Try.func29, Try.ntmps29
  go_wp2
  go_ret
  exact ⟨rfl, rfl⟩
set_option maxRecDepth 100000 in
theorem hdelete_miss {w : World} {x m : Nat} {s : HSpec} {t : HT} (h : HM w x m s t) (key : ByteArray) (hk : key.size = s.key) (hno : ∀ r ∈ t.es, r.e.key ≠ key) : Calls Try.prog 29 #[.pointer (some ⟨x, 0, none⟩), .string key] w (Tells w (.int .i64 4)) := by
  have hb : ((key.size : Int) != (s.key : Int)) = false := by rw [bne_eq_false_iff_eq]; omega
  have hnn := HK.notNil t.lb
  obtain ⟨c0, c1, c2, c3, c4, c5, c6, -⟩ := h.cells
  have hf := h.find_miss hno
  clear h hk hno
  go_enter Try.func29, Try.ntmps29
  go_wp2
  go_ret
  exact ⟨rfl, rfl⟩
set_option maxRecDepth 100000 in
theorem hdelete_hit {w : World} {x m : Nat} {s : HSpec} {t : HT} {k k' : KA} {F : List Nat} {e' : Int} (H : HK w x m s t.abs k (t.foot x) F) (h : HM w x m s t) {j : Nat} {r : HC} (hj : t.es[j]? = some r) (hk : r.e.key.size = s.key) (E : k.retire r.e.at_ = (e', k')) :
    Calls Try.prog 29 #[.pointer (some ⟨x, 0, none⟩), .string r.e.key] w (HKPost x m s (t.foot x) F w (.int .i64 0) (t.abs.drop r.e.key) k') := by
  have hb : ((r.e.key.size : Int) != (s.key : Int)) = false := by rw [bne_eq_false_iff_eq]; omega
  have hnn := HK.notNil t.lb
  obtain ⟨c0, c1, c2, c3, c4, c5, c6, -⟩ := h.cells
  have hf := h.find_hit hj
  have hd := drop_calls H h hj E
  clear h hk H E
  go_enter Try.func29, Try.ntmps29
  go_wp2_with fail
  refine hd.mono ?_
  rintro e w' ⟨G', F', rfl, H', f⟩
  go_wp2
  go_ret
  exact ⟨G', F', rfl, H', f⟩
def HA.delete (h : HA) (s : HSpec) (k : KA) (key : ByteArray) : Int × HA × KA :=
  if key.size ≠ s.key then (1, h, k) else
  match h.find key with
  | none => (4, h, k)
  | some e => (0, h.drop key, (k.retire e.at_).2)
theorem hdelete_K {w : World} {x m : Nat} {s : HSpec} {h h' : HA} {k k' : KA} {G F : List Nat} (H : HK w x m s h k G F) (key : ByteArray) {e' : Int} (E : h.delete s k key = (e', h', k')) :
    Calls Try.prog 29 #[.pointer (some ⟨x, 0, none⟩), .string key] w (HKPost x m s G F w (.int .i64 e') h' k') := by
  obtain ⟨t, h1, rfl, rfl⟩ := H.hs
  unfold HA.delete at E
  by_cases hk : key.size ≠ s.key
  · rw [if_pos hk] at E
    simp only [Prod.mk.injEq] at E
    obtain ⟨rfl, rfl, rfl⟩ := E
    exact (hdelete_arg h1 key hk).mono fun e w' ⟨he, hw⟩ => ⟨_, _, he, hw ▸ H, hw ▸ Fr.refl _ _⟩
  rw [if_neg hk] at E
  have hk' : key.size = s.key := by omega
  cases hf : t.abs.find key with
  | none =>
    rw [hf] at E
    simp only [Prod.mk.injEq] at E
    obtain ⟨rfl, rfl, rfl⟩ := E
    exact (hdelete_miss h1 key hk' (HA.find_none hf)).mono fun e w' ⟨he, hw⟩ => ⟨_, _, he, hw ▸ H, hw ▸ Fr.refl _ _⟩
  | some e =>
    rw [hf] at E
    simp only [Prod.mk.injEq] at E
    obtain ⟨rfl, rfl, rfl⟩ := E
    obtain ⟨j, r, hj, rfl, rfl⟩ := HA.find_some hf
    exact hdelete_hit H h1 hj hk' rfl
end Go.Proofs.Ytgkbiknokpmjmaa
