/- Contracts of the hash table's Update where nothing is made new: it answers as the plain data say; condition: table and memory lie in the world. -/
import Derived.Test.YtgkbiknokpmjmaaHOldest
set_option linter.unusedVariables false
set_option linter.unusedSimpArgs false
namespace Go.Proofs.Ytgkbiknokpmjmaa
open Go.RowKit Go.MapKept
open Go.ChangeMaps (setBlock)

set_option maxRecDepth 100000 in
theorem hupdate_nil (key value : ByteArray) (fl : Int) (w : World) : Calls Try.prog 26 #[.pointer none, .string key, .string value, .int .i64 fl] w (Tells w (.int .i64 1)) := by
  go_enter Try.func26, Try.ntmps26
  go_wp2
  go_ret
  exact ⟨rfl, rfl⟩
set_option maxRecDepth 100000 in
theorem hupdate_arg {w : World} {x m : Nat} {s : HSpec} {t : HT} (h : HM w x m s t) (key value : ByteArray) (fl : Int) (hk : key.size ≠ s.key ∨ value.size ≠ s.value ∨ fl < 0 ∨ 2 < fl) :
    Calls Try.prog 26 #[.pointer (some ⟨x, 0, none⟩), .string key, .string value, .int .i64 fl] w (Tells w (.int .i64 1)) := by
  have hnn := HK.notNil t.lb
  obtain ⟨c0, c1, c2, c3, c4, c5, c6, -⟩ := h.cells
  clear h
  by_cases k1 : key.size ≠ s.key
  · have hb : ((key.size : Int) != (s.key : Int)) = true := by rw [bne_iff_ne]; omega
    clear hk k1
    go_enter Try.func26, Try.ntmps26
    go_wp2
    go_ret
    exact ⟨rfl, rfl⟩
  have hb : ((key.size : Int) != (s.key : Int)) = false := by rw [bne_eq_false_iff_eq]; omega
  by_cases k2 : value.size ≠ s.value
  · have hb2 : ((value.size : Int) != (s.value : Int)) = true := by rw [bne_iff_ne]; omega
    clear hk k1 k2
    go_enter Try.func26, Try.ntmps26
    go_wp2
    go_ret
    exact ⟨rfl, rfl⟩
  have hb2 : ((value.size : Int) != (s.value : Int)) = false := by rw [bne_eq_false_iff_eq]; omega
  by_cases k3 : fl < 0
  · clear hk k1 k2
    go_enter Try.func26, Try.ntmps26
    go_wp2
    go_ret
    exact ⟨rfl, rfl⟩
  have k4 : 2 < fl := by omega
  clear hk k1 k2
  go_enter Try.func26, Try.ntmps26
  go_wp2
  go_ret
  exact ⟨rfl, rfl⟩
set_option maxRecDepth 100000 in
theorem hupdate_none {w : World} {x m : Nat} {s : HSpec} {t : HT} (h : HM w x m s t) (key value : ByteArray) (hk : key.size = s.key) (hv : value.size = s.value) (hno : ∀ r ∈ t.es, r.e.key ≠ key) :
    Calls Try.prog 26 #[.pointer (some ⟨x, 0, none⟩), .string key, .string value, .int .i64 2] w (Tells w (.int .i64 4)) := by
  have hnn := HK.notNil t.lb
  have hb : ((key.size : Int) != (s.key : Int)) = false := by rw [bne_eq_false_iff_eq]; omega
  have hb2 : ((value.size : Int) != (s.value : Int)) = false := by rw [bne_eq_false_iff_eq]; omega
  obtain ⟨c0, c1, c2, c3, c4, c5, c6, -⟩ := h.cells
  have hf := h.find_miss hno
  clear h hno hk hv
  go_enter Try.func26, Try.ntmps26
  go_wp2
  go_ret
  exact ⟨rfl, rfl⟩
set_option maxRecDepth 100000 in
theorem hupdate_exists {w : World} {x m : Nat} {s : HSpec} {t : HT} (h : HM w x m s t) (value : ByteArray) {j : Nat} {r : HC} (hj : t.es[j]? = some r) (hk : r.e.key.size = s.key) (hv : value.size = s.value) :
    Calls Try.prog 26 #[.pointer (some ⟨x, 0, none⟩), .string r.e.key, .string value, .int .i64 1] w (Tells w (.int .i64 5)) := by
  have hnn := HK.notNil t.lb
  have hb : ((r.e.key.size : Int) != (s.key : Int)) = false := by rw [bne_eq_false_iff_eq]; omega
  have hb2 : ((value.size : Int) != (s.value : Int)) = false := by rw [bne_eq_false_iff_eq]; omega
  obtain ⟨c0, c1, c2, c3, c4, c5, c6, -⟩ := h.cells
  have hf := h.find_hit hj
  clear h hk hv
  go_enter Try.func26, Try.ntmps26
  go_wp2
  go_ret
  exact ⟨rfl, rfl⟩
theorem hlen_runs {w : World} {x m : Nat} {s : HSpec} {t : HT} (h : HM w x m s t) (ty : TypeId) : (Builtin.len_ #[100] ty #[.map (some t.lb)]).run Try.prog w = .ok (.int .i64 (t.es.length : Nat)) w := by
  rw [run_len_raw HK.und h.hl]
  simp [HT.entries]
set_option maxRecDepth 100000 in
theorem hupdate_full {w : World} {x m : Nat} {s : HSpec} {t : HT} (h : HM w x m s t) (key value : ByteArray) (fl : Int) (hk : key.size = s.key) (hv : value.size = s.value) (h0 : 0 ≤ fl) (h2 : fl < 2) (hno : ∀ r ∈ t.es, r.e.key ≠ key) (hfull : t.es.length = s.max) (hkind : s.kind = 1) :
    Calls Try.prog 26 #[.pointer (some ⟨x, 0, none⟩), .string key, .string value, .int .i64 fl] w (TellsS w (.int .i64 3)) := by
  have hnn := HK.notNil t.lb
  have hb : ((key.size : Int) != (s.key : Int)) = false := by rw [bne_eq_false_iff_eq]; omega
  have hb2 : ((value.size : Int) != (s.value : Int)) = false := by rw [bne_eq_false_iff_eq]; omega
  have hb3 : (fl == 2) = false := by rw [beq_eq_false_iff_ne]; omega
  have hb4 : ((s.max : Int) == (s.max : Int)) = true := by simp
  have hb5 : ¬ 2 < fl := by omega
  have hl := hlen_runs h
  have hld := hlen_runs (h.frame (w' := w.drew) (fun _ _ => rfl))
  rw [hfull] at hl hld
  obtain ⟨c0, c1, c2, c3, c4, c5, c6, -⟩ := h.cells
  rw [hkind] at c1
  have hf := h.find_miss hno
  clear h hno hk hv hfull hkind
  go_enter Try.func26, Try.ntmps26
  go_wp2
  go_region
  all_goals
    go_wp2
    go_ret
    exact ⟨rfl, by first | exact Same.refl _ | exact (Same.refl _).drew⟩
end Go.Proofs.Ytgkbiknokpmjmaa
