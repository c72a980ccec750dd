/- Contracts of the trie's Update, Delete, Len, New: they answer as the plain data say; condition: table and memory lie in the world. -/
import Derived.Test.YtopdgpmeccdogaaTUpd2
set_option linter.unusedVariables false
set_option linter.unusedSimpArgs false
namespace Go.Proofs.Ytopdgpmeccdogaa
open Go.RowKit Go.MapKept
open Go.ChangeMaps (setBlock)

def tupdate (s : TSpec) (f : List Bool → Nat) (n : Nat) (k : KA) (key value : ByteArray) (fl : Int) : Int × (List Bool → Nat) × Nat × KA :=
  if s.ok key = false ∨ value.size ≠ s.value ∨ fl < 0 ∨ 2 < fl then (1, f, n, k) else
  if f (tpath key) = 0 then tnew s f n k (tpath key) value fl else
  ((if fl = 1 then ((5 : Int), k) else k.put (f (tpath key)) (nats value)).1, f, n, (if fl = 1 then ((5 : Int), k) else k.put (f (tpath key)) (nats value)).2)
theorem FreshPost.toT {x m : Nat} {s : TSpec} {f : List Bool → Nat} {n : Nat} {k : KA} {G F : List Nat} {w : World} {v : Value} (H : TK w x m s f n k G F) {e : Ending} {w' : World} (h : FreshPost w v e w') : TKPost x m s G F w v f n k e w' :=
  ⟨G, F, h.1, H.fr0 h.2, h.2.none⟩
theorem tupdate_K {w : World} {x m : Nat} {s : TSpec} {f f' : List Bool → Nat} {n n' : Nat} {k k' : KA} {G F : List Nat} {e' : Int} (H : TK w x m s f n k G F) (hs : s.May) (key value : ByteArray) (fl : Int) (hn : n < 4294967296) (hmade : k.made + 1 < 4294967296) (E : tupdate s f n k key value fl = (e', f', n', k')) :
    Calls Try.prog 10 #[.pointer (some ⟨x, 0, none⟩), .string key, .string value, .int .i64 fl] w (TKPost x m s G F w (.int .i64 e') f' n' k') := by
  obtain ⟨t, h, rfl, rfl⟩ := H.ts
  unfold tupdate at E
  by_cases hbad : s.ok key = false ∨ value.size ≠ s.value ∨ fl < 0 ∨ 2 < fl
  · rw [if_pos hbad] at E
    simp only [Prod.mk.injEq] at E
    obtain ⟨rfl, rfl, rfl, rfl⟩ := E
    cases hk : s.ok key with
    | false => exact (tupdate_badkey h hs key value fl hk).mono fun e w' hp => hp.toT H
    | true =>
      rw [hk] at hbad
      exact (tupdate_bad h hs key value fl hk (by simpa using hbad)).mono fun e w' hp => hp.toT H
  rw [if_neg hbad] at E
  have hk : s.ok key = true := by
    cases hk : s.ok key with
    | false => exact absurd (.inl hk) hbad
    | true => rfl
  have hv : value.size = s.value := by omega
  by_cases ha : t.F (tpath key) = 0
  · rw [if_pos ha] at E
    exact tupdate_new H h hs key value fl hk hv (by omega) (by omega) ha hn hmade E
  · rw [if_neg ha] at E
    simp only [Prod.mk.injEq] at E
    obtain ⟨rfl, rfl, rfl, rfl⟩ := E
    exact tupdate_old H h hs key value fl hk hv (by omega) (by omega) ha rfl
theorem tlookup_K {w : World} {x m : Nat} {s : TSpec} {f : List Bool → Nat} {n : Nat} {k : KA} {G F : List Nat} (H : TK w x m s f n k G F) (hs : s.May) (key : ByteArray) :
    Calls Try.prog 13 #[.pointer (some ⟨x, 0, none⟩), .string key] w (TKPost x m s G F w (.int .u64 (tlook s f key : Nat)) f n k) := by
  obtain ⟨t, h, rfl, rfl⟩ := H.ts
  unfold tlook
  cases hk : s.ok key with
  | false => exact (tlookup_bad h hs key hk).mono fun e w' hp => hp.toT H
  | true => exact (tlookup_ok h hs key hk).mono fun e w' hp => hp.toT H

/-! ### Len -/
set_option maxRecDepth 100000 in
theorem tlen_nil (w : World) : Calls Try.prog 15 #[.pointer none] w (Tells w (.int .i64 0)) := by
  go_enter Try.func15, Try.ntmps15
  go_wp2
  go_ret
  exact ⟨rfl, rfl⟩
set_option maxRecDepth 100000 in
theorem tlen_K {w : World} {x m : Nat} {s : TSpec} {f : List Bool → Nat} {n : Nat} {k : KA} {G F : List Nat} (H : TK w x m s f n k G F) :
    Calls Try.prog 15 #[.pointer (some ⟨x, 0, none⟩)] w (Tells w (.int .i64 (n : Nat))) := by
  obtain ⟨t, h, -, -⟩ := H.ts
  obtain ⟨c0, c2, c3, c4, c5, c6, -⟩ := h.cells
  clear h H
  go_enter Try.func15, Try.ntmps15
  go_wp2
  go_ret
  exact ⟨rfl, rfl⟩

/-! ### New, Free at none -/
theorem tfree_nil (w : World) : Calls Try.prog 18 #[.pointer none] w (FreshPost w (.int .i64 1)) := by
  go_enter Try.func18, Try.ntmps18
  go_wp2
  go_ret
  exact ⟨rfl, (Fr.refl [] w).alloc _⟩
theorem tdelete_nil (key : ByteArray) (w : World) : Calls Try.prog 16 #[.pointer none, .string key] w (Tells w (.int .i64 1)) := by
  go_enter Try.func16, Try.ntmps16
  go_wp2
  go_ret
  exact ⟨rfl, rfl⟩
set_option maxRecDepth 100000 in
theorem tnext_nil (key : ByteArray) (w : World) : Calls Try.prog 17 #[.pointer none, .string key] w (Tells w (.tuple #[.string ⟨#[]⟩, .int .i64 1])) := by
  go_enter Try.func17, Try.ntmps17
  go_wp2
  go_ret2
  exact ⟨rfl, rfl⟩
set_option maxRecDepth 100000 in
theorem tnew_nil (w : World) : Calls Try.prog 9 #[.pointer none, .agg #[.int .i64 11, .int .i64 8, .int .i64 4, .int .i64 2]] w fun e w' => e = .returned (.tuple #[.pointer none, .int .i64 1]) ∧ Fr [] [] w w' := by
  go_enter Try.func9, Try.ntmps9
  go_wp2
  go_ret2
  exact ⟨rfl, (Fr.refl [] w).alloc _⟩
def TNewPost (m : Nat) (s : TSpec) (k : KA) (F : List Nat) (w : World) (e : Ending) (w' : World) : Prop := ∃ x G, e = .returned (.tuple #[.pointer (some ⟨x, 0, none⟩), .int .i64 0]) ∧ TK w' x m s (fun _ => 0) 0 k G F ∧ Fr [] G w w'
theorem tnew_world {w : World} {m : Nat} {k : KA} {F : List Nat} (hk : KS w m k F) (s : TSpec) (o : Obj) : TNewPost m s k F w (.returned (.tuple #[.pointer (some ⟨w.heap.size + 2, 0, none⟩), .int .i64 0]))
    (((w.alloc o).alloc (.cells #[.pointer none, .pointer none, .int .u64 0, .string ⟨#[]⟩] 79)).alloc (.cells #[.pointer (some ⟨m, 0, none⟩), .int .i64 11, .int .i64 s.key, .int .i64 s.value, .int .i64 s.max, .pointer (some ⟨w.heap.size + 1, 0, none⟩), .int .i64 0] 81)) := by
  have hb : (((w.alloc o).alloc (.cells #[.pointer none, .pointer none, .int .u64 0, .string ⟨#[]⟩] 79)).alloc (.cells #[.pointer (some ⟨m, 0, none⟩), .int .i64 11, .int .i64 s.key, .int .i64 s.value, .int .i64 s.max, .pointer (some ⟨w.heap.size + 1, 0, none⟩), .int .i64 0] 81)).heap[w.heap.size + 2]? = some (.cells #[.pointer (some ⟨m, 0, none⟩), .int .i64 11, .int .i64 s.key, .int .i64 s.value, .int .i64 s.max, .pointer (some ⟨w.heap.size + 1, 0, none⟩), .int .i64 0] 81) := by
    have := heap_alloc_new ((w.alloc o).alloc (.cells #[.pointer none, .pointer none, .int .u64 0, .string ⟨#[]⟩] 79)) (.cells #[.pointer (some ⟨m, 0, none⟩), .int .i64 11, .int .i64 s.key, .int .i64 s.value, .int .i64 s.max, .pointer (some ⟨w.heap.size + 1, 0, none⟩), .int .i64 0] 81)
    simpa using this
  have hm : (((w.alloc o).alloc (.cells #[.pointer none, .pointer none, .int .u64 0, .string ⟨#[]⟩] 79)).alloc (.cells #[.pointer (some ⟨m, 0, none⟩), .int .i64 11, .int .i64 s.key, .int .i64 s.value, .int .i64 s.max, .pointer (some ⟨w.heap.size + 1, 0, none⟩), .int .i64 0] 81)).heap[w.heap.size + 1]? = some (.cells #[.pointer none, .pointer none, .int .u64 0, .string ⟨#[]⟩] 79) := by
    refine heap_alloc_some ?_
    have := heap_alloc_new (w.alloc o) (.cells #[.pointer none, .pointer none, .int .u64 0, .string ⟨#[]⟩] 79)
    simpa using this
  refine ⟨w.heap.size + 2, [w.heap.size + 2, w.heap.size + 1], rfl, ⟨⟨CT.leaf (w.heap.size + 1), ⟨hb, ⟨hm, trivial, trivial⟩, by simp [CT.leaf, CT.foot], ⟨_, _, _, _, _, rfl⟩, fun p => by rw [CT.leaf_F]; decide⟩, funext (CT.leaf_F _), by simp [CT.leaf, CT.foot]⟩, ((hk.alloc _).alloc _).alloc _, ?_⟩, ?_⟩
  · intro b hb hf
    have := hk.lt b hf
    simp at hb
    omega
  · refine ⟨rfl, rfl, rfl, by simp; omega, fun k hk _ => ?_, fun k hk => .inr ?_⟩
    · rw [Below.heap_alloc _ _ _ (by simp; omega), Below.heap_alloc _ _ _ (by simp; omega), Below.heap_alloc _ _ _ hk]
    · simp at hk; omega
set_option maxRecDepth 100000 in
theorem tnew_S {w : World} {m : Nat} {k : KA} {F : List Nat} (hk : KS w m k F) (s : TSpec) (hs : s.May) :
    Calls Try.prog 9 #[.pointer (some ⟨m, 0, none⟩), .agg #[.int .i64 11, .int .i64 s.key, .int .i64 s.value, .int .i64 s.max]] w (TNewPost m s k F w) := by
  have HW := fun o => hide (tnew_world hk s o)
  obtain ⟨ky, vl, mx⟩ := s
  have h1 : (5 : Int) ≤ ky := by have := hs.ky.1; simp only at this; omega
  have h2 : (ky : Int) ≤ 260 := by have := hs.ky.2; simp only at this; omega
  have h3 : (1 : Int) ≤ vl := by have := hs.vl.1; simp only at this; omega
  have h4 : (vl : Int) ≤ 4096 := by have := hs.vl.2; simp only at this; omega
  have h5 : (1 : Int) ≤ mx := by have := hs.mx.1; simp only at this; omega
  have h6 : (mx : Int) ≤ 4096 := by have := hs.mx.2; simp only at this; omega
  clear hk hs
  simp only at HW
  go_enter Try.func9, Try.ntmps9
  go_wp2
  go_ret2
  exact (HW _).out
end Go.Proofs.Ytopdgpmeccdogaa
