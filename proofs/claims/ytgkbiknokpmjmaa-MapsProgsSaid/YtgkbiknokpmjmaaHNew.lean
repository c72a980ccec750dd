/- Contracts of the hash table's New and, at no table, Free: they answer as the plain data say; condition: the spec may be. -/
import Derived.Test.YtgkbiknokpmjmaaHUpd3
set_option linter.unusedVariables false
set_option linter.unusedSimpArgs false
namespace Go.Proofs.Ytgkbiknokpmjmaa
open Go.RowKit Go.MapKept
open Go.ChangeMaps (setBlock)

set_option maxRecDepth 100000 in
theorem hnew_nil (w : World) : Calls Try.prog 55 #[.pointer none, .agg #[.int .i64 1, .int .i64 4, .int .i64 4, .int .i64 2]] w fun e w' => e = .returned (.tuple #[.pointer none, .int .i64 1]) ∧ Fr [] [] w w' := by
  go_enter Try.func55, Try.ntmps55
  go_wp2
  go_ret2
  exact ⟨rfl, (Fr.refl [] w).alloc _⟩
set_option maxRecDepth 100000 in
theorem hfree_nil (w : World) : Calls Try.prog 50 #[.pointer none] w (Tells w (.int .i64 1)) := by
  go_enter Try.func50, Try.ntmps50
  go_wp2
  go_ret
  exact ⟨rfl, rfl⟩
structure HSpec.May (s : HSpec) : Prop where
  kd : s.kind = 1 ∨ s.kind = 9
  ky : 1 ≤ s.key ∧ s.key ≤ 512
  vl : 1 ≤ s.value ∧ s.value ≤ 4096
  mx : 1 ≤ s.max ∧ s.max ≤ 4096
def HNewPost (m : Nat) (s : HSpec) (k : KA) (F : List Nat) (w : World) (e : Ending) (w' : World) : Prop := ∃ x G, e = .returned (.tuple #[.pointer (some ⟨x, 0, none⟩), .int .i64 0]) ∧ HK w' x m s ⟨[], 0⟩ k G F ∧ Fr [] G w w'
theorem hnew_world {w : World} {m : Nat} {k : KA} {F : List Nat} (hk : KS w m k F) (s : HSpec) (o : Obj) : HNewPost m s k F w (.returned (.tuple #[.pointer (some ⟨w.heap.size + 2, 0, none⟩), .int .i64 0]))
    (((w.alloc o).alloc (.map #[] 0)).alloc (.cells #[.pointer (some ⟨m, 0, none⟩), .int .i64 s.kind, .int .i64 s.key, .int .i64 s.value, .int .i64 s.max, .map (some (w.heap.size + 1)), .int .i64 0] 102)) := by
  have hb : (((w.alloc o).alloc (.map #[] 0)).alloc (.cells #[.pointer (some ⟨m, 0, none⟩), .int .i64 s.kind, .int .i64 s.key, .int .i64 s.value, .int .i64 s.max, .map (some (w.heap.size + 1)), .int .i64 0] 102)).heap[w.heap.size + 2]? = some (.cells #[.pointer (some ⟨m, 0, none⟩), .int .i64 s.kind, .int .i64 s.key, .int .i64 s.value, .int .i64 s.max, .map (some (w.heap.size + 1)), .int .i64 0] 102) := by
    have := heap_alloc_new ((w.alloc o).alloc (.map #[] 0)) (.cells #[.pointer (some ⟨m, 0, none⟩), .int .i64 s.kind, .int .i64 s.key, .int .i64 s.value, .int .i64 s.max, .map (some (w.heap.size + 1)), .int .i64 0] 102)
    simpa using this
  have hm : (((w.alloc o).alloc (.map #[] 0)).alloc (.cells #[.pointer (some ⟨m, 0, none⟩), .int .i64 s.kind, .int .i64 s.key, .int .i64 s.value, .int .i64 s.max, .map (some (w.heap.size + 1)), .int .i64 0] 102)).heap[w.heap.size + 1]? = some (.map #[] 0) := by
    refine heap_alloc_some ?_
    have := heap_alloc_new (w.alloc o) (.map #[] 0)
    simpa using this
  refine ⟨w.heap.size + 2, [w.heap.size + 2, w.heap.size + 1], rfl, ⟨⟨⟨w.heap.size + 1, 0, 0, []⟩, ⟨hb, hm, by simp, by simp [HT.foot], by simp, by simp, by simp, by simp⟩, rfl, by simp [HT.foot]⟩, ((hk.alloc _).alloc _).alloc _, ?_⟩, ?_⟩
  · intro b hb hf
    have := hk.lt b hf
    simp at hb
    omega
  · refine ⟨rfl, rfl, rfl, by simp; omega, fun k hk _ => ?_, fun k hk => .inr ?_⟩
    · rw [Below.heap_alloc _ _ _ (by simp; omega), Below.heap_alloc _ _ _ (by simp; omega), Below.heap_alloc _ _ _ hk]
    · simp at hk; omega
set_option maxRecDepth 100000 in
theorem hnew_S {w : World} {m : Nat} {k : KA} {F : List Nat} (hk : KS w m k F) (s : HSpec) (hs : s.May) :
    Calls Try.prog 55 #[.pointer (some ⟨m, 0, none⟩), .agg #[.int .i64 s.kind, .int .i64 s.key, .int .i64 s.value, .int .i64 s.max]] w (HNewPost m s k F w) := by
  have hmm := @run_makeMap Try.prog
  have HW := fun o => hide (hnew_world hk s o)
  obtain ⟨kd, ky, vl, mx⟩ := s
  have hkd : kd = 1 ∨ kd = 9 := hs.kd
  have h1 : (1 : Int) ≤ ky := by have := hs.ky.1; simp only at this; omega
  have h2 : (ky : Int) ≤ 512 := by have := hs.ky.2; simp only at this; omega
  have h3 : (1 : Int) ≤ vl := by have := hs.vl.1; simp only at this; omega
  have h4 : (vl : Int) ≤ 4096 := by have := hs.vl.2; simp only at this; omega
  have h5 : (1 : Int) ≤ mx := by have := hs.mx.1; simp only at this; omega
  have h6 : (mx : Int) ≤ 4096 := by have := hs.mx.2; simp only at this; omega
  clear hk hs
  simp only at HW
  rcases hkd with rfl | rfl
  · go_enter Try.func55, Try.ntmps55
    go_wp2
    go_ret2
    exact (HW _).out
  · go_enter Try.func55, Try.ntmps55
    go_wp2
    go_ret2
    exact (HW _).out
end Go.Proofs.Ytgkbiknokpmjmaa
