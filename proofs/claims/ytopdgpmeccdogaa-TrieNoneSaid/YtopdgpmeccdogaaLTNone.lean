/- The law TrieNone computes true for every argument and leaves old memory alone; no condition. -/
import Derived.Test.YtopdgpmeccdogaaTAwake
set_option linter.unusedVariables false
set_option linter.unusedSimpArgs false
namespace Go.Proofs.Ytopdgpmeccdogaa
open Go.RowKit Go.MapKept
open Go.ChangeMaps (setBlock)

set_option maxRecDepth 100000 in
theorem law_tnone (kd fl : Int) (key value : ByteArray) (w : World) : Calls Try.prog 5 #[.agg #[.int .i64 kd, .string key, .string value, .int .i64 fl]] w fun e w' => e = .returned (.bool true) ∧ Below w.heap.size w w' := by
  have hb := heap_alloc_new w (.cells #[.int .i64 kd, .string key, .string value, .int .i64 fl] 47)
  have hf := (Fr.refl [] w).alloc (.cells #[.int .i64 kd, .string key, .string value, .int .i64 fl] 47)
  have key1 : ∀ W : World, W.heap[w.heap.size]? = some (.cells #[.int .i64 kd, .string key, .string value, .int .i64 fl] 47 (0, 0)) → Hid (W.cell? ⟨w.heap.size, 1, none⟩ = some (.string key) ∧ W.cell? ⟨w.heap.size, 2, none⟩ = some (.string value) ∧ W.cell? ⟨w.heap.size, 3, none⟩ = some (.int .i64 fl)) := fun W h => hide (by simp [World.cell?, h])
  go_enter Try.func5, Try.ntmps5
  obtain ⟨c1, c2, c3⟩ := (key1 _ hb).out
  go_wp2_with fail
  refine (tnext_nil _ _).mono ?_
  rintro e w' ⟨rfl, rfl⟩
  go_wp2_with fail
  refine (tnew_nil _).mono ?_
  rintro e w2 ⟨rfl, f2⟩
  replace hb := f2.keep hb (by simp)
  replace hf := hf.more f2
  obtain ⟨c1, c2, c3⟩ := (key1 _ hb).out
  go_wp2_with fail
  refine (tlookup_nil _ _).mono ?_
  rintro e w' ⟨rfl, rfl⟩
  go_wp2_with fail
  refine (tupdate_nil _ _ _ _).mono ?_
  rintro e w' ⟨rfl, rfl⟩
  go_wp2_with fail
  refine (tdelete_nil _ _).mono ?_
  rintro e w' ⟨rfl, rfl⟩
  go_wp2_with fail
  refine (tlen_nil _).mono ?_
  rintro e w' ⟨rfl, rfl⟩
  go_wp2_with fail
  refine (tfree_nil _).mono ?_
  rintro e w3 ⟨rfl, f3⟩
  replace hf := hf.more f3
  go_wp2_with fail
  refine (tawake _).mono ?_
  rintro e w' ⟨rfl, hb5⟩
  go_wp2
  go_ret
  exact ⟨rfl, hf.below0.trans (hb5.mono hf.size)⟩
end Go.Proofs.Ytopdgpmeccdogaa
