/- The law FlatNone computes true for every argument and leaves old memory alone; no condition. -/
import Derived.Test.YtmgocjclopfeeaaFWalk6
set_option linter.unusedVariables false
set_option linter.unusedSimpArgs false
namespace Go.Proofs.Ytmgocjclopfeeaa
open Go.RowKit Go.MapKept
open Go.ChangeMaps (setBlock)

set_option maxRecDepth 100000 in
theorem law_fnone (kd fl cpu u : Int) (key value : ByteArray) (w : World) : Calls Try.prog 6 #[.agg #[.int .i64 kd, .string key, .string value, .int .i64 fl, .int .i64 cpu, .int .u64 u]] w fun e w' => e = .returned (.bool true) ∧ Below w.heap.size w w' := by
  have hb := heap_alloc_new w (.cells #[.int .i64 kd, .string key, .string value, .int .i64 fl, .int .i64 cpu, .int .u64 u] 42)
  have hf := (Fr.refl [] w).alloc (.cells #[.int .i64 kd, .string key, .string value, .int .i64 fl, .int .i64 cpu, .int .u64 u] 42)
  have key1 : ∀ W : World, W.heap[w.heap.size]? = some (.cells #[.int .i64 kd, .string key, .string value, .int .i64 fl, .int .i64 cpu, .int .u64 u] 42 (0, 0)) → Hid (W.cell? ⟨w.heap.size, 1, none⟩ = some (.string key) ∧ W.cell? ⟨w.heap.size, 2, none⟩ = some (.string value) ∧ W.cell? ⟨w.heap.size, 3, none⟩ = some (.int .i64 fl) ∧ W.cell? ⟨w.heap.size, 4, none⟩ = some (.int .i64 cpu)) := fun W h => hide (by simp [World.cell?, h])
  go_enter Try.func6, Try.ntmps6
  obtain ⟨c1, c2, c3, c4⟩ := (key1 _ hb).out
  go_wp2_with fail
  refine (next_nil _ _).mono ?_
  rintro e w' ⟨rfl, rfl⟩
  go_wp2_with fail
  refine (fnew_nil _).mono ?_
  rintro e w2 ⟨rfl, f2⟩
  replace hb := f2.keep hb (by simp)
  replace hf := hf.more f2
  obtain ⟨c1, c2, c3, c4⟩ := (key1 _ hb).out
  go_wp2_with fail
  refine (lookup_nil _ _ _).mono ?_
  rintro e w3 ⟨rfl, s3⟩
  replace hb := (s3.fr []).keep hb (by simp)
  replace hf := hf.more (s3.fr [])
  obtain ⟨c1, c2, c3, c4⟩ := (key1 _ hb).out
  go_wp2_with fail
  refine (update_nil _ _ _ _ _).mono ?_
  rintro e w4 ⟨rfl, s4⟩
  replace hb := (s4.fr []).keep hb (by simp)
  replace hf := hf.more (s4.fr [])
  obtain ⟨c1, c2, c3, c4⟩ := (key1 _ hb).out
  go_wp2_with fail
  refine (delete_calls _ _ _).mono ?_
  rintro e w' ⟨rfl, rfl⟩
  go_wp2_with fail
  refine (ffree_nil _).mono ?_
  rintro e w' ⟨rfl, rfl⟩
  go_wp2_with fail
  refine (fawake _).mono ?_
  rintro e w' ⟨rfl, hb5⟩
  go_wp2
  go_ret
  exact ⟨rfl, hf.below0.trans (hb5.mono hf.size)⟩
end Go.Proofs.Ytmgocjclopfeeaa
