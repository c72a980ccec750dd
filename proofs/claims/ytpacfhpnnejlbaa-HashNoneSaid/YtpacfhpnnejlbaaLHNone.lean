/- The law HashNone computes true for every argument and leaves old memory alone; no condition. -/
import Derived.Test.YtpacfhpnnejlbaaHAwake
set_option linter.unusedVariables false
set_option linter.unusedSimpArgs false
namespace Go.Proofs.Ytpacfhpnnejlbaa
open Go.RowKit Go.MapKept
open Go.ChangeMaps (setBlock)

set_option maxRecDepth 100000 in
theorem law_hnone (kd fl u : Int) (key value : ByteArray) (w : World) : Calls Try.prog 6 #[.agg #[.int .i64 kd, .string key, .string value, .int .i64 fl, .int .u64 u]] w fun e w' => e = .returned (.bool true) ∧ Below w.heap.size w w' := by
  have hb := heap_alloc_new w (.cells #[.int .i64 kd, .string key, .string value, .int .i64 fl, .int .u64 u] 44)
  have hf := (Fr.refl [] w).alloc (.cells #[.int .i64 kd, .string key, .string value, .int .i64 fl, .int .u64 u] 44)
  have key1 : ∀ W : World, W.heap[w.heap.size]? = some (.cells #[.int .i64 kd, .string key, .string value, .int .i64 fl, .int .u64 u] 44 (0, 0)) → Hid (W.cell? ⟨w.heap.size, 1, none⟩ = some (.string key) ∧ W.cell? ⟨w.heap.size, 2, none⟩ = some (.string value) ∧ W.cell? ⟨w.heap.size, 3, none⟩ = some (.int .i64 fl)) := fun W h => hide (by simp [World.cell?, h])
  go_enter Try.func6, Try.ntmps6
  obtain ⟨c1, c2, c3⟩ := (key1 _ hb).out
  go_wp2_with fail
  refine (hnext_nil _ _).mono ?_
  rintro e w' ⟨rfl, rfl⟩
  go_wp2_with fail
  refine (hnew_nil _).mono ?_
  rintro e w2 ⟨rfl, f2⟩
  replace hb := f2.keep hb (by simp)
  replace hf := hf.more f2
  obtain ⟨c1, c2, c3⟩ := (key1 _ hb).out
  go_wp2_with fail
  refine (hlookup_nil _ _).mono ?_
  rintro e w' ⟨rfl, rfl⟩
  go_wp2_with fail
  refine (hupdate_nil _ _ _ _).mono ?_
  rintro e w' ⟨rfl, rfl⟩
  go_wp2_with fail
  refine (hdelete_nil _ _).mono ?_
  rintro e w' ⟨rfl, rfl⟩
  go_wp2_with fail
  refine (hlen_nil _).mono ?_
  rintro e w' ⟨rfl, rfl⟩
  go_wp2_with fail
  refine (hfree_nil _).mono ?_
  rintro e w' ⟨rfl, rfl⟩
  go_wp2_with fail
  refine (hawake _).mono ?_
  rintro e w' ⟨rfl, hb5⟩
  go_wp2
  go_ret
  exact ⟨rfl, hf.below0.trans (hb5.mono hf.size)⟩
end Go.Proofs.Ytpacfhpnnejlbaa
