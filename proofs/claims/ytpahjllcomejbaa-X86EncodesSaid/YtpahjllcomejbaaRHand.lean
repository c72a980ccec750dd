/- Several texts of this claim in one: each is told where it begins. -/
import Derived.Test.YtpahjllcomejbaaBareH
import Derived.WalkKit
import Derived.Laws.Rows
import Derived.RegionTactic
import Derived.Test.YtpahjllcomejbaaRLayAll
import Derived.Test.YtpahjllcomejbaaQRefx1
/- An instruction with its own fields alone, walked by hand; no condition. -/
set_option linter.unusedVariables false
set_option linter.unusedSimpArgs false
namespace Go.Proofs.Ytpahjllcomejbaa
open Go.RowKit Go.MapKept
set_option maxRecDepth 100000 in
set_option maxHeartbeats 1600000 in
theorem rbare_17 (d s n i wd : Int) (w : World) : Calls Try.prog 30 #[.agg #[.int .i64 17, .int .i64 d, .int .i64 s, .int .i64 n, .int .i64 i, .int .u64 wd]] w (TwoPost w (.agg #[.int .i64 17, .int .i64 0, .int .i64 0, .int .i64 0, .int .i64 0, .int .u64 0])) := by
 have hu3 := Try.underlying32
 go_enter Try.func30, Try.ntmps30
 go_wp2
 all_goals
  refine bodyPost_ret (results_cell_row rfl _ _ (w.heap.size + 1) 32 #[.int .i64 17, .int .i64 0, .int .i64 0, .int .i64 0, .int .i64 0, .int .u64 0] (0, 0) _ rfl (heap_alloc_some (heap_at (by simp))) hu3 rfl rfl) rfl ⟨rfl, ?_⟩
  first
   | exact (((Fr.refl [] w).alloc' _).alloc' _).alloc' _
   | exact ((((Fr.refl [] w).alloc' _).alloc' _).alloc' _).drew'
   | exact ((((Fr.refl [] w).alloc' _).alloc' _).alloc' _).drewN' _
set_option maxRecDepth 100000 in
set_option maxHeartbeats 1600000 in
theorem rbare_28 (d s n i wd : Int) (w : World) : Calls Try.prog 30 #[.agg #[.int .i64 28, .int .i64 d, .int .i64 s, .int .i64 n, .int .i64 i, .int .u64 wd]] w (TwoPost w (.agg #[.int .i64 28, .int .i64 0, .int .i64 0, .int .i64 0, .int .i64 0, .int .u64 0])) := by
 have hu3 := Try.underlying32
 go_enter Try.func30, Try.ntmps30
 go_wp2
 all_goals
  refine bodyPost_ret (results_cell_row rfl _ _ (w.heap.size + 1) 32 #[.int .i64 28, .int .i64 0, .int .i64 0, .int .i64 0, .int .i64 0, .int .u64 0] (0, 0) _ rfl (heap_alloc_some (heap_at (by simp))) hu3 rfl rfl) rfl ⟨rfl, ?_⟩
  first
   | exact (((Fr.refl [] w).alloc' _).alloc' _).alloc' _
   | exact ((((Fr.refl [] w).alloc' _).alloc' _).alloc' _).drew'
   | exact ((((Fr.refl [] w).alloc' _).alloc' _).alloc' _).drewN' _
set_option maxRecDepth 100000 in
set_option maxHeartbeats 1600000 in
theorem rbare_29 (d s n i wd : Int) (w : World) : Calls Try.prog 30 #[.agg #[.int .i64 29, .int .i64 d, .int .i64 s, .int .i64 n, .int .i64 i, .int .u64 wd]] w (TwoPost w (.agg #[.int .i64 29, .int .i64 0, .int .i64 0, .int .i64 0, .int .i64 0, .int .u64 0])) := by
 have hu3 := Try.underlying32
 go_enter Try.func30, Try.ntmps30
 go_wp2
 all_goals
  refine bodyPost_ret (results_cell_row rfl _ _ (w.heap.size + 1) 32 #[.int .i64 29, .int .i64 0, .int .i64 0, .int .i64 0, .int .i64 0, .int .u64 0] (0, 0) _ rfl (heap_alloc_some (heap_at (by simp))) hu3 rfl rfl) rfl ⟨rfl, ?_⟩
  first
   | exact (((Fr.refl [] w).alloc' _).alloc' _).alloc' _
   | exact ((((Fr.refl [] w).alloc' _).alloc' _).alloc' _).drew'
   | exact ((((Fr.refl [] w).alloc' _).alloc' _).alloc' _).drewN' _
set_option maxRecDepth 100000 in
set_option maxHeartbeats 1600000 in
theorem rbare_21 (d s n i wd : Int) (w : World) : Calls Try.prog 30 #[.agg #[.int .i64 21, .int .i64 d, .int .i64 s, .int .i64 n, .int .i64 i, .int .u64 wd]] w (TwoPost w (.agg #[.int .i64 21, .int .i64 0, .int .i64 0, .int .i64 0, .int .i64 i, .int .u64 0])) := by
 have hu3 := Try.underlying32
 go_enter Try.func30, Try.ntmps30
 go_wp2
 all_goals
  refine bodyPost_ret (results_cell_row rfl _ _ (w.heap.size + 1) 32 #[.int .i64 21, .int .i64 0, .int .i64 0, .int .i64 0, .int .i64 i, .int .u64 0] (0, 0) _ rfl (heap_alloc_some (heap_at (by simp))) hu3 rfl rfl) rfl ⟨rfl, ?_⟩
  first
   | exact (((Fr.refl [] w).alloc' _).alloc' _).alloc' _
   | exact ((((Fr.refl [] w).alloc' _).alloc' _).alloc' _).drew'
   | exact ((((Fr.refl [] w).alloc' _).alloc' _).alloc' _).drewN' _
set_option maxRecDepth 100000 in
set_option maxHeartbeats 1600000 in
theorem rbare_22 (d s n i wd : Int) (w : World) : Calls Try.prog 30 #[.agg #[.int .i64 22, .int .i64 d, .int .i64 s, .int .i64 n, .int .i64 i, .int .u64 wd]] w (TwoPost w (.agg #[.int .i64 22, .int .i64 d, .int .i64 0, .int .i64 0, .int .i64 i, .int .u64 0])) := by
 have hu3 := Try.underlying32
 go_enter Try.func30, Try.ntmps30
 go_wp2
 all_goals
  refine bodyPost_ret (results_cell_row rfl _ _ (w.heap.size + 1) 32 #[.int .i64 22, .int .i64 d, .int .i64 0, .int .i64 0, .int .i64 i, .int .u64 0] (0, 0) _ rfl (heap_alloc_some (heap_at (by simp))) hu3 rfl rfl) rfl ⟨rfl, ?_⟩
  first
   | exact (((Fr.refl [] w).alloc' _).alloc' _).alloc' _
   | exact ((((Fr.refl [] w).alloc' _).alloc' _).alloc' _).drew'
   | exact ((((Fr.refl [] w).alloc' _).alloc' _).alloc' _).drewN' _
set_option maxRecDepth 100000 in
set_option maxHeartbeats 1600000 in
theorem rbare_2 (d s n i wd : Int) (w : World) : Calls Try.prog 30 #[.agg #[.int .i64 2, .int .i64 d, .int .i64 s, .int .i64 n, .int .i64 i, .int .u64 wd]] w (TwoPost w (.agg #[.int .i64 2, .int .i64 d, .int .i64 0, .int .i64 0, .int .i64 0, .int .u64 wd])) := by
 have hu3 := Try.underlying32
 go_enter Try.func30, Try.ntmps30
 go_wp2
 all_goals
  refine bodyPost_ret (results_cell_row rfl _ _ (w.heap.size + 1) 32 #[.int .i64 2, .int .i64 d, .int .i64 0, .int .i64 0, .int .i64 0, .int .u64 wd] (0, 0) _ rfl (heap_alloc_some (heap_at (by simp))) hu3 rfl rfl) rfl ⟨rfl, ?_⟩
  first
   | exact (((Fr.refl [] w).alloc' _).alloc' _).alloc' _
   | exact ((((Fr.refl [] w).alloc' _).alloc' _).alloc' _).drew'
   | exact ((((Fr.refl [] w).alloc' _).alloc' _).alloc' _).drewN' _
set_option maxRecDepth 100000 in
set_option maxHeartbeats 1600000 in
theorem rbare_18 (d s n i wd : Int) (w : World) : Calls Try.prog 30 #[.agg #[.int .i64 18, .int .i64 d, .int .i64 s, .int .i64 n, .int .i64 i, .int .u64 wd]] w (TwoPost w (.agg #[.int .i64 18, .int .i64 d, .int .i64 s, .int .i64 n, .int .i64 i, .int .u64 0])) := by
 have hu3 := Try.underlying32
 go_enter Try.func30, Try.ntmps30
 go_wp2
 go_region
 all_goals go_wp2
 all_goals
  refine bodyPost_ret (results_cell_row rfl _ _ (w.heap.size + 1) 32 #[.int .i64 18, .int .i64 d, .int .i64 s, .int .i64 n, .int .i64 i, .int .u64 0] (0, 0) _ rfl (heap_alloc_some (heap_at (by simp))) hu3 rfl rfl) rfl ⟨rfl, ?_⟩
  first
   | exact (((Fr.refl [] w).alloc' _).alloc' _).alloc' _
   | exact ((((Fr.refl [] w).alloc' _).alloc' _).alloc' _).drew'
   | exact ((((Fr.refl [] w).alloc' _).alloc' _).alloc' _).drewN' _
set_option maxRecDepth 100000 in
set_option maxHeartbeats 1600000 in
theorem rbare_19 (d s n i wd : Int) (w : World) : Calls Try.prog 30 #[.agg #[.int .i64 19, .int .i64 d, .int .i64 s, .int .i64 n, .int .i64 i, .int .u64 wd]] w (TwoPost w (.agg #[.int .i64 19, .int .i64 d, .int .i64 s, .int .i64 n, .int .i64 i, .int .u64 0])) := by
 have hu3 := Try.underlying32
 go_enter Try.func30, Try.ntmps30
 go_wp2
 go_region
 all_goals go_wp2
 all_goals
  refine bodyPost_ret (results_cell_row rfl _ _ (w.heap.size + 1) 32 #[.int .i64 19, .int .i64 d, .int .i64 s, .int .i64 n, .int .i64 i, .int .u64 0] (0, 0) _ rfl (heap_alloc_some (heap_at (by simp))) hu3 rfl rfl) rfl ⟨rfl, ?_⟩
  first
   | exact (((Fr.refl [] w).alloc' _).alloc' _).alloc' _
   | exact ((((Fr.refl [] w).alloc' _).alloc' _).alloc' _).drew'
   | exact ((((Fr.refl [] w).alloc' _).alloc' _).alloc' _).drewN' _
set_option maxRecDepth 100000 in
set_option maxHeartbeats 1600000 in
theorem rbare_20 (d s n i wd : Int) (w : World) : Calls Try.prog 30 #[.agg #[.int .i64 20, .int .i64 d, .int .i64 s, .int .i64 n, .int .i64 i, .int .u64 wd]] w (TwoPost w (.agg #[.int .i64 20, .int .i64 d, .int .i64 s, .int .i64 n, .int .i64 i, .int .u64 0])) := by
 have hu3 := Try.underlying32
 go_enter Try.func30, Try.ntmps30
 go_wp2
 go_region
 all_goals go_wp2
 all_goals
  refine bodyPost_ret (results_cell_row rfl _ _ (w.heap.size + 1) 32 #[.int .i64 20, .int .i64 d, .int .i64 s, .int .i64 n, .int .i64 i, .int .u64 0] (0, 0) _ rfl (heap_alloc_some (heap_at (by simp))) hu3 rfl rfl) rfl ⟨rfl, ?_⟩
  first
   | exact (((Fr.refl [] w).alloc' _).alloc' _).alloc' _
   | exact ((((Fr.refl [] w).alloc' _).alloc' _).alloc' _).drew'
   | exact ((((Fr.refl [] w).alloc' _).alloc' _).alloc' _).drewN' _
set_option maxRecDepth 100000 in
set_option maxHeartbeats 1600000 in
theorem rbare_26 (d s n i wd : Int) (w : World) : Calls Try.prog 30 #[.agg #[.int .i64 26, .int .i64 d, .int .i64 s, .int .i64 n, .int .i64 i, .int .u64 wd]] w (TwoPost w (.agg #[.int .i64 26, .int .i64 d, .int .i64 s, .int .i64 n, .int .i64 0, .int .u64 0])) := by
 have hu3 := Try.underlying32
 go_enter Try.func30, Try.ntmps30
 go_wp2
 go_region
 all_goals go_wp2
 all_goals
  refine bodyPost_ret (results_cell_row rfl _ _ (w.heap.size + 1) 32 #[.int .i64 26, .int .i64 d, .int .i64 s, .int .i64 n, .int .i64 0, .int .u64 0] (0, 0) _ rfl (heap_alloc_some (heap_at (by simp))) hu3 rfl rfl) rfl ⟨rfl, ?_⟩
  first
   | exact (((Fr.refl [] w).alloc' _).alloc' _).alloc' _
   | exact ((((Fr.refl [] w).alloc' _).alloc' _).alloc' _).drew'
   | exact ((((Fr.refl [] w).alloc' _).alloc' _).alloc' _).drewN' _
set_option maxRecDepth 100000 in
set_option maxHeartbeats 1600000 in
theorem rbare_27 (d s n i wd : Int) (w : World) : Calls Try.prog 30 #[.agg #[.int .i64 27, .int .i64 d, .int .i64 s, .int .i64 n, .int .i64 i, .int .u64 wd]] w (TwoPost w (.agg #[.int .i64 27, .int .i64 d, .int .i64 s, .int .i64 n, .int .i64 0, .int .u64 0])) := by
 have hu3 := Try.underlying32
 go_enter Try.func30, Try.ntmps30
 go_wp2
 go_region
 all_goals go_wp2
 all_goals
  refine bodyPost_ret (results_cell_row rfl _ _ (w.heap.size + 1) 32 #[.int .i64 27, .int .i64 d, .int .i64 s, .int .i64 n, .int .i64 0, .int .u64 0] (0, 0) _ rfl (heap_alloc_some (heap_at (by simp))) hu3 rfl rfl) rfl ⟨rfl, ?_⟩
  first
   | exact (((Fr.refl [] w).alloc' _).alloc' _).alloc' _
   | exact ((((Fr.refl [] w).alloc' _).alloc' _).alloc' _).drew'
   | exact ((((Fr.refl [] w).alloc' _).alloc' _).alloc' _).drewN' _
set_option maxRecDepth 100000 in
set_option maxHeartbeats 1600000 in
theorem rbare_11 (d s n i wd : Int) (w : World) : Calls Try.prog 30 #[.agg #[.int .i64 11, .int .i64 d, .int .i64 s, .int .i64 n, .int .i64 i, .int .u64 wd]] w (TwoPost w (.agg #[.int .i64 11, .int .i64 d, .int .i64 0, .int .i64 0, .int .i64 0, .int .u64 0])) := by
 have hu3 := Try.underlying32
 go_enter Try.func30, Try.ntmps30
 go_wp2
 all_goals
  refine bodyPost_ret (results_cell_row rfl _ _ (w.heap.size + 1) 32 #[.int .i64 11, .int .i64 d, .int .i64 0, .int .i64 0, .int .i64 0, .int .u64 0] (0, 0) _ rfl (heap_alloc_some (heap_at (by simp))) hu3 rfl rfl) rfl ⟨rfl, ?_⟩
  first
   | exact (((Fr.refl [] w).alloc' _).alloc' _).alloc' _
   | exact ((((Fr.refl [] w).alloc' _).alloc' _).alloc' _).drew'
   | exact ((((Fr.refl [] w).alloc' _).alloc' _).alloc' _).drewN' _
set_option maxRecDepth 100000 in
set_option maxHeartbeats 1600000 in
theorem rbare_12 (d s n i wd : Int) (w : World) : Calls Try.prog 30 #[.agg #[.int .i64 12, .int .i64 d, .int .i64 s, .int .i64 n, .int .i64 i, .int .u64 wd]] w (TwoPost w (.agg #[.int .i64 12, .int .i64 d, .int .i64 0, .int .i64 0, .int .i64 0, .int .u64 0])) := by
 have hu3 := Try.underlying32
 go_enter Try.func30, Try.ntmps30
 go_wp2
 all_goals
  refine bodyPost_ret (results_cell_row rfl _ _ (w.heap.size + 1) 32 #[.int .i64 12, .int .i64 d, .int .i64 0, .int .i64 0, .int .i64 0, .int .u64 0] (0, 0) _ rfl (heap_alloc_some (heap_at (by simp))) hu3 rfl rfl) rfl ⟨rfl, ?_⟩
  first
   | exact (((Fr.refl [] w).alloc' _).alloc' _).alloc' _
   | exact ((((Fr.refl [] w).alloc' _).alloc' _).alloc' _).drew'
   | exact ((((Fr.refl [] w).alloc' _).alloc' _).alloc' _).drewN' _
set_option maxRecDepth 100000 in
set_option maxHeartbeats 1600000 in
theorem rbare_13 (d s n i wd : Int) (w : World) : Calls Try.prog 30 #[.agg #[.int .i64 13, .int .i64 d, .int .i64 s, .int .i64 n, .int .i64 i, .int .u64 wd]] w (TwoPost w (.agg #[.int .i64 13, .int .i64 d, .int .i64 0, .int .i64 0, .int .i64 0, .int .u64 0])) := by
 have hu3 := Try.underlying32
 go_enter Try.func30, Try.ntmps30
 go_wp2
 all_goals
  refine bodyPost_ret (results_cell_row rfl _ _ (w.heap.size + 1) 32 #[.int .i64 13, .int .i64 d, .int .i64 0, .int .i64 0, .int .i64 0, .int .u64 0] (0, 0) _ rfl (heap_alloc_some (heap_at (by simp))) hu3 rfl rfl) rfl ⟨rfl, ?_⟩
  first
   | exact (((Fr.refl [] w).alloc' _).alloc' _).alloc' _
   | exact ((((Fr.refl [] w).alloc' _).alloc' _).alloc' _).drew'
   | exact ((((Fr.refl [] w).alloc' _).alloc' _).alloc' _).drewN' _
set_option maxRecDepth 100000 in
set_option maxHeartbeats 1600000 in
theorem rbare_14 (d s n i wd : Int) (w : World) : Calls Try.prog 30 #[.agg #[.int .i64 14, .int .i64 d, .int .i64 s, .int .i64 n, .int .i64 i, .int .u64 wd]] w (TwoPost w (.agg #[.int .i64 14, .int .i64 d, .int .i64 0, .int .i64 0, .int .i64 0, .int .u64 0])) := by
 have hu3 := Try.underlying32
 go_enter Try.func30, Try.ntmps30
 go_wp2
 all_goals
  refine bodyPost_ret (results_cell_row rfl _ _ (w.heap.size + 1) 32 #[.int .i64 14, .int .i64 d, .int .i64 0, .int .i64 0, .int .i64 0, .int .u64 0] (0, 0) _ rfl (heap_alloc_some (heap_at (by simp))) hu3 rfl rfl) rfl ⟨rfl, ?_⟩
  first
   | exact (((Fr.refl [] w).alloc' _).alloc' _).alloc' _
   | exact ((((Fr.refl [] w).alloc' _).alloc' _).alloc' _).drew'
   | exact ((((Fr.refl [] w).alloc' _).alloc' _).alloc' _).drewN' _
set_option maxRecDepth 100000 in
set_option maxHeartbeats 1600000 in
theorem rbare_15 (d s n i wd : Int) (w : World) : Calls Try.prog 30 #[.agg #[.int .i64 15, .int .i64 d, .int .i64 s, .int .i64 n, .int .i64 i, .int .u64 wd]] w (TwoPost w (.agg #[.int .i64 15, .int .i64 d, .int .i64 0, .int .i64 0, .int .i64 0, .int .u64 0])) := by
 have hu3 := Try.underlying32
 go_enter Try.func30, Try.ntmps30
 go_wp2
 all_goals
  refine bodyPost_ret (results_cell_row rfl _ _ (w.heap.size + 1) 32 #[.int .i64 15, .int .i64 d, .int .i64 0, .int .i64 0, .int .i64 0, .int .u64 0] (0, 0) _ rfl (heap_alloc_some (heap_at (by simp))) hu3 rfl rfl) rfl ⟨rfl, ?_⟩
  first
   | exact (((Fr.refl [] w).alloc' _).alloc' _).alloc' _
   | exact ((((Fr.refl [] w).alloc' _).alloc' _).alloc' _).drew'
   | exact ((((Fr.refl [] w).alloc' _).alloc' _).alloc' _).drewN' _
set_option maxRecDepth 100000 in
set_option maxHeartbeats 1600000 in
theorem rbare_16 (d s n i wd : Int) (w : World) : Calls Try.prog 30 #[.agg #[.int .i64 16, .int .i64 d, .int .i64 s, .int .i64 n, .int .i64 i, .int .u64 wd]] w (TwoPost w (.agg #[.int .i64 16, .int .i64 d, .int .i64 0, .int .i64 0, .int .i64 0, .int .u64 0])) := by
 have hu3 := Try.underlying32
 go_enter Try.func30, Try.ntmps30
 go_wp2
 all_goals
  refine bodyPost_ret (results_cell_row rfl _ _ (w.heap.size + 1) 32 #[.int .i64 16, .int .i64 d, .int .i64 0, .int .i64 0, .int .i64 0, .int .u64 0] (0, 0) _ rfl (heap_alloc_some (heap_at (by simp))) hu3 rfl rfl) rfl ⟨rfl, ?_⟩
  first
   | exact (((Fr.refl [] w).alloc' _).alloc' _).alloc' _
   | exact ((((Fr.refl [] w).alloc' _).alloc' _).alloc' _).drew'
   | exact ((((Fr.refl [] w).alloc' _).alloc' _).alloc' _).drewN' _
set_option maxRecDepth 100000 in
set_option maxHeartbeats 1600000 in
theorem rbare_23 (d s n i wd : Int) (w : World) : Calls Try.prog 30 #[.agg #[.int .i64 23, .int .i64 d, .int .i64 s, .int .i64 n, .int .i64 i, .int .u64 wd]] w (TwoPost w (.agg #[.int .i64 23, .int .i64 d, .int .i64 0, .int .i64 0, .int .i64 0, .int .u64 0])) := by
 have hu3 := Try.underlying32
 go_enter Try.func30, Try.ntmps30
 go_wp2
 all_goals
  refine bodyPost_ret (results_cell_row rfl _ _ (w.heap.size + 1) 32 #[.int .i64 23, .int .i64 d, .int .i64 0, .int .i64 0, .int .i64 0, .int .u64 0] (0, 0) _ rfl (heap_alloc_some (heap_at (by simp))) hu3 rfl rfl) rfl ⟨rfl, ?_⟩
  first
   | exact (((Fr.refl [] w).alloc' _).alloc' _).alloc' _
   | exact ((((Fr.refl [] w).alloc' _).alloc' _).alloc' _).drew'
   | exact ((((Fr.refl [] w).alloc' _).alloc' _).alloc' _).drewN' _
set_option maxRecDepth 100000 in
set_option maxHeartbeats 1600000 in
theorem rbare_24 (d s n i wd : Int) (w : World) : Calls Try.prog 30 #[.agg #[.int .i64 24, .int .i64 d, .int .i64 s, .int .i64 n, .int .i64 i, .int .u64 wd]] w (TwoPost w (.agg #[.int .i64 24, .int .i64 d, .int .i64 0, .int .i64 0, .int .i64 0, .int .u64 0])) := by
 have hu3 := Try.underlying32
 go_enter Try.func30, Try.ntmps30
 go_wp2
 all_goals
  refine bodyPost_ret (results_cell_row rfl _ _ (w.heap.size + 1) 32 #[.int .i64 24, .int .i64 d, .int .i64 0, .int .i64 0, .int .i64 0, .int .u64 0] (0, 0) _ rfl (heap_alloc_some (heap_at (by simp))) hu3 rfl rfl) rfl ⟨rfl, ?_⟩
  first
   | exact (((Fr.refl [] w).alloc' _).alloc' _).alloc' _
   | exact ((((Fr.refl [] w).alloc' _).alloc' _).alloc' _).drew'
   | exact ((((Fr.refl [] w).alloc' _).alloc' _).alloc' _).drewN' _
set_option maxRecDepth 100000 in
set_option maxHeartbeats 1600000 in
theorem rbare_25 (d s n i wd : Int) (w : World) : Calls Try.prog 30 #[.agg #[.int .i64 25, .int .i64 d, .int .i64 s, .int .i64 n, .int .i64 i, .int .u64 wd]] w (TwoPost w (.agg #[.int .i64 25, .int .i64 d, .int .i64 0, .int .i64 0, .int .i64 0, .int .u64 0])) := by
 have hu3 := Try.underlying32
 go_enter Try.func30, Try.ntmps30
 go_wp2
 all_goals
  refine bodyPost_ret (results_cell_row rfl _ _ (w.heap.size + 1) 32 #[.int .i64 25, .int .i64 d, .int .i64 0, .int .i64 0, .int .i64 0, .int .u64 0] (0, 0) _ rfl (heap_alloc_some (heap_at (by simp))) hu3 rfl rfl) rfl ⟨rfl, ?_⟩
  first
   | exact (((Fr.refl [] w).alloc' _).alloc' _).alloc' _
   | exact ((((Fr.refl [] w).alloc' _).alloc' _).alloc' _).drew'
   | exact ((((Fr.refl [] w).alloc' _).alloc' _).alloc' _).drewN' _
set_option maxRecDepth 100000 in
set_option maxHeartbeats 1600000 in
theorem rbare_x (kd d s n i wd : Int) (hk : kd ≠ 17 ∧ kd ≠ 28 ∧ kd ≠ 29 ∧ kd ≠ 21 ∧ kd ≠ 22 ∧ kd ≠ 2 ∧ kd ≠ 18 ∧ kd ≠ 19 ∧ kd ≠ 20 ∧ kd ≠ 26 ∧ kd ≠ 27 ∧ kd ≠ 11 ∧ kd ≠ 12 ∧ kd ≠ 13 ∧ kd ≠ 14 ∧ kd ≠ 15 ∧ kd ≠ 16 ∧ kd ≠ 23 ∧ kd ≠ 24 ∧ kd ≠ 25) (w : World) : Calls Try.prog 30 #[.agg #[.int .i64 kd, .int .i64 d, .int .i64 s, .int .i64 n, .int .i64 i, .int .u64 wd]] w (TwoPost w (.agg #[.int .i64 kd, .int .i64 d, .int .i64 s, .int .i64 0, .int .i64 0, .int .u64 0])) := by
 have hu3 := Try.underlying32
 have b17 : (kd == 17) = false := by rw [beq_eq_false_iff_ne]; omega
 have b28 : (kd == 28) = false := by rw [beq_eq_false_iff_ne]; omega
 have b29 : (kd == 29) = false := by rw [beq_eq_false_iff_ne]; omega
 have b21 : (kd == 21) = false := by rw [beq_eq_false_iff_ne]; omega
 have b22 : (kd == 22) = false := by rw [beq_eq_false_iff_ne]; omega
 have b2 : (kd == 2) = false := by rw [beq_eq_false_iff_ne]; omega
 have b18 : (kd == 18) = false := by rw [beq_eq_false_iff_ne]; omega
 have b19 : (kd == 19) = false := by rw [beq_eq_false_iff_ne]; omega
 have b20 : (kd == 20) = false := by rw [beq_eq_false_iff_ne]; omega
 have b26 : (kd == 26) = false := by rw [beq_eq_false_iff_ne]; omega
 have b27 : (kd == 27) = false := by rw [beq_eq_false_iff_ne]; omega
 have b11 : (kd == 11) = false := by rw [beq_eq_false_iff_ne]; omega
 have b12 : (kd == 12) = false := by rw [beq_eq_false_iff_ne]; omega
 have b13 : (kd == 13) = false := by rw [beq_eq_false_iff_ne]; omega
 have b14 : (kd == 14) = false := by rw [beq_eq_false_iff_ne]; omega
 have b15 : (kd == 15) = false := by rw [beq_eq_false_iff_ne]; omega
 have b16 : (kd == 16) = false := by rw [beq_eq_false_iff_ne]; omega
 have b23 : (kd == 23) = false := by rw [beq_eq_false_iff_ne]; omega
 have b24 : (kd == 24) = false := by rw [beq_eq_false_iff_ne]; omega
 have b25 : (kd == 25) = false := by rw [beq_eq_false_iff_ne]; omega
 clear hk
 go_enter Try.func30, Try.ntmps30
 go_wp2
 all_goals
  refine bodyPost_ret (results_cell_row rfl _ _ (w.heap.size + 1) 32 #[.int .i64 kd, .int .i64 d, .int .i64 s, .int .i64 0, .int .i64 0, .int .u64 0] (0, 0) _ rfl (heap_alloc_some (heap_at (by simp))) hu3 rfl rfl) rfl ⟨rfl, ?_⟩
  first
   | exact (((Fr.refl [] w).alloc' _).alloc' _).alloc' _
   | exact ((((Fr.refl [] w).alloc' _).alloc' _).alloc' _).drew'
   | exact ((((Fr.refl [] w).alloc' _).alloc' _).alloc' _).drewN' _
end Go.Proofs.Ytpahjllcomejbaa

/- The reference's bare and lay in the form that printed texts take; no condition beyond each lemma's own. -/
set_option linter.unusedVariables false
set_option linter.unusedSimpArgs false
namespace Go.Proofs.Ytpahjllcomejbaa
open Go.RowKit Go.MapKept
open Go.Proofs.YtpahjllcomejbaaW.PrintWords Go.Proofs.YtpahjllcomejbaaW.PrintLast Go.Proofs.YtpahjllcomejbaaW.PrintMore
theorem rbare_calls (kd d s n i wd : Int) (w : World) : Calls Try.prog 30 #[.agg #[.int .i64 kd, .int .i64 d, .int .i64 s, .int .i64 n, .int .i64 i, .int .u64 wd]] w
    (TwoPost w (.agg #[.int .i64 (bareS kd d s n i wd).1, .int .i64 (bareS kd d s n i wd).2.1, .int .i64 (bareS kd d s n i wd).2.2.1, .int .i64 (bareS kd d s n i wd).2.2.2.1, .int .i64 (bareS kd d s n i wd).2.2.2.2.1, .int .u64 (bareS kd d s n i wd).2.2.2.2.2])) := by
  by_cases c17 : kd = 17
  · subst c17; exact rbare_17 d s n i wd w
  by_cases c28 : kd = 28
  · subst c28; exact rbare_28 d s n i wd w
  by_cases c29 : kd = 29
  · subst c29; exact rbare_29 d s n i wd w
  by_cases c21 : kd = 21
  · subst c21; exact rbare_21 d s n i wd w
  by_cases c22 : kd = 22
  · subst c22; exact rbare_22 d s n i wd w
  by_cases c2 : kd = 2
  · subst c2; exact rbare_2 d s n i wd w
  by_cases c18 : kd = 18
  · subst c18; exact rbare_18 d s n i wd w
  by_cases c19 : kd = 19
  · subst c19; exact rbare_19 d s n i wd w
  by_cases c20 : kd = 20
  · subst c20; exact rbare_20 d s n i wd w
  by_cases c26 : kd = 26
  · subst c26; exact rbare_26 d s n i wd w
  by_cases c27 : kd = 27
  · subst c27; exact rbare_27 d s n i wd w
  by_cases c11 : kd = 11
  · subst c11; exact rbare_11 d s n i wd w
  by_cases c12 : kd = 12
  · subst c12; exact rbare_12 d s n i wd w
  by_cases c13 : kd = 13
  · subst c13; exact rbare_13 d s n i wd w
  by_cases c14 : kd = 14
  · subst c14; exact rbare_14 d s n i wd w
  by_cases c15 : kd = 15
  · subst c15; exact rbare_15 d s n i wd w
  by_cases c16 : kd = 16
  · subst c16; exact rbare_16 d s n i wd w
  by_cases c23 : kd = 23
  · subst c23; exact rbare_23 d s n i wd w
  by_cases c24 : kd = 24
  · subst c24; exact rbare_24 d s n i wd w
  by_cases c25 : kd = 25
  · subst c25; exact rbare_25 d s n i wd w
  have e : bareS kd d s n i wd = (kd, d, s, 0, 0, 0) := by simp [bareS, c17, c28, c29, c21, c22, c2, c18, c19, c20, c26, c27, c11, c12, c13, c14, c15, c16, c23, c24, c25]
  rw [e]
  exact rbare_x kd d s n i wd ⟨c17, c28, c29, c21, c22, c2, c18, c19, c20, c26, c27, c11, c12, c13, c14, c15, c16, c23, c24, c25⟩ w
def rbare.f (kd d s n i wd : Int) : Option X6 := some (bareS kd d s n i wd)
theorem rbare.calls (kd d s n i wd r1 r2 r3 r4 r5 r6 : Int) (w : World) (h : rbare.f kd d s n i wd = some (r1, r2, r3, r4, r5, r6)) :
    Calls Try.prog 30 #[.agg #[.int .i64 kd, .int .i64 d, .int .i64 s, .int .i64 n, .int .i64 i, .int .u64 wd]] w fun e w' => e = .returned (.agg #[.int .i64 r1, .int .i64 r2, .int .i64 r3, .int .i64 r4, .int .i64 r5, .int .u64 r6]) ∧ Below w.heap.size w w' :=
  by
  have e : bareS kd d s n i wd = (r1, r2, r3, r4, r5, r6) := Option.some.inj h
  have := rbare_calls kd d s n i wd w
  rw [e] at this
  exact this.mono fun e W ⟨a, b⟩ => ⟨a, b.below (Nat.le_refl _) (by simp)⟩
def rtail.f (s : ByteArray) (n : Int) : Option Int := QRef.portcullisref24_tail.f 20 s n
theorem rtail.calls (s : ByteArray) (n : Int) (r : Int) (w : World) (h : rtail.f s n = some r) :
    Calls Try.prog 36 #[.string s, .int .i64 n] w fun e w' => e = .returned (.int .u64 r) ∧ Below w.heap.size w w' :=
  QRef.portcullisref24_tail.calls 20 s n r w h
end Go.Proofs.Ytpahjllcomejbaa
