/- An instruction with its own fields alone, walked by hand; no condition. -/
import Derived.Test.YtpahjllcomejbaaBareH
import Derived.WalkKit
import Derived.Laws.Rows
import Derived.RegionTactic
set_option linter.unusedVariables false
set_option linter.unusedSimpArgs false
namespace Go.Proofs.Ytpahjllcomejbaa
open Go.RowKit Go.MapKept
set_option maxRecDepth 100000 in
set_option maxHeartbeats 1600000 in
theorem rbare_17 (d s n i wd : Int) (w : World) : Calls Try.prog 30 #[.agg #[.int .i64 17, .int .i64 d, .int .i64 s, .int .i64 n, .int .i64 i, .int .u64 wd]] w (TwoPost w (.agg #[.int .i64 17, .int .i64 0, .int .i64 0, .int .i64 0, .int .i64 0, .int .u64 0])) := by
 have hu3 := Try.underlying32
 go_enter Try.func30, Try.ntmps30
 go_wp2
 all_goals
  refine bodyPost_ret (results_cell_row rfl _ _ (w.heap.size + 1) 32 #[.int .i64 17, .int .i64 0, .int .i64 0, .int .i64 0, .int .i64 0, .int .u64 0] (0, 0) _ rfl (heap_alloc_some (heap_at (by simp))) hu3 rfl rfl) rfl ⟨rfl, ?_⟩
  first
   | exact (((Fr.refl [] w).alloc' _).alloc' _).alloc' _
   | exact ((((Fr.refl [] w).alloc' _).alloc' _).alloc' _).drew'
   | exact ((((Fr.refl [] w).alloc' _).alloc' _).alloc' _).drewN' _
set_option maxRecDepth 100000 in
set_option maxHeartbeats 1600000 in
theorem rbare_28 (d s n i wd : Int) (w : World) : Calls Try.prog 30 #[.agg #[.int .i64 28, .int .i64 d, .int .i64 s, .int .i64 n, .int .i64 i, .int .u64 wd]] w (TwoPost w (.agg #[.int .i64 28, .int .i64 0, .int .i64 0, .int .i64 0, .int .i64 0, .int .u64 0])) := by
 have hu3 := Try.underlying32
 go_enter Try.func30, Try.ntmps30
 go_wp2
 all_goals
  refine bodyPost_ret (results_cell_row rfl _ _ (w.heap.size + 1) 32 #[.int .i64 28, .int .i64 0, .int .i64 0, .int .i64 0, .int .i64 0, .int .u64 0] (0, 0) _ rfl (heap_alloc_some (heap_at (by simp))) hu3 rfl rfl) rfl ⟨rfl, ?_⟩
  first
   | exact (((Fr.refl [] w).alloc' _).alloc' _).alloc' _
   | exact ((((Fr.refl [] w).alloc' _).alloc' _).alloc' _).drew'
   | exact ((((Fr.refl [] w).alloc' _).alloc' _).alloc' _).drewN' _
set_option maxRecDepth 100000 in
set_option maxHeartbeats 1600000 in
theorem rbare_29 (d s n i wd : Int) (w : World) : Calls Try.prog 30 #[.agg #[.int .i64 29, .int .i64 d, .int .i64 s, .int .i64 n, .int .i64 i, .int .u64 wd]] w (TwoPost w (.agg #[.int .i64 29, .int .i64 0, .int .i64 0, .int .i64 0, .int .i64 0, .int .u64 0])) := by
 have hu3 := Try.underlying32
 go_enter Try.func30, Try.ntmps30
 go_wp2
 all_goals
  refine bodyPost_ret (results_cell_row rfl _ _ (w.heap.size + 1) 32 #[.int .i64 29, .int .i64 0, .int .i64 0, .int .i64 0, .int .i64 0, .int .u64 0] (0, 0) _ rfl (heap_alloc_some (heap_at (by simp))) hu3 rfl rfl) rfl ⟨rfl, ?_⟩
  first
   | exact (((Fr.refl [] w).alloc' _).alloc' _).alloc' _
   | exact ((((Fr.refl [] w).alloc' _).alloc' _).alloc' _).drew'
   | exact ((((Fr.refl [] w).alloc' _).alloc' _).alloc' _).drewN' _
set_option maxRecDepth 100000 in
set_option maxHeartbeats 1600000 in
theorem rbare_21 (d s n i wd : Int) (w : World) : Calls Try.prog 30 #[.agg #[.int .i64 21, .int .i64 d, .int .i64 s, .int .i64 n, .int .i64 i, .int .u64 wd]] w (TwoPost w (.agg #[.int .i64 21, .int .i64 0, .int .i64 0, .int .i64 0, .int .i64 i, .int .u64 0])) := by
 have hu3 := Try.underlying32
 go_enter Try.func30, Try.ntmps30
 go_wp2
 all_goals
  refine bodyPost_ret (results_cell_row rfl _ _ (w.heap.size + 1) 32 #[.int .i64 21, .int .i64 0, .int .i64 0, .int .i64 0, .int .i64 i, .int .u64 0] (0, 0) _ rfl (heap_alloc_some (heap_at (by simp))) hu3 rfl rfl) rfl ⟨rfl, ?_⟩
  first
   | exact (((Fr.refl [] w).alloc' _).alloc' _).alloc' _
   | exact ((((Fr.refl [] w).alloc' _).alloc' _).alloc' _).drew'
   | exact ((((Fr.refl [] w).alloc' _).alloc' _).alloc' _).drewN' _
set_option maxRecDepth 100000 in
set_option maxHeartbeats 1600000 in
theorem rbare_22 (d s n i wd : Int) (w : World) : Calls Try.prog 30 #[.agg #[.int .i64 22, .int .i64 d, .int .i64 s, .int .i64 n, .int .i64 i, .int .u64 wd]] w (TwoPost w (.agg #[.int .i64 22, .int .i64 d, .int .i64 0, .int .i64 0, .int .i64 i, .int .u64 0])) := by
 have hu3 := Try.underlying32
 go_enter Try.func30, Try.ntmps30
 go_wp2
 all_goals
  refine bodyPost_ret (results_cell_row rfl _ _ (w.heap.size + 1) 32 #[.int .i64 22, .int .i64 d, .int .i64 0, .int .i64 0, .int .i64 i, .int .u64 0] (0, 0) _ rfl (heap_alloc_some (heap_at (by simp))) hu3 rfl rfl) rfl ⟨rfl, ?_⟩
  first
   | exact (((Fr.refl [] w).alloc' _).alloc' _).alloc' _
   | exact ((((Fr.refl [] w).alloc' _).alloc' _).alloc' _).drew'
   | exact ((((Fr.refl [] w).alloc' _).alloc' _).alloc' _).drewN' _
set_option maxRecDepth 100000 in
set_option maxHeartbeats 1600000 in
theorem rbare_2 (d s n i wd : Int) (w : World) : Calls Try.prog 30 #[.agg #[.int .i64 2, .int .i64 d, .int .i64 s, .int .i64 n, .int .i64 i, .int .u64 wd]] w (TwoPost w (.agg #[.int .i64 2, .int .i64 d, .int .i64 0, .int .i64 0, .int .i64 0, .int .u64 wd])) := by
 have hu3 := Try.underlying32
 go_enter Try.func30, Try.ntmps30
 go_wp2
 all_goals
  refine bodyPost_ret (results_cell_row rfl _ _ (w.heap.size + 1) 32 #[.int .i64 2, .int .i64 d, .int .i64 0, .int .i64 0, .int .i64 0, .int .u64 wd] (0, 0) _ rfl (heap_alloc_some (heap_at (by simp))) hu3 rfl rfl) rfl ⟨rfl, ?_⟩
  first
   | exact (((Fr.refl [] w).alloc' _).alloc' _).alloc' _
   | exact ((((Fr.refl [] w).alloc' _).alloc' _).alloc' _).drew'
   | exact ((((Fr.refl [] w).alloc' _).alloc' _).alloc' _).drewN' _
set_option maxRecDepth 100000 in
set_option maxHeartbeats 1600000 in
theorem rbare_18 (d s n i wd : Int) (w : World) : Calls Try.prog 30 #[.agg #[.int .i64 18, .int .i64 d, .int .i64 s, .int .i64 n, .int .i64 i, .int .u64 wd]] w (TwoPost w (.agg #[.int .i64 18, .int .i64 d, .int .i64 s, .int .i64 n, .int .i64 i, .int .u64 0])) := by
 have hu3 := Try.underlying32
 go_enter Try.func30, Try.ntmps30
 go_wp2
 go_region
 all_goals go_wp2
 all_goals
  refine bodyPost_ret (results_cell_row rfl _ _ (w.heap.size + 1) 32 #[.int .i64 18, .int .i64 d, .int .i64 s, .int .i64 n, .int .i64 i, .int .u64 0] (0, 0) _ rfl (heap_alloc_some (heap_at (by simp))) hu3 rfl rfl) rfl ⟨rfl, ?_⟩
  first
   | exact (((Fr.refl [] w).alloc' _).alloc' _).alloc' _
   | exact ((((Fr.refl [] w).alloc' _).alloc' _).alloc' _).drew'
   | exact ((((Fr.refl [] w).alloc' _).alloc' _).alloc' _).drewN' _
set_option maxRecDepth 100000 in
set_option maxHeartbeats 1600000 in
theorem rbare_19 (d s n i wd : Int) (w : World) : Calls Try.prog 30 #[.agg #[.int .i64 19, .int .i64 d, .int .i64 s, .int .i64 n, .int .i64 i, .int .u64 wd]] w (TwoPost w (.agg #[.int .i64 19, .int .i64 d, .int .i64 s, .int .i64 n, .int .i64 i, .int .u64 0])) := by
 have hu3 := Try.underlying32
 go_enter Try.func30, Try.ntmps30
 go_wp2
 go_region
 all_goals go_wp2
 all_goals
  refine bodyPost_ret (results_cell_row rfl _ _ (w.heap.size + 1) 32 #[.int .i64 19, .int .i64 d, .int .i64 s, .int .i64 n, .int .i64 i, .int .u64 0] (0, 0) _ rfl (heap_alloc_some (heap_at (by simp))) hu3 rfl rfl) rfl ⟨rfl, ?_⟩
  first
   | exact (((Fr.refl [] w).alloc' _).alloc' _).alloc' _
   | exact ((((Fr.refl [] w).alloc' _).alloc' _).alloc' _).drew'
   | exact ((((Fr.refl [] w).alloc' _).alloc' _).alloc' _).drewN' _
set_option maxRecDepth 100000 in
set_option maxHeartbeats 1600000 in
theorem rbare_20 (d s n i wd : Int) (w : World) : Calls Try.prog 30 #[.agg #[.int .i64 20, .int .i64 d, .int .i64 s, .int .i64 n, .int .i64 i, .int .u64 wd]] w (TwoPost w (.agg #[.int .i64 20, .int .i64 d, .int .i64 s, .int .i64 n, .int .i64 i, .int .u64 0])) := by
 have hu3 := Try.underlying32
 go_enter Try.func30, Try.ntmps30
 go_wp2
 go_region
 all_goals go_wp2
 all_goals
  refine bodyPost_ret (results_cell_row rfl _ _ (w.heap.size + 1) 32 #[.int .i64 20, .int .i64 d, .int .i64 s, .int .i64 n, .int .i64 i, .int .u64 0] (0, 0) _ rfl (heap_alloc_some (heap_at (by simp))) hu3 rfl rfl) rfl ⟨rfl, ?_⟩
  first
   | exact (((Fr.refl [] w).alloc' _).alloc' _).alloc' _
   | exact ((((Fr.refl [] w).alloc' _).alloc' _).alloc' _).drew'
   | exact ((((Fr.refl [] w).alloc' _).alloc' _).alloc' _).drewN' _
set_option maxRecDepth 100000 in
set_option maxHeartbeats 1600000 in
theorem rbare_26 (d s n i wd : Int) (w : World) : Calls Try.prog 30 #[.agg #[.int .i64 26, .int .i64 d, .int .i64 s, .int .i64 n, .int .i64 i, .int .u64 wd]] w (TwoPost w (.agg #[.int .i64 26, .int .i64 d, .int .i64 s, .int .i64 n, .int .i64 0, .int .u64 0])) := by
 have hu3 := Try.underlying32
 go_enter Try.func30, Try.ntmps30
 go_wp2
 go_region
 all_goals go_wp2
 all_goals
  refine bodyPost_ret (results_cell_row rfl _ _ (w.heap.size + 1) 32 #[.int .i64 26, .int .i64 d, .int .i64 s, .int .i64 n, .int .i64 0, .int .u64 0] (0, 0) _ rfl (heap_alloc_some (heap_at (by simp))) hu3 rfl rfl) rfl ⟨rfl, ?_⟩
  first
   | exact (((Fr.refl [] w).alloc' _).alloc' _).alloc' _
   | exact ((((Fr.refl [] w).alloc' _).alloc' _).alloc' _).drew'
   | exact ((((Fr.refl [] w).alloc' _).alloc' _).alloc' _).drewN' _
set_option maxRecDepth 100000 in
set_option maxHeartbeats 1600000 in
theorem rbare_27 (d s n i wd : Int) (w : World) : Calls Try.prog 30 #[.agg #[.int .i64 27, .int .i64 d, .int .i64 s, .int .i64 n, .int .i64 i, .int .u64 wd]] w (TwoPost w (.agg #[.int .i64 27, .int .i64 d, .int .i64 s, .int .i64 n, .int .i64 0, .int .u64 0])) := by
 have hu3 := Try.underlying32
 go_enter Try.func30, Try.ntmps30
 go_wp2
 go_region
 all_goals go_wp2
 all_goals
  refine bodyPost_ret (results_cell_row rfl _ _ (w.heap.size + 1) 32 #[.int .i64 27, .int .i64 d, .int .i64 s, .int .i64 n, .int .i64 0, .int .u64 0] (0, 0) _ rfl (heap_alloc_some (heap_at (by simp))) hu3 rfl rfl) rfl ⟨rfl, ?_⟩
  first
   | exact (((Fr.refl [] w).alloc' _).alloc' _).alloc' _
   | exact ((((Fr.refl [] w).alloc' _).alloc' _).alloc' _).drew'
   | exact ((((Fr.refl [] w).alloc' _).alloc' _).alloc' _).drewN' _
set_option maxRecDepth 100000 in
set_option maxHeartbeats 1600000 in
theorem rbare_11 (d s n i wd : Int) (w : World) : Calls Try.prog 30 #[.agg #[.int .i64 11, .int .i64 d, .int .i64 s, .int .i64 n, .int .i64 i, .int .u64 wd]] w (TwoPost w (.agg #[.int .i64 11, .int .i64 d, .int .i64 0, .int .i64 0, .int .i64 0, .int .u64 0])) := by
 have hu3 := Try.underlying32
 go_enter Try.func30, Try.ntmps30
 go_wp2
 all_goals
  refine bodyPost_ret (results_cell_row rfl _ _ (w.heap.size + 1) 32 #[.int .i64 11, .int .i64 d, .int .i64 0, .int .i64 0, .int .i64 0, .int .u64 0] (0, 0) _ rfl (heap_alloc_some (heap_at (by simp))) hu3 rfl rfl) rfl ⟨rfl, ?_⟩
  first
   | exact (((Fr.refl [] w).alloc' _).alloc' _).alloc' _
   | exact ((((Fr.refl [] w).alloc' _).alloc' _).alloc' _).drew'
   | exact ((((Fr.refl [] w).alloc' _).alloc' _).alloc' _).drewN' _
set_option maxRecDepth 100000 in
set_option maxHeartbeats 1600000 in
theorem rbare_12 (d s n i wd : Int) (w : World) : Calls Try.prog 30 #[.agg #[.int .i64 12, .int .i64 d, .int .i64 s, .int .i64 n, .int .i64 i, .int .u64 wd]] w (TwoPost w (.agg #[.int .i64 12, .int .i64 d, .int .i64 0, .int .i64 0, .int .i64 0, .int .u64 0])) := by
 have hu3 := Try.underlying32
 go_enter Try.func30, Try.ntmps30
 go_wp2
 all_goals
  refine bodyPost_ret (results_cell_row rfl _ _ (w.heap.size + 1) 32 #[.int .i64 12, .int .i64 d, .int .i64 0, .int .i64 0, .int .i64 0, .int .u64 0] (0, 0) _ rfl (heap_alloc_some (heap_at (by simp))) hu3 rfl rfl) rfl ⟨rfl, ?_⟩
  first
   | exact (((Fr.refl [] w).alloc' _).alloc' _).alloc' _
   | exact ((((Fr.refl [] w).alloc' _).alloc' _).alloc' _).drew'
   | exact ((((Fr.refl [] w).alloc' _).alloc' _).alloc' _).drewN' _
set_option maxRecDepth 100000 in
set_option maxHeartbeats 1600000 in
theorem rbare_13 (d s n i wd : Int) (w : World) : Calls Try.prog 30 #[.agg #[.int .i64 13, .int .i64 d, .int .i64 s, .int .i64 n, .int .i64 i, .int .u64 wd]] w (TwoPost w (.agg #[.int .i64 13, .int .i64 d, .int .i64 0, .int .i64 0, .int .i64 0, .int .u64 0])) := by
 have hu3 := Try.underlying32
 go_enter Try.func30, Try.ntmps30
 go_wp2
 all_goals
  refine bodyPost_ret (results_cell_row rfl _ _ (w.heap.size + 1) 32 #[.int .i64 13, .int .i64 d, .int .i64 0, .int .i64 0, .int .i64 0, .int .u64 0] (0, 0) _ rfl (heap_alloc_some (heap_at (by simp))) hu3 rfl rfl) rfl ⟨rfl, ?_⟩
  first
   | exact (((Fr.refl [] w).alloc' _).alloc' _).alloc' _
   | exact ((((Fr.refl [] w).alloc' _).alloc' _).alloc' _).drew'
   | exact ((((Fr.refl [] w).alloc' _).alloc' _).alloc' _).drewN' _
set_option maxRecDepth 100000 in
set_option maxHeartbeats 1600000 in
theorem rbare_14 (d s n i wd : Int) (w : World) : Calls Try.prog 30 #[.agg #[.int .i64 14, .int .i64 d, .int .i64 s, .int .i64 n, .int .i64 i, .int .u64 wd]] w (TwoPost w (.agg #[.int .i64 14, .int .i64 d, .int .i64 0, .int .i64 0, .int .i64 0, .int .u64 0])) := by
 have hu3 := Try.underlying32
 go_enter Try.func30, Try.ntmps30
 go_wp2
 all_goals
  refine bodyPost_ret (results_cell_row rfl _ _ (w.heap.size + 1) 32 #[.int .i64 14, .int .i64 d, .int .i64 0, .int .i64 0, .int .i64 0, .int .u64 0] (0, 0) _ rfl (heap_alloc_some (heap_at (by simp))) hu3 rfl rfl) rfl ⟨rfl, ?_⟩
  first
   | exact (((Fr.refl [] w).alloc' _).alloc' _).alloc' _
   | exact ((((Fr.refl [] w).alloc' _).alloc' _).alloc' _).drew'
   | exact ((((Fr.refl [] w).alloc' _).alloc' _).alloc' _).drewN' _
set_option maxRecDepth 100000 in
set_option maxHeartbeats 1600000 in
theorem rbare_15 (d s n i wd : Int) (w : World) : Calls Try.prog 30 #[.agg #[.int .i64 15, .int .i64 d, .int .i64 s, .int .i64 n, .int .i64 i, .int .u64 wd]] w (TwoPost w (.agg #[.int .i64 15, .int .i64 d, .int .i64 0, .int .i64 0, .int .i64 0, .int .u64 0])) := by
 have hu3 := Try.underlying32
 go_enter Try.func30, Try.ntmps30
 go_wp2
 all_goals
  refine bodyPost_ret (results_cell_row rfl _ _ (w.heap.size + 1) 32 #[.int .i64 15, .int .i64 d, .int .i64 0, .int .i64 0, .int .i64 0, .int .u64 0] (0, 0) _ rfl (heap_alloc_some (heap_at (by simp))) hu3 rfl rfl) rfl ⟨rfl, ?_⟩
  first
   | exact (((Fr.refl [] w).alloc' _).alloc' _).alloc' _
   | exact ((((Fr.refl [] w).alloc' _).alloc' _).alloc' _).drew'
   | exact ((((Fr.refl [] w).alloc' _).alloc' _).alloc' _).drewN' _
set_option maxRecDepth 100000 in
set_option maxHeartbeats 1600000 in
theorem rbare_16 (d s n i wd : Int) (w : World) : Calls Try.prog 30 #[.agg #[.int .i64 16, .int .i64 d, .int .i64 s, .int .i64 n, .int .i64 i, .int .u64 wd]] w (TwoPost w (.agg #[.int .i64 16, .int .i64 d, .int .i64 0, .int .i64 0, .int .i64 0, .int .u64 0])) := by
 have hu3 := Try.underlying32
 go_enter Try.func30, Try.ntmps30
 go_wp2
 all_goals
  refine bodyPost_ret (results_cell_row rfl _ _ (w.heap.size + 1) 32 #[.int .i64 16, .int .i64 d, .int .i64 0, .int .i64 0, .int .i64 0, .int .u64 0] (0, 0) _ rfl (heap_alloc_some (heap_at (by simp))) hu3 rfl rfl) rfl ⟨rfl, ?_⟩
  first
   | exact (((Fr.refl [] w).alloc' _).alloc' _).alloc' _
   | exact ((((Fr.refl [] w).alloc' _).alloc' _).alloc' _).drew'
   | exact ((((Fr.refl [] w).alloc' _).alloc' _).alloc' _).drewN' _
set_option maxRecDepth 100000 in
set_option maxHeartbeats 1600000 in
theorem rbare_23 (d s n i wd : Int) (w : World) : Calls Try.prog 30 #[.agg #[.int .i64 23, .int .i64 d, .int .i64 s, .int .i64 n, .int .i64 i, .int .u64 wd]] w (TwoPost w (.agg #[.int .i64 23, .int .i64 d, .int .i64 0, .int .i64 0, .int .i64 0, .int .u64 0])) := by
 have hu3 := Try.underlying32
 go_enter Try.func30, Try.ntmps30
 go_wp2
 all_goals
  refine bodyPost_ret (results_cell_row rfl _ _ (w.heap.size + 1) 32 #[.int .i64 23, .int .i64 d, .int .i64 0, .int .i64 0, .int .i64 0, .int .u64 0] (0, 0) _ rfl (heap_alloc_some (heap_at (by simp))) hu3 rfl rfl) rfl ⟨rfl, ?_⟩
  first
   | exact (((Fr.refl [] w).alloc' _).alloc' _).alloc' _
   | exact ((((Fr.refl [] w).alloc' _).alloc' _).alloc' _).drew'
   | exact ((((Fr.refl [] w).alloc' _).alloc' _).alloc' _).drewN' _
set_option maxRecDepth 100000 in
set_option maxHeartbeats 1600000 in
theorem rbare_24 (d s n i wd : Int) (w : World) : Calls Try.prog 30 #[.agg #[.int .i64 24, .int .i64 d, .int .i64 s, .int .i64 n, .int .i64 i, .int .u64 wd]] w (TwoPost w (.agg #[.int .i64 24, .int .i64 d, .int .i64 0, .int .i64 0, .int .i64 0, .int .u64 0])) := by
 have hu3 := Try.underlying32
 go_enter Try.func30, Try.ntmps30
 go_wp2
 all_goals
  refine bodyPost_ret (results_cell_row rfl _ _ (w.heap.size + 1) 32 #[.int .i64 24, .int .i64 d, .int .i64 0, .int .i64 0, .int .i64 0, .int .u64 0] (0, 0) _ rfl (heap_alloc_some (heap_at (by simp))) hu3 rfl rfl) rfl ⟨rfl, ?_⟩
  first
   | exact (((Fr.refl [] w).alloc' _).alloc' _).alloc' _
   | exact ((((Fr.refl [] w).alloc' _).alloc' _).alloc' _).drew'
   | exact ((((Fr.refl [] w).alloc' _).alloc' _).alloc' _).drewN' _
set_option maxRecDepth 100000 in
set_option maxHeartbeats 1600000 in
theorem rbare_25 (d s n i wd : Int) (w : World) : Calls Try.prog 30 #[.agg #[.int .i64 25, .int .i64 d, .int .i64 s, .int .i64 n, .int .i64 i, .int .u64 wd]] w (TwoPost w (.agg #[.int .i64 25, .int .i64 d, .int .i64 0, .int .i64 0, .int .i64 0, .int .u64 0])) := by
 have hu3 := Try.underlying32
 go_enter Try.func30, Try.ntmps30
 go_wp2
 all_goals
  refine bodyPost_ret (results_cell_row rfl _ _ (w.heap.size + 1) 32 #[.int .i64 25, .int .i64 d, .int .i64 0, .int .i64 0, .int .i64 0, .int .u64 0] (0, 0) _ rfl (heap_alloc_some (heap_at (by simp))) hu3 rfl rfl) rfl ⟨rfl, ?_⟩
  first
   | exact (((Fr.refl [] w).alloc' _).alloc' _).alloc' _
   | exact ((((Fr.refl [] w).alloc' _).alloc' _).alloc' _).drew'
   | exact ((((Fr.refl [] w).alloc' _).alloc' _).alloc' _).drewN' _
set_option maxRecDepth 100000 in
set_option maxHeartbeats 1600000 in
theorem rbare_x (kd d s n i wd : Int) (hk : kd ≠ 17 ∧ kd ≠ 28 ∧ kd ≠ 29 ∧ kd ≠ 21 ∧ kd ≠ 22 ∧ kd ≠ 2 ∧ kd ≠ 18 ∧ kd ≠ 19 ∧ kd ≠ 20 ∧ kd ≠ 26 ∧ kd ≠ 27 ∧ kd ≠ 11 ∧ kd ≠ 12 ∧ kd ≠ 13 ∧ kd ≠ 14 ∧ kd ≠ 15 ∧ kd ≠ 16 ∧ kd ≠ 23 ∧ kd ≠ 24 ∧ kd ≠ 25) (w : World) : Calls Try.prog 30 #[.agg #[.int .i64 kd, .int .i64 d, .int .i64 s, .int .i64 n, .int .i64 i, .int .u64 wd]] w (TwoPost w (.agg #[.int .i64 kd, .int .i64 d, .int .i64 s, .int .i64 0, .int .i64 0, .int .u64 0])) := by
 have hu3 := Try.underlying32
 have b17 : (kd == 17) = false := by rw [beq_eq_false_iff_ne]; omega
 have b28 : (kd == 28) = false := by rw [beq_eq_false_iff_ne]; omega
 have b29 : (kd == 29) = false := by rw [beq_eq_false_iff_ne]; omega
 have b21 : (kd == 21) = false := by rw [beq_eq_false_iff_ne]; omega
 have b22 : (kd == 22) = false := by rw [beq_eq_false_iff_ne]; omega
 have b2 : (kd == 2) = false := by rw [beq_eq_false_iff_ne]; omega
 have b18 : (kd == 18) = false := by rw [beq_eq_false_iff_ne]; omega
 have b19 : (kd == 19) = false := by rw [beq_eq_false_iff_ne]; omega
 have b20 : (kd == 20) = false := by rw [beq_eq_false_iff_ne]; omega
 have b26 : (kd == 26) = false := by rw [beq_eq_false_iff_ne]; omega
 have b27 : (kd == 27) = false := by rw [beq_eq_false_iff_ne]; omega
 have b11 : (kd == 11) = false := by rw [beq_eq_false_iff_ne]; omega
 have b12 : (kd == 12) = false := by rw [beq_eq_false_iff_ne]; omega
 have b13 : (kd == 13) = false := by rw [beq_eq_false_iff_ne]; omega
 have b14 : (kd == 14) = false := by rw [beq_eq_false_iff_ne]; omega
 have b15 : (kd == 15) = false := by rw [beq_eq_false_iff_ne]; omega
 have b16 : (kd == 16) = false := by rw [beq_eq_false_iff_ne]; omega
 have b23 : (kd == 23) = false := by rw [beq_eq_false_iff_ne]; omega
 have b24 : (kd == 24) = false := by rw [beq_eq_false_iff_ne]; omega
 have b25 : (kd == 25) = false := by rw [beq_eq_false_iff_ne]; omega
 clear hk
 go_enter Try.func30, Try.ntmps30
 go_wp2
 all_goals
  refine bodyPost_ret (results_cell_row rfl _ _ (w.heap.size + 1) 32 #[.int .i64 kd, .int .i64 d, .int .i64 s, .int .i64 0, .int .i64 0, .int .u64 0] (0, 0) _ rfl (heap_alloc_some (heap_at (by simp))) hu3 rfl rfl) rfl ⟨rfl, ?_⟩
  first
   | exact (((Fr.refl [] w).alloc' _).alloc' _).alloc' _
   | exact ((((Fr.refl [] w).alloc' _).alloc' _).alloc' _).drew'
   | exact ((((Fr.refl [] w).alloc' _).alloc' _).alloc' _).drewN' _
end Go.Proofs.Ytpahjllcomejbaa
