/- The reference's lay, kind by kind; condition: both registers are some. -/
import Derived.Test.YtpahjllcomejbaaRLay0
import Derived.IntWalk
import Derived.Deep.RegionHeld3
set_option linter.unusedVariables false
set_option linter.unusedSimpArgs false
namespace Go.Proofs.Ytpahjllcomejbaa
open Go.RowKit Go.MapKept
open Go.Proofs.YtpahjllcomejbaaW.PrintWords Go.Proofs.YtpahjllcomejbaaW.PrintLast Go.Proofs.YtpahjllcomejbaaW.PrintMore

set_option maxRecDepth 100000 in
set_option maxHeartbeats 40000000 in
theorem rlay_2 (d s n i wd : Int) (w : World) (h1 : R4 d) (h2 : R4 s) (hw : 0 ≤ wd ∧ wd < 18446744073709551616) : Calls Try.prog 20 #[.agg #[.int .i64 2, .int .i64 d, .int .i64 s, .int .i64 n, .int .i64 i, .int .u64 wd]] w
  (FromPost w (.string (strOfNums ([rexB true 0 d, 184 + d % 8] ++ leB wd 8)))) := by
 have hu3 := Try.underlying32
 have HX := hide (heap_alloc_new w (boxed 2 d s n i wd))
 obtain ⟨c0, c1, c2, c3, c4, c5⟩ := box_at HX.out
 have HF0 : Hid (Fr [] [] w (w.alloc (boxed 2 d s n i wd))) := hide ((Fr.refl [] w).alloc' _)
 have HK : Hid (∀ W', Fr [] [] (w.alloc (boxed 2 d s n i wd)) W' → BoxAt W' w.heap.size 2 d s n i wd) := hide fun W' h => box_at (h.keep HX.out (by simp))
 have HKA : Hid (∀ W', Fr [] [] (w.alloc (boxed 2 d s n i wd)) W' → ∀ o, BoxAt (W'.alloc o) w.heap.size 2 d s n i wd) := hide fun W' h o => HK.out _ (h.alloc' o)
 have fa := Fr.refl [] (w.alloc (boxed 2 d s n i wd))
 have FA := hide fa
 clear fa
 have hrr : 0 ≤ rexB true 0 d ∧ rexB true 0 d < 256 := by unfold rexB; simp; omega
 have HR := hide (from_rex (w.alloc (boxed 2 d s n i wd)) 72 0 d (rexB true 0 d) (by omega) (by unfold R4; omega) h1 rfl)
 have HB := hide (from_bytes (w.alloc (boxed 2 d s n i wd)) [rexB true 0 d, 184 + d % 8] 2 (#[.int .i64 (rexB true 0 d), .int .i64 (184 + d % 8)]) (strOfNums [rexB true 0 d, 184 + d % 8]) rfl rfl (by simp) (by first | (congr 1; unfold m256; simp; omega) | (unfold m256; simp)))
 have HBD := hide (from_bytes_d (w.alloc (boxed 2 d s n i wd)) [rexB true 0 d, 184 + d % 8] 2 (#[.int .i64 (rexB true 0 d), .int .i64 (184 + d % 8)]) (strOfNums [rexB true 0 d, 184 + d % 8]) rfl rfl (by simp) (by first | (congr 1; unfold m256; simp; omega) | (unfold m256; simp)))
 have HBE := hide (from_bytes_e (w.alloc (boxed 2 d s n i wd)) [rexB true 0 d, 184 + d % 8] 2 (#[.int .i64 (rexB true 0 d), .int .i64 (184 + d % 8)]) (strOfNums [rexB true 0 d, 184 + d % 8]) rfl rfl (by simp) (by first | (congr 1; unfold m256; simp; omega) | (unfold m256; simp)))
 have z1 : (strOfNums [rexB true 0 d, 184 + d % 8]).size = 2 := by rw [strOfNums_size]; rfl
 have HP := hide (from_le8 (w.alloc (boxed 2 d s n i wd)) wd (strOfNums (leB wd 8)) hw rfl)
 have z3 : (strOfNums (leB wd 8)).size ≤ 8 := by rw [strOfNums_size]; simp [leB]
 have HM : Hid (strOfNums [rexB true 0 d, 184 + d % 8] ++ strOfNums (leB wd 8) = strOfNums ([rexB true 0 d, 184 + d % 8] ++ leB wd 8)) := hide (str_append _ _)
 obtain ⟨g0, g1⟩ := h1
 obtain ⟨m0, m1⟩ := h2
 have td0 : decide (d < 0) = false := by simp; omega
 have td1 : decide (15 < d) = false := by simp; omega
 have ts0 : decide (s < 0) = false := by simp; omega
 have ts1 : decide (15 < s) = false := by simp; omega
 have HG := hide (And.intro (And.intro g0 g1) (And.intro m0 m1))
 clear g0 g1 m0 m1
 have hw8 : IntKind.i64.wrap (184 + d.tmod 8) = 184 + d % 8 := by
  have := HG.out
  rw [Int.tmod_eq_emod_of_nonneg this.1.1, IntWalk.i64_in _ (by omega)]
 generalize rexB true 0 d = rb at *
 clear hrr
 generalize strOfNums [rb, 184 + d % 8] = S1 at *
 generalize strOfNums (leB wd 8) = S3 at *
 have q2 : S1.size + S3.size ≤ 9223372036854775807 := by omega
 have d2 : decide (S1.size + S3.size ≤ 9223372036854775807) = true := decide_eq_true q2
 clear z1 z3
 unfold boxed at *
 go_enter Try.func20, Try.ntmps20
 go_wp2_with fail
 go_quiet (fail)
 go_wp2_with fail
 go_region_with (first
  | (go_at_call 40; (with_reducible refine (HR.out _ ?_).mono ?_); (first | exact FA.out | exact FA.out.drewN' _ | exact FR.out | exact FR.out.alloc' _ | exact FA.out.alloc' _ | exact (FA.out.alloc' _).drewN' _ | exact FBB.out | exact FP.out | exact FBB.out.alloc' _); rintro e W1 ⟨rfl, f1⟩; obtain ⟨e10, e11, e12, e13, e14, e15⟩ := HK.out W1 f1; have e1A := HKA.out W1 f1; unfold BoxAt at e1A; have FR := hide f1; clear f1)
  | (go_at_call 38; (first | (with_reducible refine (HB.out _ _ ?_ ?_).mono ?_) | (with_reducible refine (HBD.out _ _ _ ?_ ?_).mono ?_) | (with_reducible refine (HBE.out _ _ ?_ ?_).mono ?_)); (first | rfl | simp); (first | exact FA.out | exact FA.out.drewN' _ | exact FR.out | exact FR.out.alloc' _ | exact FA.out.alloc' _ | exact (FA.out.alloc' _).drewN' _ | exact FBB.out | exact FP.out | exact FBB.out.alloc' _); rintro e W3 ⟨rfl, f3⟩; obtain ⟨e30, e31, e32, e33, e34, e35⟩ := HK.out W3 f3; have FBB := hide f3; clear f3)
  | (go_at_call 39; (with_reducible refine (HP.out _ ?_).mono ?_); (first | exact FA.out | exact FA.out.drewN' _ | exact FR.out | exact FR.out.alloc' _ | exact FA.out.alloc' _ | exact (FA.out.alloc' _).drewN' _ | exact FBB.out | exact FP.out | exact FBB.out.alloc' _); rintro e W2 ⟨rfl, f2⟩; have FP := hide f2; clear f2))
 all_goals
  go_wp2
  go_ret
  refine ⟨congrArg (fun z => Ending.returned (Value.string z)) HM.out, ?_⟩
  with_reducible first
   | exact HF0.out.trans FP.out
   | exact HF0.out.trans FBB.out
   | exact HF0.out.trans (FP.out.drewN' _)
   | exact HF0.out.trans (FBB.out.drewN' _)
set_option maxRecDepth 100000 in
set_option maxHeartbeats 40000000 in
theorem rlay_21 (d s n i wd : Int) (w : World) (h1 : R4 d) (h2 : R4 s) : Calls Try.prog 20 #[.agg #[.int .i64 21, .int .i64 d, .int .i64 s, .int .i64 n, .int .i64 i, .int .u64 wd]] w
  (FromPost w (.string (strOfNums ([233] ++ b4 i)))) := by
 have hu3 := Try.underlying32
 have HX := hide (heap_alloc_new w (boxed 21 d s n i wd))
 obtain ⟨c0, c1, c2, c3, c4, c5⟩ := box_at HX.out
 have HF0 : Hid (Fr [] [] w (w.alloc (boxed 21 d s n i wd))) := hide ((Fr.refl [] w).alloc' _)
 have HK : Hid (∀ W', Fr [] [] (w.alloc (boxed 21 d s n i wd)) W' → BoxAt W' w.heap.size 21 d s n i wd) := hide fun W' h => box_at (h.keep HX.out (by simp))
 have HKA : Hid (∀ W', Fr [] [] (w.alloc (boxed 21 d s n i wd)) W' → ∀ o, BoxAt (W'.alloc o) w.heap.size 21 d s n i wd) := hide fun W' h o => HK.out _ (h.alloc' o)
 have fa := Fr.refl [] (w.alloc (boxed 21 d s n i wd))
 have FA := hide fa
 clear fa
 have HB := hide (from_bytes (w.alloc (boxed 21 d s n i wd)) [233] 1 (#[.int .i64 (233)]) (strOfNums [233]) rfl rfl (by simp) (by first | (congr 1; unfold m256; simp; omega) | (unfold m256; simp)))
 have HBD := hide (from_bytes_d (w.alloc (boxed 21 d s n i wd)) [233] 1 (#[.int .i64 (233)]) (strOfNums [233]) rfl rfl (by simp) (by first | (congr 1; unfold m256; simp; omega) | (unfold m256; simp)))
 have HBE := hide (from_bytes_e (w.alloc (boxed 21 d s n i wd)) [233] 1 (#[.int .i64 (233)]) (strOfNums [233]) rfl rfl (by simp) (by first | (congr 1; unfold m256; simp; omega) | (unfold m256; simp)))
 have z1 : (strOfNums [233]).size = 1 := by rw [strOfNums_size]; rfl
 have HP := hide (from_le (w.alloc (boxed 21 d s n i wd)) i (strOfNums (b4 i)) rfl)
 have z3 : (strOfNums (b4 i)).size ≤ 8 := by rw [strOfNums_size]; simp [b4_len]
 have HM : Hid (strOfNums [233] ++ strOfNums (b4 i) = strOfNums ([233] ++ b4 i)) := hide (str_append _ _)
 obtain ⟨g0, g1⟩ := h1
 obtain ⟨m0, m1⟩ := h2
 have td0 : decide (d < 0) = false := by simp; omega
 have td1 : decide (15 < d) = false := by simp; omega
 have ts0 : decide (s < 0) = false := by simp; omega
 have ts1 : decide (15 < s) = false := by simp; omega
 have HG := hide (And.intro (And.intro g0 g1) (And.intro m0 m1))
 clear g0 g1 m0 m1
 generalize strOfNums [233] = S1 at *
 generalize strOfNums (b4 i) = S3 at *
 have q2 : S1.size + S3.size ≤ 9223372036854775807 := by omega
 have d2 : decide (S1.size + S3.size ≤ 9223372036854775807) = true := decide_eq_true q2
 clear z1 z3
 unfold boxed at *
 go_enter Try.func20, Try.ntmps20
 go_wp2_with fail
 go_quiet (fail)
 go_wp2_with fail
 go_region_with (first
  | (go_at_call 38; (first | (with_reducible refine (HB.out _ _ ?_ ?_).mono ?_) | (with_reducible refine (HBD.out _ _ _ ?_ ?_).mono ?_) | (with_reducible refine (HBE.out _ _ ?_ ?_).mono ?_)); (first | rfl | simp); (first | exact FA.out | exact FA.out.drewN' _ | exact FR.out | exact FR.out.alloc' _ | exact FA.out.alloc' _ | exact (FA.out.alloc' _).drewN' _ | exact FBB.out | exact FP.out | exact FBB.out.alloc' _); rintro e W3 ⟨rfl, f3⟩; obtain ⟨e30, e31, e32, e33, e34, e35⟩ := HK.out W3 f3; have FBB := hide f3; clear f3)
  | (go_at_call 39; (with_reducible refine (HP.out _ ?_).mono ?_); (first | exact FA.out | exact FA.out.drewN' _ | exact FR.out | exact FR.out.alloc' _ | exact FA.out.alloc' _ | exact (FA.out.alloc' _).drewN' _ | exact FBB.out | exact FP.out | exact FBB.out.alloc' _); rintro e W2 ⟨rfl, f2⟩; have FP := hide f2; clear f2))
 all_goals
  go_wp2
  go_ret
  refine ⟨congrArg (fun z => Ending.returned (Value.string z)) HM.out, ?_⟩
  with_reducible first
   | exact HF0.out.trans FP.out
   | exact HF0.out.trans FBB.out
   | exact HF0.out.trans (FP.out.drewN' _)
   | exact HF0.out.trans (FBB.out.drewN' _)
set_option maxRecDepth 100000 in
set_option maxHeartbeats 40000000 in
theorem rlay_22 (d s n i wd : Int) (w : World) (hs2 : R4 s) (hc : okCond d = true) : Calls Try.prog 20 #[.agg #[.int .i64 22, .int .i64 d, .int .i64 s, .int .i64 n, .int .i64 i, .int .u64 wd]] w
  (FromPost w (.string (strOfNums ([15, 128 + d] ++ b4 i)))) := by
 have hu3 := Try.underlying32
 have HX := hide (heap_alloc_new w (boxed 22 d s n i wd))
 obtain ⟨c0, c1, c2, c3, c4, c5⟩ := box_at HX.out
 have HF0 : Hid (Fr [] [] w (w.alloc (boxed 22 d s n i wd))) := hide ((Fr.refl [] w).alloc' _)
 have HK : Hid (∀ W', Fr [] [] (w.alloc (boxed 22 d s n i wd)) W' → BoxAt W' w.heap.size 22 d s n i wd) := hide fun W' h => box_at (h.keep HX.out (by simp))
 have HKA : Hid (∀ W', Fr [] [] (w.alloc (boxed 22 d s n i wd)) W' → ∀ o, BoxAt (W'.alloc o) w.heap.size 22 d s n i wd) := hide fun W' h o => HK.out _ (h.alloc' o)
 have fa := Fr.refl [] (w.alloc (boxed 22 d s n i wd))
 have FA := hide fa
 clear fa
 have h1 : R4 d := by simp [okCond] at hc; unfold R4; omega
 have h2 : R4 s := hs2
 have q0 : 0 ≤ d ∧ d ≤ 15 := h1
 have HB := hide (from_bytes (w.alloc (boxed 22 d s n i wd)) [15, 128 + d] 2 (#[.int .i64 (15), .int .i64 (128 + d)]) (strOfNums [15, 128 + d]) rfl rfl (by simp) (by first | (congr 1; unfold m256; simp; omega) | (unfold m256; simp)))
 have HBD := hide (from_bytes_d (w.alloc (boxed 22 d s n i wd)) [15, 128 + d] 2 (#[.int .i64 (15), .int .i64 (128 + d)]) (strOfNums [15, 128 + d]) rfl rfl (by simp) (by first | (congr 1; unfold m256; simp; omega) | (unfold m256; simp)))
 have HBE := hide (from_bytes_e (w.alloc (boxed 22 d s n i wd)) [15, 128 + d] 2 (#[.int .i64 (15), .int .i64 (128 + d)]) (strOfNums [15, 128 + d]) rfl rfl (by simp) (by first | (congr 1; unfold m256; simp; omega) | (unfold m256; simp)))
 have z1 : (strOfNums [15, 128 + d]).size = 2 := by rw [strOfNums_size]; rfl
 clear q0
 have HCD := hide (rcond_any d (w.alloc (boxed 22 d s n i wd)))
 rw [hc] at HCD
 have HP := hide (from_le (w.alloc (boxed 22 d s n i wd)) i (strOfNums (b4 i)) rfl)
 have z3 : (strOfNums (b4 i)).size ≤ 8 := by rw [strOfNums_size]; simp [b4_len]
 have HM : Hid (strOfNums [15, 128 + d] ++ strOfNums (b4 i) = strOfNums ([15, 128 + d] ++ b4 i)) := hide (str_append _ _)
 clear hc
 obtain ⟨g0, g1⟩ := h1
 obtain ⟨m0, m1⟩ := h2
 have td0 : decide (d < 0) = false := by simp; omega
 have td1 : decide (15 < d) = false := by simp; omega
 have ts0 : decide (s < 0) = false := by simp; omega
 have ts1 : decide (15 < s) = false := by simp; omega
 have HG := hide (And.intro (And.intro g0 g1) (And.intro m0 m1))
 clear g0 g1 m0 m1
 generalize strOfNums [15, 128 + d] = S1 at *
 generalize strOfNums (b4 i) = S3 at *
 have q2 : S1.size + S3.size ≤ 9223372036854775807 := by omega
 have d2 : decide (S1.size + S3.size ≤ 9223372036854775807) = true := decide_eq_true q2
 clear z1 z3
 have hw8 : IntKind.i64.wrap (128 + d) = 128 + d := by
  have := HG.out
  rw [IntWalk.i64_in _ (by omega)]
 unfold boxed at *
 go_enter Try.func20, Try.ntmps20
 go_wp2_with fail
 go_quiet (fail)
 go_wp2_with fail
 refine (HCD.out _ (by (first | exact FA.out | exact FA.out.drewN' _ | exact FR.out | exact FR.out.alloc' _ | exact FA.out.alloc' _ | exact (FA.out.alloc' _).drewN' _ | exact FBB.out | exact FP.out | exact FBB.out.alloc' _))).mono ?_
 rintro e W0 ⟨rfl, f0⟩
 obtain ⟨c0, c1, c2, c3, c4, c5⟩ := HK.out W0 f0
 have cA := HKA.out W0 f0
 unfold BoxAt at cA
 have FR := hide f0
 clear f0
 go_wp2_with fail
 go_region_with (first
  | (go_at_call 38; (first | (with_reducible refine (HB.out _ _ ?_ ?_).mono ?_) | (with_reducible refine (HBD.out _ _ _ ?_ ?_).mono ?_) | (with_reducible refine (HBE.out _ _ ?_ ?_).mono ?_)); (first | rfl | simp); (first | exact FA.out | exact FA.out.drewN' _ | exact FR.out | exact FR.out.alloc' _ | exact FA.out.alloc' _ | exact (FA.out.alloc' _).drewN' _ | exact FBB.out | exact FP.out | exact FBB.out.alloc' _); rintro e W3 ⟨rfl, f3⟩; obtain ⟨e30, e31, e32, e33, e34, e35⟩ := HK.out W3 f3; have FBB := hide f3; clear f3)
  | (go_at_call 39; (with_reducible refine (HP.out _ ?_).mono ?_); (first | exact FA.out | exact FA.out.drewN' _ | exact FR.out | exact FR.out.alloc' _ | exact FA.out.alloc' _ | exact (FA.out.alloc' _).drewN' _ | exact FBB.out | exact FP.out | exact FBB.out.alloc' _); rintro e W2 ⟨rfl, f2⟩; have FP := hide f2; clear f2))
 all_goals
  go_wp2
  go_ret
  refine ⟨congrArg (fun z => Ending.returned (Value.string z)) HM.out, ?_⟩
  with_reducible first
   | exact HF0.out.trans FP.out
   | exact HF0.out.trans FBB.out
   | exact HF0.out.trans (FP.out.drewN' _)
   | exact HF0.out.trans (FBB.out.drewN' _)
set_option maxRecDepth 100000 in
set_option maxHeartbeats 40000000 in
theorem rlay_23 (d s n i wd : Int) (w : World) (h1 : R4 d) (h2 : R4 s) : Calls Try.prog 20 #[.agg #[.int .i64 23, .int .i64 d, .int .i64 s, .int .i64 n, .int .i64 i, .int .u64 wd]] w
  (FromPost w (.string (strOfNums ([rexB false 0 d, 80 + d % 8])))) := by
 have hu3 := Try.underlying32
 have HX := hide (heap_alloc_new w (boxed 23 d s n i wd))
 obtain ⟨c0, c1, c2, c3, c4, c5⟩ := box_at HX.out
 have HF0 : Hid (Fr [] [] w (w.alloc (boxed 23 d s n i wd))) := hide ((Fr.refl [] w).alloc' _)
 have HK : Hid (∀ W', Fr [] [] (w.alloc (boxed 23 d s n i wd)) W' → BoxAt W' w.heap.size 23 d s n i wd) := hide fun W' h => box_at (h.keep HX.out (by simp))
 have HKA : Hid (∀ W', Fr [] [] (w.alloc (boxed 23 d s n i wd)) W' → ∀ o, BoxAt (W'.alloc o) w.heap.size 23 d s n i wd) := hide fun W' h o => HK.out _ (h.alloc' o)
 have fa := Fr.refl [] (w.alloc (boxed 23 d s n i wd))
 have FA := hide fa
 clear fa
 have hrr : 0 ≤ rexB false 0 d ∧ rexB false 0 d < 256 := by unfold rexB; simp; omega
 have HR := hide (from_rex (w.alloc (boxed 23 d s n i wd)) 64 0 d (rexB false 0 d) (by omega) (by unfold R4; omega) h1 rfl)
 have HB := hide (from_bytes (w.alloc (boxed 23 d s n i wd)) [rexB false 0 d, 80 + d % 8] 2 (#[.int .i64 (rexB false 0 d), .int .i64 (80 + d % 8)]) (strOfNums [rexB false 0 d, 80 + d % 8]) rfl rfl (by simp) (by first | (congr 1; unfold m256; simp; omega) | (unfold m256; simp)))
 have HBD := hide (from_bytes_d (w.alloc (boxed 23 d s n i wd)) [rexB false 0 d, 80 + d % 8] 2 (#[.int .i64 (rexB false 0 d), .int .i64 (80 + d % 8)]) (strOfNums [rexB false 0 d, 80 + d % 8]) rfl rfl (by simp) (by first | (congr 1; unfold m256; simp; omega) | (unfold m256; simp)))
 have HBE := hide (from_bytes_e (w.alloc (boxed 23 d s n i wd)) [rexB false 0 d, 80 + d % 8] 2 (#[.int .i64 (rexB false 0 d), .int .i64 (80 + d % 8)]) (strOfNums [rexB false 0 d, 80 + d % 8]) rfl rfl (by simp) (by first | (congr 1; unfold m256; simp; omega) | (unfold m256; simp)))
 have z1 : (strOfNums [rexB false 0 d, 80 + d % 8]).size = 2 := by rw [strOfNums_size]; rfl
 obtain ⟨g0, g1⟩ := h1
 obtain ⟨m0, m1⟩ := h2
 have td0 : decide (d < 0) = false := by simp; omega
 have td1 : decide (15 < d) = false := by simp; omega
 have ts0 : decide (s < 0) = false := by simp; omega
 have ts1 : decide (15 < s) = false := by simp; omega
 have HG := hide (And.intro (And.intro g0 g1) (And.intro m0 m1))
 clear g0 g1 m0 m1
 have lit0 : IntKind.i64.wrap 0 = 0 := by rw [IntWalk.i64_in _ (by omega)]
 have lit1 : IntKind.i64.wrap 1 = 1 := by rw [IntWalk.i64_in _ (by omega)]
 have lit2 : IntKind.i64.wrap 2 = 2 := by rw [IntWalk.i64_in _ (by omega)]
 have lit8 : IntKind.i64.wrap 8 = 8 := by rw [IntWalk.i64_in _ (by omega)]
 have lit80 : IntKind.i64.wrap 80 = 80 := by rw [IntWalk.i64_in _ (by omega)]
 have lit88 : IntKind.i64.wrap 88 = 88 := by rw [IntWalk.i64_in _ (by omega)]
 have hw8 : IntKind.i64.wrap (80 + d.tmod 8) = 80 + d % 8 := by
  have := HG.out
  rw [Int.tmod_eq_emod_of_nonneg this.1.1, IntWalk.i64_in _ (by omega)]
 generalize rexB false 0 d = rb at *
 generalize strOfNums [rb, 80 + d % 8] = S1 at *
 clear z1 hrr
 unfold boxed at *
 go_enter Try.func20, Try.ntmps20
 go_wp2_with fail
 go_quiet (fail)
 go_wp2_with fail
 go_region_with (first
  | (go_at_call 40; (with_reducible refine (HR.out _ ?_).mono ?_); (first | exact FA.out | exact FA.out.drewN' _ | exact FR.out | exact FR.out.alloc' _ | exact FA.out.alloc' _ | exact (FA.out.alloc' _).drewN' _ | exact FBB.out | exact FP.out | exact FBB.out.alloc' _); rintro e W1 ⟨rfl, f1⟩; obtain ⟨e10, e11, e12, e13, e14, e15⟩ := HK.out W1 f1; have e1A := HKA.out W1 f1; unfold BoxAt at e1A; have FR := hide f1; clear f1)
  | (go_at_call 38; (first | (with_reducible refine (HB.out _ _ ?_ ?_).mono ?_) | (with_reducible refine (HBD.out _ _ _ ?_ ?_).mono ?_) | (with_reducible refine (HBE.out _ _ ?_ ?_).mono ?_)); (first | rfl | simp); (first | exact FA.out | exact FA.out.drewN' _ | exact FR.out | exact FR.out.alloc' _ | exact FA.out.alloc' _ | exact (FA.out.alloc' _).drewN' _ | exact FBB.out | exact FP.out | exact FBB.out.alloc' _); rintro e W3 ⟨rfl, f3⟩; obtain ⟨e30, e31, e32, e33, e34, e35⟩ := HK.out W3 f3; have FBB := hide f3; clear f3))
 all_goals
  go_wp2
  go_ret
  refine ⟨rfl, ?_⟩
  first
   | exact HF0.out.trans FBB.out
   | exact HF0.out.trans (FBB.out.drewN' _)
set_option maxRecDepth 100000 in
set_option maxHeartbeats 40000000 in
theorem rlay_24 (d s n i wd : Int) (w : World) (h1 : R4 d) (h2 : R4 s) : Calls Try.prog 20 #[.agg #[.int .i64 24, .int .i64 d, .int .i64 s, .int .i64 n, .int .i64 i, .int .u64 wd]] w
  (FromPost w (.string (strOfNums ([rexB false 0 d, 88 + d % 8])))) := by
 have hu3 := Try.underlying32
 have HX := hide (heap_alloc_new w (boxed 24 d s n i wd))
 obtain ⟨c0, c1, c2, c3, c4, c5⟩ := box_at HX.out
 have HF0 : Hid (Fr [] [] w (w.alloc (boxed 24 d s n i wd))) := hide ((Fr.refl [] w).alloc' _)
 have HK : Hid (∀ W', Fr [] [] (w.alloc (boxed 24 d s n i wd)) W' → BoxAt W' w.heap.size 24 d s n i wd) := hide fun W' h => box_at (h.keep HX.out (by simp))
 have HKA : Hid (∀ W', Fr [] [] (w.alloc (boxed 24 d s n i wd)) W' → ∀ o, BoxAt (W'.alloc o) w.heap.size 24 d s n i wd) := hide fun W' h o => HK.out _ (h.alloc' o)
 have fa := Fr.refl [] (w.alloc (boxed 24 d s n i wd))
 have FA := hide fa
 clear fa
 have hrr : 0 ≤ rexB false 0 d ∧ rexB false 0 d < 256 := by unfold rexB; simp; omega
 have HR := hide (from_rex (w.alloc (boxed 24 d s n i wd)) 64 0 d (rexB false 0 d) (by omega) (by unfold R4; omega) h1 rfl)
 have HB := hide (from_bytes (w.alloc (boxed 24 d s n i wd)) [rexB false 0 d, 88 + d % 8] 2 (#[.int .i64 (rexB false 0 d), .int .i64 (88 + d % 8)]) (strOfNums [rexB false 0 d, 88 + d % 8]) rfl rfl (by simp) (by first | (congr 1; unfold m256; simp; omega) | (unfold m256; simp)))
 have HBD := hide (from_bytes_d (w.alloc (boxed 24 d s n i wd)) [rexB false 0 d, 88 + d % 8] 2 (#[.int .i64 (rexB false 0 d), .int .i64 (88 + d % 8)]) (strOfNums [rexB false 0 d, 88 + d % 8]) rfl rfl (by simp) (by first | (congr 1; unfold m256; simp; omega) | (unfold m256; simp)))
 have HBE := hide (from_bytes_e (w.alloc (boxed 24 d s n i wd)) [rexB false 0 d, 88 + d % 8] 2 (#[.int .i64 (rexB false 0 d), .int .i64 (88 + d % 8)]) (strOfNums [rexB false 0 d, 88 + d % 8]) rfl rfl (by simp) (by first | (congr 1; unfold m256; simp; omega) | (unfold m256; simp)))
 have z1 : (strOfNums [rexB false 0 d, 88 + d % 8]).size = 2 := by rw [strOfNums_size]; rfl
 obtain ⟨g0, g1⟩ := h1
 obtain ⟨m0, m1⟩ := h2
 have td0 : decide (d < 0) = false := by simp; omega
 have td1 : decide (15 < d) = false := by simp; omega
 have ts0 : decide (s < 0) = false := by simp; omega
 have ts1 : decide (15 < s) = false := by simp; omega
 have HG := hide (And.intro (And.intro g0 g1) (And.intro m0 m1))
 clear g0 g1 m0 m1
 have lit0 : IntKind.i64.wrap 0 = 0 := by rw [IntWalk.i64_in _ (by omega)]
 have lit1 : IntKind.i64.wrap 1 = 1 := by rw [IntWalk.i64_in _ (by omega)]
 have lit2 : IntKind.i64.wrap 2 = 2 := by rw [IntWalk.i64_in _ (by omega)]
 have lit8 : IntKind.i64.wrap 8 = 8 := by rw [IntWalk.i64_in _ (by omega)]
 have lit80 : IntKind.i64.wrap 80 = 80 := by rw [IntWalk.i64_in _ (by omega)]
 have lit88 : IntKind.i64.wrap 88 = 88 := by rw [IntWalk.i64_in _ (by omega)]
 have hw8 : IntKind.i64.wrap (88 + d.tmod 8) = 88 + d % 8 := by
  have := HG.out
  rw [Int.tmod_eq_emod_of_nonneg this.1.1, IntWalk.i64_in _ (by omega)]
 generalize rexB false 0 d = rb at *
 generalize strOfNums [rb, 88 + d % 8] = S1 at *
 clear z1 hrr
 unfold boxed at *
 go_enter Try.func20, Try.ntmps20
 go_wp2_with fail
 go_quiet (fail)
 go_wp2_with fail
 go_region_with (first
  | (go_at_call 40; (with_reducible refine (HR.out _ ?_).mono ?_); (first | exact FA.out | exact FA.out.drewN' _ | exact FR.out | exact FR.out.alloc' _ | exact FA.out.alloc' _ | exact (FA.out.alloc' _).drewN' _ | exact FBB.out | exact FP.out | exact FBB.out.alloc' _); rintro e W1 ⟨rfl, f1⟩; obtain ⟨e10, e11, e12, e13, e14, e15⟩ := HK.out W1 f1; have e1A := HKA.out W1 f1; unfold BoxAt at e1A; have FR := hide f1; clear f1)
  | (go_at_call 38; (first | (with_reducible refine (HB.out _ _ ?_ ?_).mono ?_) | (with_reducible refine (HBD.out _ _ _ ?_ ?_).mono ?_) | (with_reducible refine (HBE.out _ _ ?_ ?_).mono ?_)); (first | rfl | simp); (first | exact FA.out | exact FA.out.drewN' _ | exact FR.out | exact FR.out.alloc' _ | exact FA.out.alloc' _ | exact (FA.out.alloc' _).drewN' _ | exact FBB.out | exact FP.out | exact FBB.out.alloc' _); rintro e W3 ⟨rfl, f3⟩; obtain ⟨e30, e31, e32, e33, e34, e35⟩ := HK.out W3 f3; have FBB := hide f3; clear f3))
 all_goals
  go_wp2
  go_ret
  refine ⟨rfl, ?_⟩
  first
   | exact HF0.out.trans FBB.out
   | exact HF0.out.trans (FBB.out.drewN' _)
end Go.Proofs.Ytpahjllcomejbaa
