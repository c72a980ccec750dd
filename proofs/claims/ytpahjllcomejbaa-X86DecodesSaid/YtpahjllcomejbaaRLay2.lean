/- The reference's lay, kind by kind; condition: both registers are some. -/
import Derived.Test.YtpahjllcomejbaaRLay0
import Derived.IntWalk
import Derived.Deep.RegionHeld3
set_option linter.unusedVariables false
set_option linter.unusedSimpArgs false
namespace Go.Proofs.Ytpahjllcomejbaa
open Go.RowKit Go.MapKept
open Go.Proofs.YtpahjllcomejbaaW.PrintWords Go.Proofs.YtpahjllcomejbaaW.PrintLast Go.Proofs.YtpahjllcomejbaaW.PrintMore

set_option maxRecDepth 100000 in
set_option maxHeartbeats 40000000 in
theorem rlay_1 (d s n i wd : Int) (w : World) (h1 : R4 d) (h2 : R4 s) : Calls Try.prog 20 #[.agg #[.int .i64 1, .int .i64 d, .int .i64 s, .int .i64 n, .int .i64 i, .int .u64 wd]] w
  (FromPost w (.string (strOfNums ([rexB true s d, 137] ++ [dirB s d])))) := by
 have hu3 := Try.underlying32
 have HX := hide (heap_alloc_new w (boxed 1 d s n i wd))
 obtain ⟨c0, c1, c2, c3, c4, c5⟩ := box_at HX.out
 have HF0 : Hid (Fr [] [] w (w.alloc (boxed 1 d s n i wd))) := hide ((Fr.refl [] w).alloc' _)
 have HK : Hid (∀ W', Fr [] [] (w.alloc (boxed 1 d s n i wd)) W' → BoxAt W' w.heap.size 1 d s n i wd) := hide fun W' h => box_at (h.keep HX.out (by simp))
 have HKA : Hid (∀ W', Fr [] [] (w.alloc (boxed 1 d s n i wd)) W' → ∀ o, BoxAt (W'.alloc o) w.heap.size 1 d s n i wd) := hide fun W' h o => HK.out _ (h.alloc' o)
 have fa := Fr.refl [] (w.alloc (boxed 1 d s n i wd))
 have FA := hide fa
 clear fa
 have hrr : 0 ≤ rexB true s d ∧ rexB true s d < 256 := by unfold rexB; simp; omega
 have HR := hide (from_rex (w.alloc (boxed 1 d s n i wd)) 72 s d (rexB true s d) (by omega) h2 h1 rfl)
 have HB := hide (from_bytes (w.alloc (boxed 1 d s n i wd)) [rexB true s d, 137] 2 (#[.int .i64 (rexB true s d), .int .i64 (137)]) (strOfNums [rexB true s d, 137]) rfl rfl (by simp) (by first | (congr 1; unfold m256; simp; omega) | (unfold m256; simp)))
 have HBD := hide (from_bytes_d (w.alloc (boxed 1 d s n i wd)) [rexB true s d, 137] 2 (#[.int .i64 (rexB true s d), .int .i64 (137)]) (strOfNums [rexB true s d, 137]) rfl rfl (by simp) (by first | (congr 1; unfold m256; simp; omega) | (unfold m256; simp)))
 have HBE := hide (from_bytes_e (w.alloc (boxed 1 d s n i wd)) [rexB true s d, 137] 2 (#[.int .i64 (rexB true s d), .int .i64 (137)]) (strOfNums [rexB true s d, 137]) rfl rfl (by simp) (by first | (congr 1; unfold m256; simp; omega) | (unfold m256; simp)))
 have z1 : (strOfNums [rexB true s d, 137]).size = 2 := by rw [strOfNums_size]; rfl
 have HP := hide (from_modes (w.alloc (boxed 1 d s n i wd)) s d (strOfNums [dirB s d]) h2 h1 rfl)
 have z3 : (strOfNums [dirB s d]).size ≤ 6 := by rw [strOfNums_size]; simp
 have HM : Hid (strOfNums [rexB true s d, 137] ++ strOfNums ([dirB s d]) = strOfNums ([rexB true s d, 137] ++ [dirB s d])) := hide (str_append _ _)
 clear hrr
 obtain ⟨g0, g1⟩ := h1
 obtain ⟨m0, m1⟩ := h2
 have td0 : decide (d < 0) = false := by simp; omega
 have td1 : decide (15 < d) = false := by simp; omega
 have ts0 : decide (s < 0) = false := by simp; omega
 have ts1 : decide (15 < s) = false := by simp; omega
 have HG := hide (And.intro (And.intro g0 g1) (And.intro m0 m1))
 clear g0 g1 m0 m1
 generalize rexB true s d = rb at *
 generalize strOfNums [rb, 137] = S1 at *
 generalize strOfNums ([dirB s d]) = S3 at *
 have q2 : S1.size + S3.size ≤ 9223372036854775807 := by omega
 have d2 : decide (S1.size + S3.size ≤ 9223372036854775807) = true := decide_eq_true q2
 clear z1 z3
 unfold boxed at *
 go_enter Try.func20, Try.ntmps20
 go_wp2_with fail
 go_quiet (fail)
 go_wp2_with fail
 refine (HR.out _ (by (first | exact FA.out | exact FA.out.drewN' _ | exact FR.out | exact FR.out.alloc' _ | exact FA.out.alloc' _ | exact (FA.out.alloc' _).drewN' _ | exact FBB.out | exact FP.out | exact FBB.out.alloc' _))).mono ?_
 rintro e W1 ⟨rfl, f1⟩
 obtain ⟨c0, c1, c2, c3, c4, c5⟩ := HK.out W1 f1
 have FR := hide f1
 clear f1
 go_wp2_with fail
 (first | (with_reducible refine (HB.out _ _ ?_ ?_).mono ?_) | (with_reducible refine (HBD.out _ _ _ ?_ ?_).mono ?_) | (with_reducible refine (HBE.out _ _ ?_ ?_).mono ?_))
 (first | rfl | simp)
 exact FR.out
 rintro e W3 ⟨rfl, f3⟩
 have FBB := hide f3
 clear f3
 go_wp2_with fail
 refine (HP.out _ FBB.out).mono ?_
 rintro e W2 ⟨rfl, f2⟩
 have FP := hide f2
 clear f2
 go_wp2
 go_ret
 exact ⟨congrArg (fun z => Ending.returned (Value.string z)) HM.out, HF0.out.trans FP.out⟩
set_option maxRecDepth 100000 in
set_option maxHeartbeats 40000000 in
theorem rlay_3 (d s n i wd : Int) (w : World) (h1 : R4 d) (h2 : R4 s) : Calls Try.prog 20 #[.agg #[.int .i64 3, .int .i64 d, .int .i64 s, .int .i64 n, .int .i64 i, .int .u64 wd]] w
  (FromPost w (.string (strOfNums ([rexB true s d, 1] ++ [dirB s d])))) := by
 have hu3 := Try.underlying32
 have HX := hide (heap_alloc_new w (boxed 3 d s n i wd))
 obtain ⟨c0, c1, c2, c3, c4, c5⟩ := box_at HX.out
 have HF0 : Hid (Fr [] [] w (w.alloc (boxed 3 d s n i wd))) := hide ((Fr.refl [] w).alloc' _)
 have HK : Hid (∀ W', Fr [] [] (w.alloc (boxed 3 d s n i wd)) W' → BoxAt W' w.heap.size 3 d s n i wd) := hide fun W' h => box_at (h.keep HX.out (by simp))
 have HKA : Hid (∀ W', Fr [] [] (w.alloc (boxed 3 d s n i wd)) W' → ∀ o, BoxAt (W'.alloc o) w.heap.size 3 d s n i wd) := hide fun W' h o => HK.out _ (h.alloc' o)
 have fa := Fr.refl [] (w.alloc (boxed 3 d s n i wd))
 have FA := hide fa
 clear fa
 have hrr : 0 ≤ rexB true s d ∧ rexB true s d < 256 := by unfold rexB; simp; omega
 have HR := hide (from_rex (w.alloc (boxed 3 d s n i wd)) 72 s d (rexB true s d) (by omega) h2 h1 rfl)
 have HB := hide (from_bytes (w.alloc (boxed 3 d s n i wd)) [rexB true s d, 1] 2 (#[.int .i64 (rexB true s d), .int .i64 (1)]) (strOfNums [rexB true s d, 1]) rfl rfl (by simp) (by first | (congr 1; unfold m256; simp; omega) | (unfold m256; simp)))
 have HBD := hide (from_bytes_d (w.alloc (boxed 3 d s n i wd)) [rexB true s d, 1] 2 (#[.int .i64 (rexB true s d), .int .i64 (1)]) (strOfNums [rexB true s d, 1]) rfl rfl (by simp) (by first | (congr 1; unfold m256; simp; omega) | (unfold m256; simp)))
 have HBE := hide (from_bytes_e (w.alloc (boxed 3 d s n i wd)) [rexB true s d, 1] 2 (#[.int .i64 (rexB true s d), .int .i64 (1)]) (strOfNums [rexB true s d, 1]) rfl rfl (by simp) (by first | (congr 1; unfold m256; simp; omega) | (unfold m256; simp)))
 have z1 : (strOfNums [rexB true s d, 1]).size = 2 := by rw [strOfNums_size]; rfl
 have HP := hide (from_modes (w.alloc (boxed 3 d s n i wd)) s d (strOfNums [dirB s d]) h2 h1 rfl)
 have z3 : (strOfNums [dirB s d]).size ≤ 6 := by rw [strOfNums_size]; simp
 have HM : Hid (strOfNums [rexB true s d, 1] ++ strOfNums ([dirB s d]) = strOfNums ([rexB true s d, 1] ++ [dirB s d])) := hide (str_append _ _)
 clear hrr
 obtain ⟨g0, g1⟩ := h1
 obtain ⟨m0, m1⟩ := h2
 have td0 : decide (d < 0) = false := by simp; omega
 have td1 : decide (15 < d) = false := by simp; omega
 have ts0 : decide (s < 0) = false := by simp; omega
 have ts1 : decide (15 < s) = false := by simp; omega
 have HG := hide (And.intro (And.intro g0 g1) (And.intro m0 m1))
 clear g0 g1 m0 m1
 generalize rexB true s d = rb at *
 generalize strOfNums [rb, 1] = S1 at *
 generalize strOfNums ([dirB s d]) = S3 at *
 have q2 : S1.size + S3.size ≤ 9223372036854775807 := by omega
 have d2 : decide (S1.size + S3.size ≤ 9223372036854775807) = true := decide_eq_true q2
 clear z1 z3
 unfold boxed at *
 go_enter Try.func20, Try.ntmps20
 go_wp2_with fail
 go_quiet (fail)
 go_wp2_with fail
 refine (HR.out _ (by (first | exact FA.out | exact FA.out.drewN' _ | exact FR.out | exact FR.out.alloc' _ | exact FA.out.alloc' _ | exact (FA.out.alloc' _).drewN' _ | exact FBB.out | exact FP.out | exact FBB.out.alloc' _))).mono ?_
 rintro e W1 ⟨rfl, f1⟩
 obtain ⟨c0, c1, c2, c3, c4, c5⟩ := HK.out W1 f1
 have FR := hide f1
 clear f1
 go_wp2_with fail
 (first | (with_reducible refine (HB.out _ _ ?_ ?_).mono ?_) | (with_reducible refine (HBD.out _ _ _ ?_ ?_).mono ?_) | (with_reducible refine (HBE.out _ _ ?_ ?_).mono ?_))
 (first | rfl | simp)
 exact FR.out
 rintro e W3 ⟨rfl, f3⟩
 have FBB := hide f3
 clear f3
 go_wp2_with fail
 refine (HP.out _ FBB.out).mono ?_
 rintro e W2 ⟨rfl, f2⟩
 have FP := hide f2
 clear f2
 go_wp2
 go_ret
 exact ⟨congrArg (fun z => Ending.returned (Value.string z)) HM.out, HF0.out.trans FP.out⟩
set_option maxRecDepth 100000 in
set_option maxHeartbeats 40000000 in
theorem rlay_4 (d s n i wd : Int) (w : World) (h1 : R4 d) (h2 : R4 s) : Calls Try.prog 20 #[.agg #[.int .i64 4, .int .i64 d, .int .i64 s, .int .i64 n, .int .i64 i, .int .u64 wd]] w
  (FromPost w (.string (strOfNums ([rexB true s d, 41] ++ [dirB s d])))) := by
 have hu3 := Try.underlying32
 have HX := hide (heap_alloc_new w (boxed 4 d s n i wd))
 obtain ⟨c0, c1, c2, c3, c4, c5⟩ := box_at HX.out
 have HF0 : Hid (Fr [] [] w (w.alloc (boxed 4 d s n i wd))) := hide ((Fr.refl [] w).alloc' _)
 have HK : Hid (∀ W', Fr [] [] (w.alloc (boxed 4 d s n i wd)) W' → BoxAt W' w.heap.size 4 d s n i wd) := hide fun W' h => box_at (h.keep HX.out (by simp))
 have HKA : Hid (∀ W', Fr [] [] (w.alloc (boxed 4 d s n i wd)) W' → ∀ o, BoxAt (W'.alloc o) w.heap.size 4 d s n i wd) := hide fun W' h o => HK.out _ (h.alloc' o)
 have fa := Fr.refl [] (w.alloc (boxed 4 d s n i wd))
 have FA := hide fa
 clear fa
 have hrr : 0 ≤ rexB true s d ∧ rexB true s d < 256 := by unfold rexB; simp; omega
 have HR := hide (from_rex (w.alloc (boxed 4 d s n i wd)) 72 s d (rexB true s d) (by omega) h2 h1 rfl)
 have HB := hide (from_bytes (w.alloc (boxed 4 d s n i wd)) [rexB true s d, 41] 2 (#[.int .i64 (rexB true s d), .int .i64 (41)]) (strOfNums [rexB true s d, 41]) rfl rfl (by simp) (by first | (congr 1; unfold m256; simp; omega) | (unfold m256; simp)))
 have HBD := hide (from_bytes_d (w.alloc (boxed 4 d s n i wd)) [rexB true s d, 41] 2 (#[.int .i64 (rexB true s d), .int .i64 (41)]) (strOfNums [rexB true s d, 41]) rfl rfl (by simp) (by first | (congr 1; unfold m256; simp; omega) | (unfold m256; simp)))
 have HBE := hide (from_bytes_e (w.alloc (boxed 4 d s n i wd)) [rexB true s d, 41] 2 (#[.int .i64 (rexB true s d), .int .i64 (41)]) (strOfNums [rexB true s d, 41]) rfl rfl (by simp) (by first | (congr 1; unfold m256; simp; omega) | (unfold m256; simp)))
 have z1 : (strOfNums [rexB true s d, 41]).size = 2 := by rw [strOfNums_size]; rfl
 have HP := hide (from_modes (w.alloc (boxed 4 d s n i wd)) s d (strOfNums [dirB s d]) h2 h1 rfl)
 have z3 : (strOfNums [dirB s d]).size ≤ 6 := by rw [strOfNums_size]; simp
 have HM : Hid (strOfNums [rexB true s d, 41] ++ strOfNums ([dirB s d]) = strOfNums ([rexB true s d, 41] ++ [dirB s d])) := hide (str_append _ _)
 clear hrr
 obtain ⟨g0, g1⟩ := h1
 obtain ⟨m0, m1⟩ := h2
 have td0 : decide (d < 0) = false := by simp; omega
 have td1 : decide (15 < d) = false := by simp; omega
 have ts0 : decide (s < 0) = false := by simp; omega
 have ts1 : decide (15 < s) = false := by simp; omega
 have HG := hide (And.intro (And.intro g0 g1) (And.intro m0 m1))
 clear g0 g1 m0 m1
 generalize rexB true s d = rb at *
 generalize strOfNums [rb, 41] = S1 at *
 generalize strOfNums ([dirB s d]) = S3 at *
 have q2 : S1.size + S3.size ≤ 9223372036854775807 := by omega
 have d2 : decide (S1.size + S3.size ≤ 9223372036854775807) = true := decide_eq_true q2
 clear z1 z3
 unfold boxed at *
 go_enter Try.func20, Try.ntmps20
 go_wp2_with fail
 go_quiet (fail)
 go_wp2_with fail
 refine (HR.out _ (by (first | exact FA.out | exact FA.out.drewN' _ | exact FR.out | exact FR.out.alloc' _ | exact FA.out.alloc' _ | exact (FA.out.alloc' _).drewN' _ | exact FBB.out | exact FP.out | exact FBB.out.alloc' _))).mono ?_
 rintro e W1 ⟨rfl, f1⟩
 obtain ⟨c0, c1, c2, c3, c4, c5⟩ := HK.out W1 f1
 have FR := hide f1
 clear f1
 go_wp2_with fail
 (first | (with_reducible refine (HB.out _ _ ?_ ?_).mono ?_) | (with_reducible refine (HBD.out _ _ _ ?_ ?_).mono ?_) | (with_reducible refine (HBE.out _ _ ?_ ?_).mono ?_))
 (first | rfl | simp)
 exact FR.out
 rintro e W3 ⟨rfl, f3⟩
 have FBB := hide f3
 clear f3
 go_wp2_with fail
 refine (HP.out _ FBB.out).mono ?_
 rintro e W2 ⟨rfl, f2⟩
 have FP := hide f2
 clear f2
 go_wp2
 go_ret
 exact ⟨congrArg (fun z => Ending.returned (Value.string z)) HM.out, HF0.out.trans FP.out⟩
set_option maxRecDepth 100000 in
set_option maxHeartbeats 40000000 in
theorem rlay_5 (d s n i wd : Int) (w : World) (h1 : R4 d) (h2 : R4 s) : Calls Try.prog 20 #[.agg #[.int .i64 5, .int .i64 d, .int .i64 s, .int .i64 n, .int .i64 i, .int .u64 wd]] w
  (FromPost w (.string (strOfNums ([rexB true s d, 33] ++ [dirB s d])))) := by
 have hu3 := Try.underlying32
 have HX := hide (heap_alloc_new w (boxed 5 d s n i wd))
 obtain ⟨c0, c1, c2, c3, c4, c5⟩ := box_at HX.out
 have HF0 : Hid (Fr [] [] w (w.alloc (boxed 5 d s n i wd))) := hide ((Fr.refl [] w).alloc' _)
 have HK : Hid (∀ W', Fr [] [] (w.alloc (boxed 5 d s n i wd)) W' → BoxAt W' w.heap.size 5 d s n i wd) := hide fun W' h => box_at (h.keep HX.out (by simp))
 have HKA : Hid (∀ W', Fr [] [] (w.alloc (boxed 5 d s n i wd)) W' → ∀ o, BoxAt (W'.alloc o) w.heap.size 5 d s n i wd) := hide fun W' h o => HK.out _ (h.alloc' o)
 have fa := Fr.refl [] (w.alloc (boxed 5 d s n i wd))
 have FA := hide fa
 clear fa
 have hrr : 0 ≤ rexB true s d ∧ rexB true s d < 256 := by unfold rexB; simp; omega
 have HR := hide (from_rex (w.alloc (boxed 5 d s n i wd)) 72 s d (rexB true s d) (by omega) h2 h1 rfl)
 have HB := hide (from_bytes (w.alloc (boxed 5 d s n i wd)) [rexB true s d, 33] 2 (#[.int .i64 (rexB true s d), .int .i64 (33)]) (strOfNums [rexB true s d, 33]) rfl rfl (by simp) (by first | (congr 1; unfold m256; simp; omega) | (unfold m256; simp)))
 have HBD := hide (from_bytes_d (w.alloc (boxed 5 d s n i wd)) [rexB true s d, 33] 2 (#[.int .i64 (rexB true s d), .int .i64 (33)]) (strOfNums [rexB true s d, 33]) rfl rfl (by simp) (by first | (congr 1; unfold m256; simp; omega) | (unfold m256; simp)))
 have HBE := hide (from_bytes_e (w.alloc (boxed 5 d s n i wd)) [rexB true s d, 33] 2 (#[.int .i64 (rexB true s d), .int .i64 (33)]) (strOfNums [rexB true s d, 33]) rfl rfl (by simp) (by first | (congr 1; unfold m256; simp; omega) | (unfold m256; simp)))
 have z1 : (strOfNums [rexB true s d, 33]).size = 2 := by rw [strOfNums_size]; rfl
 have HP := hide (from_modes (w.alloc (boxed 5 d s n i wd)) s d (strOfNums [dirB s d]) h2 h1 rfl)
 have z3 : (strOfNums [dirB s d]).size ≤ 6 := by rw [strOfNums_size]; simp
 have HM : Hid (strOfNums [rexB true s d, 33] ++ strOfNums ([dirB s d]) = strOfNums ([rexB true s d, 33] ++ [dirB s d])) := hide (str_append _ _)
 clear hrr
 obtain ⟨g0, g1⟩ := h1
 obtain ⟨m0, m1⟩ := h2
 have td0 : decide (d < 0) = false := by simp; omega
 have td1 : decide (15 < d) = false := by simp; omega
 have ts0 : decide (s < 0) = false := by simp; omega
 have ts1 : decide (15 < s) = false := by simp; omega
 have HG := hide (And.intro (And.intro g0 g1) (And.intro m0 m1))
 clear g0 g1 m0 m1
 generalize rexB true s d = rb at *
 generalize strOfNums [rb, 33] = S1 at *
 generalize strOfNums ([dirB s d]) = S3 at *
 have q2 : S1.size + S3.size ≤ 9223372036854775807 := by omega
 have d2 : decide (S1.size + S3.size ≤ 9223372036854775807) = true := decide_eq_true q2
 clear z1 z3
 unfold boxed at *
 go_enter Try.func20, Try.ntmps20
 go_wp2_with fail
 go_quiet (fail)
 go_wp2_with fail
 refine (HR.out _ (by (first | exact FA.out | exact FA.out.drewN' _ | exact FR.out | exact FR.out.alloc' _ | exact FA.out.alloc' _ | exact (FA.out.alloc' _).drewN' _ | exact FBB.out | exact FP.out | exact FBB.out.alloc' _))).mono ?_
 rintro e W1 ⟨rfl, f1⟩
 obtain ⟨c0, c1, c2, c3, c4, c5⟩ := HK.out W1 f1
 have FR := hide f1
 clear f1
 go_wp2_with fail
 (first | (with_reducible refine (HB.out _ _ ?_ ?_).mono ?_) | (with_reducible refine (HBD.out _ _ _ ?_ ?_).mono ?_) | (with_reducible refine (HBE.out _ _ ?_ ?_).mono ?_))
 (first | rfl | simp)
 exact FR.out
 rintro e W3 ⟨rfl, f3⟩
 have FBB := hide f3
 clear f3
 go_wp2_with fail
 refine (HP.out _ FBB.out).mono ?_
 rintro e W2 ⟨rfl, f2⟩
 have FP := hide f2
 clear f2
 go_wp2
 go_ret
 exact ⟨congrArg (fun z => Ending.returned (Value.string z)) HM.out, HF0.out.trans FP.out⟩
end Go.Proofs.Ytpahjllcomejbaa
