/- The reference's lay, kind by kind; condition: both registers are some. -/
import Derived.Test.YtpahjllcomejbaaRLay0
import Derived.IntWalk
import Derived.Deep.RegionHeld3
set_option linter.unusedVariables false
set_option linter.unusedSimpArgs false
namespace Go.Proofs.Ytpahjllcomejbaa
open Go.RowKit Go.MapKept
open Go.Proofs.YtpahjllcomejbaaW.PrintWords Go.Proofs.YtpahjllcomejbaaW.PrintLast Go.Proofs.YtpahjllcomejbaaW.PrintMore

set_option maxRecDepth 100000 in
set_option maxHeartbeats 40000000 in
theorem rlay_10 (d s n i wd : Int) (w : World) (h1 : R4 d) (h2 : R4 s) : Calls Try.prog 20 #[.agg #[.int .i64 10, .int .i64 d, .int .i64 s, .int .i64 n, .int .i64 i, .int .u64 wd]] w
  (FromPost w (.string (strOfNums ([rexB true d s, 15, 175] ++ [dirB d s])))) := by
 have hu3 := Try.underlying32
 have HX := hide (heap_alloc_new w (boxed 10 d s n i wd))
 obtain ⟨c0, c1, c2, c3, c4, c5⟩ := box_at HX.out
 have HF0 : Hid (Fr [] [] w (w.alloc (boxed 10 d s n i wd))) := hide ((Fr.refl [] w).alloc' _)
 have HK : Hid (∀ W', Fr [] [] (w.alloc (boxed 10 d s n i wd)) W' → BoxAt W' w.heap.size 10 d s n i wd) := hide fun W' h => box_at (h.keep HX.out (by simp))
 have HKA : Hid (∀ W', Fr [] [] (w.alloc (boxed 10 d s n i wd)) W' → ∀ o, BoxAt (W'.alloc o) w.heap.size 10 d s n i wd) := hide fun W' h o => HK.out _ (h.alloc' o)
 have fa := Fr.refl [] (w.alloc (boxed 10 d s n i wd))
 have FA := hide fa
 clear fa
 have hrr : 0 ≤ rexB true d s ∧ rexB true d s < 256 := by unfold rexB; simp; omega
 have HR := hide (from_rex (w.alloc (boxed 10 d s n i wd)) 72 d s (rexB true d s) (by omega) h1 h2 rfl)
 have HB := hide (from_bytes (w.alloc (boxed 10 d s n i wd)) [rexB true d s, 15, 175] 3 (#[.int .i64 (rexB true d s), .int .i64 (15), .int .i64 (175)]) (strOfNums [rexB true d s, 15, 175]) rfl rfl (by simp) (by first | (congr 1; unfold m256; simp; omega) | (unfold m256; simp)))
 have HBD := hide (from_bytes_d (w.alloc (boxed 10 d s n i wd)) [rexB true d s, 15, 175] 3 (#[.int .i64 (rexB true d s), .int .i64 (15), .int .i64 (175)]) (strOfNums [rexB true d s, 15, 175]) rfl rfl (by simp) (by first | (congr 1; unfold m256; simp; omega) | (unfold m256; simp)))
 have HBE := hide (from_bytes_e (w.alloc (boxed 10 d s n i wd)) [rexB true d s, 15, 175] 3 (#[.int .i64 (rexB true d s), .int .i64 (15), .int .i64 (175)]) (strOfNums [rexB true d s, 15, 175]) rfl rfl (by simp) (by first | (congr 1; unfold m256; simp; omega) | (unfold m256; simp)))
 have z1 : (strOfNums [rexB true d s, 15, 175]).size = 3 := by rw [strOfNums_size]; rfl
 have HP := hide (from_modes (w.alloc (boxed 10 d s n i wd)) d s (strOfNums [dirB d s]) h1 h2 rfl)
 have z3 : (strOfNums [dirB d s]).size ≤ 6 := by rw [strOfNums_size]; simp
 have HM : Hid (strOfNums [rexB true d s, 15, 175] ++ strOfNums ([dirB d s]) = strOfNums ([rexB true d s, 15, 175] ++ [dirB d s])) := hide (str_append _ _)
 clear hrr
 obtain ⟨g0, g1⟩ := h1
 obtain ⟨m0, m1⟩ := h2
 have td0 : decide (d < 0) = false := by simp; omega
 have td1 : decide (15 < d) = false := by simp; omega
 have ts0 : decide (s < 0) = false := by simp; omega
 have ts1 : decide (15 < s) = false := by simp; omega
 have HG := hide (And.intro (And.intro g0 g1) (And.intro m0 m1))
 clear g0 g1 m0 m1
 generalize rexB true d s = rb at *
 generalize strOfNums [rb, 15, 175] = S1 at *
 generalize strOfNums ([dirB d s]) = S3 at *
 have q2 : S1.size + S3.size ≤ 9223372036854775807 := by omega
 have d2 : decide (S1.size + S3.size ≤ 9223372036854775807) = true := decide_eq_true q2
 clear z1 z3
 unfold boxed at *
 go_enter Try.func20, Try.ntmps20
 go_wp2_with fail
 go_quiet (fail)
 go_wp2_with fail
 refine (HR.out _ (by (first | exact FA.out | exact FA.out.drewN' _ | exact FR.out | exact FR.out.alloc' _ | exact FA.out.alloc' _ | exact (FA.out.alloc' _).drewN' _ | exact FBB.out | exact FP.out | exact FBB.out.alloc' _))).mono ?_
 rintro e W1 ⟨rfl, f1⟩
 obtain ⟨c0, c1, c2, c3, c4, c5⟩ := HK.out W1 f1
 have FR := hide f1
 clear f1
 go_wp2_with fail
 (first | (with_reducible refine (HB.out _ _ ?_ ?_).mono ?_) | (with_reducible refine (HBD.out _ _ _ ?_ ?_).mono ?_) | (with_reducible refine (HBE.out _ _ ?_ ?_).mono ?_))
 (first | rfl | simp)
 exact FR.out
 rintro e W3 ⟨rfl, f3⟩
 have FBB := hide f3
 clear f3
 go_wp2_with fail
 refine (HP.out _ FBB.out).mono ?_
 rintro e W2 ⟨rfl, f2⟩
 have FP := hide f2
 clear f2
 go_wp2
 go_ret
 exact ⟨congrArg (fun z => Ending.returned (Value.string z)) HM.out, HF0.out.trans FP.out⟩
set_option maxRecDepth 100000 in
set_option maxHeartbeats 40000000 in
theorem rlay_17 (d s n i wd : Int) (w : World) (h1 : R4 d) (h2 : R4 s) : Calls Try.prog 20 #[.agg #[.int .i64 17, .int .i64 d, .int .i64 s, .int .i64 n, .int .i64 i, .int .u64 wd]] w
  (FromPost w (.string (strOfNums ([72, 153])))) := by
 have hu3 := Try.underlying32
 have HX := hide (heap_alloc_new w (boxed 17 d s n i wd))
 obtain ⟨c0, c1, c2, c3, c4, c5⟩ := box_at HX.out
 have HF0 : Hid (Fr [] [] w (w.alloc (boxed 17 d s n i wd))) := hide ((Fr.refl [] w).alloc' _)
 have HK : Hid (∀ W', Fr [] [] (w.alloc (boxed 17 d s n i wd)) W' → BoxAt W' w.heap.size 17 d s n i wd) := hide fun W' h => box_at (h.keep HX.out (by simp))
 have HKA : Hid (∀ W', Fr [] [] (w.alloc (boxed 17 d s n i wd)) W' → ∀ o, BoxAt (W'.alloc o) w.heap.size 17 d s n i wd) := hide fun W' h o => HK.out _ (h.alloc' o)
 have fa := Fr.refl [] (w.alloc (boxed 17 d s n i wd))
 have FA := hide fa
 clear fa
 have HB := hide (from_bytes (w.alloc (boxed 17 d s n i wd)) [72, 153] 2 (#[.int .i64 (72), .int .i64 (153)]) (strOfNums [72, 153]) rfl rfl (by simp) (by first | (congr 1; unfold m256; simp; omega) | (unfold m256; simp)))
 have HBD := hide (from_bytes_d (w.alloc (boxed 17 d s n i wd)) [72, 153] 2 (#[.int .i64 (72), .int .i64 (153)]) (strOfNums [72, 153]) rfl rfl (by simp) (by first | (congr 1; unfold m256; simp; omega) | (unfold m256; simp)))
 have HBE := hide (from_bytes_e (w.alloc (boxed 17 d s n i wd)) [72, 153] 2 (#[.int .i64 (72), .int .i64 (153)]) (strOfNums [72, 153]) rfl rfl (by simp) (by first | (congr 1; unfold m256; simp; omega) | (unfold m256; simp)))
 have z1 : (strOfNums [72, 153]).size = 2 := by rw [strOfNums_size]; rfl
 obtain ⟨g0, g1⟩ := h1
 obtain ⟨m0, m1⟩ := h2
 have td0 : decide (d < 0) = false := by simp; omega
 have td1 : decide (15 < d) = false := by simp; omega
 have ts0 : decide (s < 0) = false := by simp; omega
 have ts1 : decide (15 < s) = false := by simp; omega
 have HG := hide (And.intro (And.intro g0 g1) (And.intro m0 m1))
 clear g0 g1 m0 m1
 generalize strOfNums [72, 153] = S1 at *
 clear z1
 unfold boxed at *
 go_enter Try.func20, Try.ntmps20
 go_wp2_with fail
 go_quiet (fail)
 go_wp2_with fail
 (first | (with_reducible refine (HB.out _ _ ?_ ?_).mono ?_) | (with_reducible refine (HBD.out _ _ _ ?_ ?_).mono ?_) | (with_reducible refine (HBE.out _ _ ?_ ?_).mono ?_))
 (first | rfl | simp)
 (first | exact FA.out | exact FA.out.drewN' _ | exact FR.out | exact FR.out.alloc' _ | exact FA.out.alloc' _ | exact (FA.out.alloc' _).drewN' _ | exact FBB.out | exact FP.out | exact FBB.out.alloc' _)
 rintro e W3 ⟨rfl, f3⟩
 have FBB := hide f3
 clear f3
 go_wp2_with fail
 go_ret
 exact ⟨rfl, HF0.out.trans FBB.out⟩
set_option maxRecDepth 100000 in
set_option maxHeartbeats 40000000 in
theorem rlay_28 (d s n i wd : Int) (w : World) (h1 : R4 d) (h2 : R4 s) : Calls Try.prog 20 #[.agg #[.int .i64 28, .int .i64 d, .int .i64 s, .int .i64 n, .int .i64 i, .int .u64 wd]] w
  (FromPost w (.string (strOfNums ([15, 5])))) := by
 have hu3 := Try.underlying32
 have HX := hide (heap_alloc_new w (boxed 28 d s n i wd))
 obtain ⟨c0, c1, c2, c3, c4, c5⟩ := box_at HX.out
 have HF0 : Hid (Fr [] [] w (w.alloc (boxed 28 d s n i wd))) := hide ((Fr.refl [] w).alloc' _)
 have HK : Hid (∀ W', Fr [] [] (w.alloc (boxed 28 d s n i wd)) W' → BoxAt W' w.heap.size 28 d s n i wd) := hide fun W' h => box_at (h.keep HX.out (by simp))
 have HKA : Hid (∀ W', Fr [] [] (w.alloc (boxed 28 d s n i wd)) W' → ∀ o, BoxAt (W'.alloc o) w.heap.size 28 d s n i wd) := hide fun W' h o => HK.out _ (h.alloc' o)
 have fa := Fr.refl [] (w.alloc (boxed 28 d s n i wd))
 have FA := hide fa
 clear fa
 have HB := hide (from_bytes (w.alloc (boxed 28 d s n i wd)) [15, 5] 2 (#[.int .i64 (15), .int .i64 (5)]) (strOfNums [15, 5]) rfl rfl (by simp) (by first | (congr 1; unfold m256; simp; omega) | (unfold m256; simp)))
 have HBD := hide (from_bytes_d (w.alloc (boxed 28 d s n i wd)) [15, 5] 2 (#[.int .i64 (15), .int .i64 (5)]) (strOfNums [15, 5]) rfl rfl (by simp) (by first | (congr 1; unfold m256; simp; omega) | (unfold m256; simp)))
 have HBE := hide (from_bytes_e (w.alloc (boxed 28 d s n i wd)) [15, 5] 2 (#[.int .i64 (15), .int .i64 (5)]) (strOfNums [15, 5]) rfl rfl (by simp) (by first | (congr 1; unfold m256; simp; omega) | (unfold m256; simp)))
 have z1 : (strOfNums [15, 5]).size = 2 := by rw [strOfNums_size]; rfl
 obtain ⟨g0, g1⟩ := h1
 obtain ⟨m0, m1⟩ := h2
 have td0 : decide (d < 0) = false := by simp; omega
 have td1 : decide (15 < d) = false := by simp; omega
 have ts0 : decide (s < 0) = false := by simp; omega
 have ts1 : decide (15 < s) = false := by simp; omega
 have HG := hide (And.intro (And.intro g0 g1) (And.intro m0 m1))
 clear g0 g1 m0 m1
 generalize strOfNums [15, 5] = S1 at *
 clear z1
 unfold boxed at *
 go_enter Try.func20, Try.ntmps20
 go_wp2_with fail
 go_quiet (fail)
 go_wp2_with fail
 (first | (with_reducible refine (HB.out _ _ ?_ ?_).mono ?_) | (with_reducible refine (HBD.out _ _ _ ?_ ?_).mono ?_) | (with_reducible refine (HBE.out _ _ ?_ ?_).mono ?_))
 (first | rfl | simp)
 (first | exact FA.out | exact FA.out.drewN' _ | exact FR.out | exact FR.out.alloc' _ | exact FA.out.alloc' _ | exact (FA.out.alloc' _).drewN' _ | exact FBB.out | exact FP.out | exact FBB.out.alloc' _)
 rintro e W3 ⟨rfl, f3⟩
 have FBB := hide f3
 clear f3
 go_wp2_with fail
 go_ret
 exact ⟨rfl, HF0.out.trans FBB.out⟩
set_option maxRecDepth 100000 in
set_option maxHeartbeats 40000000 in
theorem rlay_29 (d s n i wd : Int) (w : World) (h1 : R4 d) (h2 : R4 s) : Calls Try.prog 20 #[.agg #[.int .i64 29, .int .i64 d, .int .i64 s, .int .i64 n, .int .i64 i, .int .u64 wd]] w
  (FromPost w (.string (strOfNums ([195])))) := by
 have hu3 := Try.underlying32
 have HX := hide (heap_alloc_new w (boxed 29 d s n i wd))
 obtain ⟨c0, c1, c2, c3, c4, c5⟩ := box_at HX.out
 have HF0 : Hid (Fr [] [] w (w.alloc (boxed 29 d s n i wd))) := hide ((Fr.refl [] w).alloc' _)
 have HK : Hid (∀ W', Fr [] [] (w.alloc (boxed 29 d s n i wd)) W' → BoxAt W' w.heap.size 29 d s n i wd) := hide fun W' h => box_at (h.keep HX.out (by simp))
 have HKA : Hid (∀ W', Fr [] [] (w.alloc (boxed 29 d s n i wd)) W' → ∀ o, BoxAt (W'.alloc o) w.heap.size 29 d s n i wd) := hide fun W' h o => HK.out _ (h.alloc' o)
 have fa := Fr.refl [] (w.alloc (boxed 29 d s n i wd))
 have FA := hide fa
 clear fa
 have HB := hide (from_bytes (w.alloc (boxed 29 d s n i wd)) [195] 1 (#[.int .i64 (195)]) (strOfNums [195]) rfl rfl (by simp) (by first | (congr 1; unfold m256; simp; omega) | (unfold m256; simp)))
 have HBD := hide (from_bytes_d (w.alloc (boxed 29 d s n i wd)) [195] 1 (#[.int .i64 (195)]) (strOfNums [195]) rfl rfl (by simp) (by first | (congr 1; unfold m256; simp; omega) | (unfold m256; simp)))
 have HBE := hide (from_bytes_e (w.alloc (boxed 29 d s n i wd)) [195] 1 (#[.int .i64 (195)]) (strOfNums [195]) rfl rfl (by simp) (by first | (congr 1; unfold m256; simp; omega) | (unfold m256; simp)))
 have z1 : (strOfNums [195]).size = 1 := by rw [strOfNums_size]; rfl
 obtain ⟨g0, g1⟩ := h1
 obtain ⟨m0, m1⟩ := h2
 have td0 : decide (d < 0) = false := by simp; omega
 have td1 : decide (15 < d) = false := by simp; omega
 have ts0 : decide (s < 0) = false := by simp; omega
 have ts1 : decide (15 < s) = false := by simp; omega
 have HG := hide (And.intro (And.intro g0 g1) (And.intro m0 m1))
 clear g0 g1 m0 m1
 generalize strOfNums [195] = S1 at *
 clear z1
 unfold boxed at *
 go_enter Try.func20, Try.ntmps20
 go_wp2_with fail
 go_quiet (fail)
 go_wp2_with fail
 (first | (with_reducible refine (HB.out _ _ ?_ ?_).mono ?_) | (with_reducible refine (HBD.out _ _ _ ?_ ?_).mono ?_) | (with_reducible refine (HBE.out _ _ ?_ ?_).mono ?_))
 (first | rfl | simp)
 (first | exact FA.out | exact FA.out.drewN' _ | exact FR.out | exact FR.out.alloc' _ | exact FA.out.alloc' _ | exact (FA.out.alloc' _).drewN' _ | exact FBB.out | exact FP.out | exact FBB.out.alloc' _)
 rintro e W3 ⟨rfl, f3⟩
 have FBB := hide f3
 clear f3
 go_wp2_with fail
 go_ret
 exact ⟨rfl, HF0.out.trans FBB.out⟩
set_option maxRecDepth 100000 in
set_option maxHeartbeats 40000000 in
theorem rlay_25 (d s n i wd : Int) (w : World) (h1 : R4 d) (h2 : R4 s) : Calls Try.prog 20 #[.agg #[.int .i64 25, .int .i64 d, .int .i64 s, .int .i64 n, .int .i64 i, .int .u64 wd]] w
  (FromPost w (.string (strOfNums ([rexB true 0 d, 15, 200 + d % 8])))) := by
 have hu3 := Try.underlying32
 have HX := hide (heap_alloc_new w (boxed 25 d s n i wd))
 obtain ⟨c0, c1, c2, c3, c4, c5⟩ := box_at HX.out
 have HF0 : Hid (Fr [] [] w (w.alloc (boxed 25 d s n i wd))) := hide ((Fr.refl [] w).alloc' _)
 have HK : Hid (∀ W', Fr [] [] (w.alloc (boxed 25 d s n i wd)) W' → BoxAt W' w.heap.size 25 d s n i wd) := hide fun W' h => box_at (h.keep HX.out (by simp))
 have HKA : Hid (∀ W', Fr [] [] (w.alloc (boxed 25 d s n i wd)) W' → ∀ o, BoxAt (W'.alloc o) w.heap.size 25 d s n i wd) := hide fun W' h o => HK.out _ (h.alloc' o)
 have fa := Fr.refl [] (w.alloc (boxed 25 d s n i wd))
 have FA := hide fa
 clear fa
 have hrr : 0 ≤ rexB true 0 d ∧ rexB true 0 d < 256 := by unfold rexB; simp; omega
 have HR := hide (from_rex (w.alloc (boxed 25 d s n i wd)) 72 0 d (rexB true 0 d) (by omega) (by unfold R4; omega) h1 rfl)
 have HB := hide (from_bytes (w.alloc (boxed 25 d s n i wd)) [rexB true 0 d, 15, 200 + d % 8] 3 (#[.int .i64 (rexB true 0 d), .int .i64 (15), .int .i64 (200 + d % 8)]) (strOfNums [rexB true 0 d, 15, 200 + d % 8]) rfl rfl (by simp) (by first | (congr 1; unfold m256; simp; omega) | (unfold m256; simp)))
 have HBD := hide (from_bytes_d (w.alloc (boxed 25 d s n i wd)) [rexB true 0 d, 15, 200 + d % 8] 3 (#[.int .i64 (rexB true 0 d), .int .i64 (15), .int .i64 (200 + d % 8)]) (strOfNums [rexB true 0 d, 15, 200 + d % 8]) rfl rfl (by simp) (by first | (congr 1; unfold m256; simp; omega) | (unfold m256; simp)))
 have HBE := hide (from_bytes_e (w.alloc (boxed 25 d s n i wd)) [rexB true 0 d, 15, 200 + d % 8] 3 (#[.int .i64 (rexB true 0 d), .int .i64 (15), .int .i64 (200 + d % 8)]) (strOfNums [rexB true 0 d, 15, 200 + d % 8]) rfl rfl (by simp) (by first | (congr 1; unfold m256; simp; omega) | (unfold m256; simp)))
 have z1 : (strOfNums [rexB true 0 d, 15, 200 + d % 8]).size = 3 := by rw [strOfNums_size]; rfl
 obtain ⟨g0, g1⟩ := h1
 obtain ⟨m0, m1⟩ := h2
 have td0 : decide (d < 0) = false := by simp; omega
 have td1 : decide (15 < d) = false := by simp; omega
 have ts0 : decide (s < 0) = false := by simp; omega
 have ts1 : decide (15 < s) = false := by simp; omega
 have HG := hide (And.intro (And.intro g0 g1) (And.intro m0 m1))
 clear g0 g1 m0 m1
 have hw8 : IntKind.i64.wrap (200 + d.tmod 8) = 200 + d % 8 := by
  have := HG.out
  rw [Int.tmod_eq_emod_of_nonneg this.1.1, IntWalk.i64_in _ (by omega)]
 generalize rexB true 0 d = rb at *
 generalize strOfNums [rb, 15, 200 + d % 8] = S1 at *
 clear z1 hrr
 unfold boxed at *
 go_enter Try.func20, Try.ntmps20
 go_wp2_with fail
 go_quiet (fail)
 go_wp2_with fail
 refine (HR.out _ (by (first | exact FA.out | exact FA.out.drewN' _ | exact FR.out | exact FR.out.alloc' _ | exact FA.out.alloc' _ | exact (FA.out.alloc' _).drewN' _ | exact FBB.out | exact FP.out | exact FBB.out.alloc' _))).mono ?_
 rintro e W1 ⟨rfl, f1⟩
 obtain ⟨c0, c1, c2, c3, c4, c5⟩ := HK.out W1 f1
 have FR := hide f1
 clear f1
 go_wp2_with fail
 (first | (with_reducible refine (HB.out _ _ ?_ ?_).mono ?_) | (with_reducible refine (HBD.out _ _ _ ?_ ?_).mono ?_) | (with_reducible refine (HBE.out _ _ ?_ ?_).mono ?_))
 (first | rfl | simp)
 exact FR.out
 rintro e W3 ⟨rfl, f3⟩
 have FBB := hide f3
 clear f3
 go_wp2_with fail
 go_ret
 exact ⟨rfl, HF0.out.trans FBB.out⟩
end Go.Proofs.Ytpahjllcomejbaa
