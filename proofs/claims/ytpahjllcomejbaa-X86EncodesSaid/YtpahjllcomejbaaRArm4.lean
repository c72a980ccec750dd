/- The reference's sized, arm by arm; condition: both registers are some. -/
import Derived.Test.YtpahjllcomejbaaRLay0
set_option linter.unusedVariables false
set_option linter.unusedSimpArgs false
namespace Go.Proofs.Ytpahjllcomejbaa
open Go.RowKit Go.MapKept
open Go.Proofs.YtpahjllcomejbaaW.PrintWords Go.Proofs.YtpahjllcomejbaaW.PrintLast Go.Proofs.YtpahjllcomejbaaW.PrintMore

set_option maxRecDepth 100000 in
set_option maxHeartbeats 4000000 in
theorem rsized_26_2 (d s i m wd : Int) (d0 s0 : Int) (w : World) (h1 : R4 d) (h2 : R4 s) : Calls Try.prog 42 #[.agg #[.int .i64 26, .int .i64 d0, .int .i64 s0, .int .i64 m, .int .i64 i, .int .u64 wd], .int .i64 d, .int .i64 s, .int .i64 2] w
  (FromPost w (.string (strOfNums ([rexB true d s, 15, 183] ++ [dirB d s])))) := by
 have hu3 := Try.underlying32
 have HX := hide (heap_alloc_new w (boxed 26 d0 s0 m i wd))
 obtain ⟨c0, c1, c2, c3, c4, c5⟩ := box_at HX.out
 have hrr : 0 ≤ rexB true d s ∧ rexB true d s < 256 := by unfold rexB; simp; omega
 have HR := hide (from_rex (w.alloc (boxed 26 d0 s0 m i wd)) 72 d s (rexB true d s) (by omega) h1 h2 rfl)
 have HB := hide (from_bytes (w.alloc (boxed 26 d0 s0 m i wd)) [rexB true d s, 15, 183] 3 _ (strOfNums [rexB true d s, 15, 183]) rfl rfl (by simp) (by congr 1; unfold m256; simp; omega))
 have HP := hide (from_modes (w.alloc (boxed 26 d0 s0 m i wd)) d s (strOfNums [dirB d s]) h1 h2 rfl)
 have z3 : (strOfNums [dirB d s]).size ≤ 6 := by rw [strOfNums_size]; simp
 have HM : Hid (strOfNums [rexB true d s, 15, 183] ++ strOfNums ([dirB d s]) = strOfNums ([rexB true d s, 15, 183] ++ [dirB d s])) := hide (str_append _ _)
 have z1 : (strOfNums [rexB true d s, 15, 183]).size = 3 := by rw [strOfNums_size]; rfl
 have HF0 : Hid (Fr [] [] w (w.alloc (boxed 26 d0 s0 m i wd))) := hide ((Fr.refl [] w).alloc' _)
 clear hrr h1 h2
 generalize rexB true d s = rb at *
 generalize strOfNums [rb, 15, 183] = S1 at *
 generalize strOfNums ([dirB d s]) = S3 at *
 have q2 : S1.size + S3.size ≤ 9223372036854775807 := by omega
 have d2 : decide (S1.size + S3.size ≤ 9223372036854775807) = true := decide_eq_true q2
 clear z1 z3
 have fa := Fr.refl [] (w.alloc (boxed 26 d0 s0 m i wd))
 have FA := hide fa
 clear fa
 unfold boxed at HR HB HP FA HF0
 go_enter Try.func42, Try.ntmps42
 go_wp2_with fail
 refine (HR.out _ FA.out).mono ?_
 rintro e W1 ⟨rfl, f1⟩
 have FR := hide f1
 clear f1
 go_wp2_with fail
 refine (HB.out _ _ rfl FR.out).mono ?_
 rintro e W3 ⟨rfl, f3⟩
 have FBB := hide f3
 clear f3
 go_wp2_with fail
 refine (HP.out _ FBB.out).mono ?_
 rintro e W2 ⟨rfl, f2⟩
 have FP := hide f2
 clear f2
 go_wp2
 go_ret
 exact ⟨congrArg (fun z => Ending.returned (Value.string z)) HM.out, HF0.out.trans FP.out⟩
set_option maxRecDepth 100000 in
set_option maxHeartbeats 4000000 in
theorem rsized_26_4 (d s i m wd : Int) (d0 s0 : Int) (w : World) (h1 : R4 d) (h2 : R4 s) : Calls Try.prog 42 #[.agg #[.int .i64 26, .int .i64 d0, .int .i64 s0, .int .i64 m, .int .i64 i, .int .u64 wd], .int .i64 d, .int .i64 s, .int .i64 4] w
  (FromPost w (.string (strOfNums ([rexB false d s, 139] ++ [dirB d s])))) := by
 have hu3 := Try.underlying32
 have HX := hide (heap_alloc_new w (boxed 26 d0 s0 m i wd))
 obtain ⟨c0, c1, c2, c3, c4, c5⟩ := box_at HX.out
 have hrr : 0 ≤ rexB false d s ∧ rexB false d s < 256 := by unfold rexB; simp; omega
 have HR := hide (from_rex (w.alloc (boxed 26 d0 s0 m i wd)) 64 d s (rexB false d s) (by omega) h1 h2 rfl)
 have HB := hide (from_bytes (w.alloc (boxed 26 d0 s0 m i wd)) [rexB false d s, 139] 2 _ (strOfNums [rexB false d s, 139]) rfl rfl (by simp) (by congr 1; unfold m256; simp; omega))
 have HP := hide (from_modes (w.alloc (boxed 26 d0 s0 m i wd)) d s (strOfNums [dirB d s]) h1 h2 rfl)
 have z3 : (strOfNums [dirB d s]).size ≤ 6 := by rw [strOfNums_size]; simp
 have HM : Hid (strOfNums [rexB false d s, 139] ++ strOfNums ([dirB d s]) = strOfNums ([rexB false d s, 139] ++ [dirB d s])) := hide (str_append _ _)
 have z1 : (strOfNums [rexB false d s, 139]).size = 2 := by rw [strOfNums_size]; rfl
 have HF0 : Hid (Fr [] [] w (w.alloc (boxed 26 d0 s0 m i wd))) := hide ((Fr.refl [] w).alloc' _)
 clear hrr h1 h2
 generalize rexB false d s = rb at *
 generalize strOfNums [rb, 139] = S1 at *
 generalize strOfNums ([dirB d s]) = S3 at *
 have q2 : S1.size + S3.size ≤ 9223372036854775807 := by omega
 have d2 : decide (S1.size + S3.size ≤ 9223372036854775807) = true := decide_eq_true q2
 clear z1 z3
 have fa := Fr.refl [] (w.alloc (boxed 26 d0 s0 m i wd))
 have FA := hide fa
 clear fa
 unfold boxed at HR HB HP FA HF0
 go_enter Try.func42, Try.ntmps42
 go_wp2_with fail
 refine (HR.out _ FA.out).mono ?_
 rintro e W1 ⟨rfl, f1⟩
 have FR := hide f1
 clear f1
 go_wp2_with fail
 refine (HB.out _ _ rfl FR.out).mono ?_
 rintro e W3 ⟨rfl, f3⟩
 have FBB := hide f3
 clear f3
 go_wp2_with fail
 refine (HP.out _ FBB.out).mono ?_
 rintro e W2 ⟨rfl, f2⟩
 have FP := hide f2
 clear f2
 go_wp2
 go_ret
 exact ⟨congrArg (fun z => Ending.returned (Value.string z)) HM.out, HF0.out.trans FP.out⟩
set_option maxRecDepth 100000 in
set_option maxHeartbeats 4000000 in
theorem rsized_27_4 (d s i m wd : Int) (d0 s0 : Int) (w : World) (h1 : R4 d) (h2 : R4 s) : Calls Try.prog 42 #[.agg #[.int .i64 27, .int .i64 d0, .int .i64 s0, .int .i64 m, .int .i64 i, .int .u64 wd], .int .i64 d, .int .i64 s, .int .i64 4] w
  (FromPost w (.string (strOfNums ([rexB true d s, 99] ++ [dirB d s])))) := by
 have hu3 := Try.underlying32
 have HX := hide (heap_alloc_new w (boxed 27 d0 s0 m i wd))
 obtain ⟨c0, c1, c2, c3, c4, c5⟩ := box_at HX.out
 have hrr : 0 ≤ rexB true d s ∧ rexB true d s < 256 := by unfold rexB; simp; omega
 have HR := hide (from_rex (w.alloc (boxed 27 d0 s0 m i wd)) 72 d s (rexB true d s) (by omega) h1 h2 rfl)
 have HB := hide (from_bytes (w.alloc (boxed 27 d0 s0 m i wd)) [rexB true d s, 99] 2 _ (strOfNums [rexB true d s, 99]) rfl rfl (by simp) (by congr 1; unfold m256; simp; omega))
 have HP := hide (from_modes (w.alloc (boxed 27 d0 s0 m i wd)) d s (strOfNums [dirB d s]) h1 h2 rfl)
 have z3 : (strOfNums [dirB d s]).size ≤ 6 := by rw [strOfNums_size]; simp
 have HM : Hid (strOfNums [rexB true d s, 99] ++ strOfNums ([dirB d s]) = strOfNums ([rexB true d s, 99] ++ [dirB d s])) := hide (str_append _ _)
 have z1 : (strOfNums [rexB true d s, 99]).size = 2 := by rw [strOfNums_size]; rfl
 have HF0 : Hid (Fr [] [] w (w.alloc (boxed 27 d0 s0 m i wd))) := hide ((Fr.refl [] w).alloc' _)
 clear hrr h1 h2
 generalize rexB true d s = rb at *
 generalize strOfNums [rb, 99] = S1 at *
 generalize strOfNums ([dirB d s]) = S3 at *
 have q2 : S1.size + S3.size ≤ 9223372036854775807 := by omega
 have d2 : decide (S1.size + S3.size ≤ 9223372036854775807) = true := decide_eq_true q2
 clear z1 z3
 have fa := Fr.refl [] (w.alloc (boxed 27 d0 s0 m i wd))
 have FA := hide fa
 clear fa
 unfold boxed at HR HB HP FA HF0
 go_enter Try.func42, Try.ntmps42
 go_wp2_with fail
 refine (HR.out _ FA.out).mono ?_
 rintro e W1 ⟨rfl, f1⟩
 have FR := hide f1
 clear f1
 go_wp2_with fail
 refine (HB.out _ _ rfl FR.out).mono ?_
 rintro e W3 ⟨rfl, f3⟩
 have FBB := hide f3
 clear f3
 go_wp2_with fail
 refine (HP.out _ FBB.out).mono ?_
 rintro e W2 ⟨rfl, f2⟩
 have FP := hide f2
 clear f2
 go_wp2
 go_ret
 exact ⟨congrArg (fun z => Ending.returned (Value.string z)) HM.out, HF0.out.trans FP.out⟩
set_option maxRecDepth 100000 in
set_option maxHeartbeats 4000000 in
theorem rsized_27_2 (d s i m wd : Int) (d0 s0 : Int) (w : World) (h1 : R4 d) (h2 : R4 s) : Calls Try.prog 42 #[.agg #[.int .i64 27, .int .i64 d0, .int .i64 s0, .int .i64 m, .int .i64 i, .int .u64 wd], .int .i64 d, .int .i64 s, .int .i64 2] w
  (FromPost w (.string (strOfNums ([rexB true d s, 15, 191] ++ [dirB d s])))) := by
 have hu3 := Try.underlying32
 have HX := hide (heap_alloc_new w (boxed 27 d0 s0 m i wd))
 obtain ⟨c0, c1, c2, c3, c4, c5⟩ := box_at HX.out
 have hrr : 0 ≤ rexB true d s ∧ rexB true d s < 256 := by unfold rexB; simp; omega
 have HR := hide (from_rex (w.alloc (boxed 27 d0 s0 m i wd)) 72 d s (rexB true d s) (by omega) h1 h2 rfl)
 have HB := hide (from_bytes (w.alloc (boxed 27 d0 s0 m i wd)) [rexB true d s, 15, 191] 3 _ (strOfNums [rexB true d s, 15, 191]) rfl rfl (by simp) (by congr 1; unfold m256; simp; omega))
 have HP := hide (from_modes (w.alloc (boxed 27 d0 s0 m i wd)) d s (strOfNums [dirB d s]) h1 h2 rfl)
 have z3 : (strOfNums [dirB d s]).size ≤ 6 := by rw [strOfNums_size]; simp
 have HM : Hid (strOfNums [rexB true d s, 15, 191] ++ strOfNums ([dirB d s]) = strOfNums ([rexB true d s, 15, 191] ++ [dirB d s])) := hide (str_append _ _)
 have z1 : (strOfNums [rexB true d s, 15, 191]).size = 3 := by rw [strOfNums_size]; rfl
 have HF0 : Hid (Fr [] [] w (w.alloc (boxed 27 d0 s0 m i wd))) := hide ((Fr.refl [] w).alloc' _)
 clear hrr h1 h2
 generalize rexB true d s = rb at *
 generalize strOfNums [rb, 15, 191] = S1 at *
 generalize strOfNums ([dirB d s]) = S3 at *
 have q2 : S1.size + S3.size ≤ 9223372036854775807 := by omega
 have d2 : decide (S1.size + S3.size ≤ 9223372036854775807) = true := decide_eq_true q2
 clear z1 z3
 have fa := Fr.refl [] (w.alloc (boxed 27 d0 s0 m i wd))
 have FA := hide fa
 clear fa
 unfold boxed at HR HB HP FA HF0
 go_enter Try.func42, Try.ntmps42
 go_wp2_with fail
 refine (HR.out _ FA.out).mono ?_
 rintro e W1 ⟨rfl, f1⟩
 have FR := hide f1
 clear f1
 go_wp2_with fail
 refine (HB.out _ _ rfl FR.out).mono ?_
 rintro e W3 ⟨rfl, f3⟩
 have FBB := hide f3
 clear f3
 go_wp2_with fail
 refine (HP.out _ FBB.out).mono ?_
 rintro e W2 ⟨rfl, f2⟩
 have FP := hide f2
 clear f2
 go_wp2
 go_ret
 exact ⟨congrArg (fun z => Ending.returned (Value.string z)) HM.out, HF0.out.trans FP.out⟩
set_option maxRecDepth 100000 in
set_option maxHeartbeats 4000000 in
theorem rsized_27_1 (d s i m wd : Int) (d0 s0 : Int) (w : World) (h1 : R4 d) (h2 : R4 s) : Calls Try.prog 42 #[.agg #[.int .i64 27, .int .i64 d0, .int .i64 s0, .int .i64 m, .int .i64 i, .int .u64 wd], .int .i64 d, .int .i64 s, .int .i64 1] w
  (FromPost w (.string (strOfNums ([rexB true d s, 15, 190] ++ [dirB d s])))) := by
 have hu3 := Try.underlying32
 have HX := hide (heap_alloc_new w (boxed 27 d0 s0 m i wd))
 obtain ⟨c0, c1, c2, c3, c4, c5⟩ := box_at HX.out
 have hrr : 0 ≤ rexB true d s ∧ rexB true d s < 256 := by unfold rexB; simp; omega
 have HR := hide (from_rex (w.alloc (boxed 27 d0 s0 m i wd)) 72 d s (rexB true d s) (by omega) h1 h2 rfl)
 have HB := hide (from_bytes (w.alloc (boxed 27 d0 s0 m i wd)) [rexB true d s, 15, 190] 3 _ (strOfNums [rexB true d s, 15, 190]) rfl rfl (by simp) (by congr 1; unfold m256; simp; omega))
 have HP := hide (from_modes (w.alloc (boxed 27 d0 s0 m i wd)) d s (strOfNums [dirB d s]) h1 h2 rfl)
 have z3 : (strOfNums [dirB d s]).size ≤ 6 := by rw [strOfNums_size]; simp
 have HM : Hid (strOfNums [rexB true d s, 15, 190] ++ strOfNums ([dirB d s]) = strOfNums ([rexB true d s, 15, 190] ++ [dirB d s])) := hide (str_append _ _)
 have z1 : (strOfNums [rexB true d s, 15, 190]).size = 3 := by rw [strOfNums_size]; rfl
 have HF0 : Hid (Fr [] [] w (w.alloc (boxed 27 d0 s0 m i wd))) := hide ((Fr.refl [] w).alloc' _)
 clear hrr h1 h2
 generalize rexB true d s = rb at *
 generalize strOfNums [rb, 15, 190] = S1 at *
 generalize strOfNums ([dirB d s]) = S3 at *
 have q2 : S1.size + S3.size ≤ 9223372036854775807 := by omega
 have d2 : decide (S1.size + S3.size ≤ 9223372036854775807) = true := decide_eq_true q2
 clear z1 z3
 have fa := Fr.refl [] (w.alloc (boxed 27 d0 s0 m i wd))
 have FA := hide fa
 clear fa
 unfold boxed at HR HB HP FA HF0
 go_enter Try.func42, Try.ntmps42
 go_wp2_with fail
 refine (HR.out _ FA.out).mono ?_
 rintro e W1 ⟨rfl, f1⟩
 have FR := hide f1
 clear f1
 go_wp2_with fail
 refine (HB.out _ _ rfl FR.out).mono ?_
 rintro e W3 ⟨rfl, f3⟩
 have FBB := hide f3
 clear f3
 go_wp2_with fail
 refine (HP.out _ FBB.out).mono ?_
 rintro e W2 ⟨rfl, f2⟩
 have FP := hide f2
 clear f2
 go_wp2
 go_ret
 exact ⟨congrArg (fun z => Ending.returned (Value.string z)) HM.out, HF0.out.trans FP.out⟩
end Go.Proofs.Ytpahjllcomejbaa
