/- Several texts of this claim in one: each is told where it begins. -/
import Derived.Test.YtpahjllcomejbaaRLay0
import Derived.Test.YtpahjllcomejbaaRLay1
import Derived.Test.YtpahjllcomejbaaRLay2
import Derived.Test.YtpahjllcomejbaaRLay3
import Derived.Test.YtpahjllcomejbaaRLay4
import Derived.Test.YtpahjllcomejbaaRLay5
import Derived.Test.YtpahjllcomejbaaRLay6
import Derived.Test.YtpahjllcomejbaaRLay7
import Derived.Test.YtpahjllcomejbaaRLay8
import Derived.Test.YtpahjllcomejbaaRLay9
import Derived.Test.YtpahjllcomejbaaRLay10
import Derived.Test.YtpahjllcomejbaaRSizedN
import Derived.Test.YtpahjllcomejbaaRArm1
import Derived.Test.YtpahjllcomejbaaRArm2
import Derived.Test.YtpahjllcomejbaaRArm3
/- The reference's sized, arm by arm; condition: both registers are some. -/
set_option linter.unusedVariables false
set_option linter.unusedSimpArgs false
namespace Go.Proofs.Ytpahjllcomejbaa
open Go.RowKit Go.MapKept
open Go.Proofs.YtpahjllcomejbaaW.PrintWords Go.Proofs.YtpahjllcomejbaaW.PrintLast Go.Proofs.YtpahjllcomejbaaW.PrintMore

set_option maxRecDepth 100000 in
set_option maxHeartbeats 4000000 in
theorem rsized_26_2 (d s i m wd : Int) (d0 s0 : Int) (w : World) (h1 : R4 d) (h2 : R4 s) : Calls Try.prog 42 #[.agg #[.int .i64 26, .int .i64 d0, .int .i64 s0, .int .i64 m, .int .i64 i, .int .u64 wd], .int .i64 d, .int .i64 s, .int .i64 2] w
  (FromPost w (.string (strOfNums ([rexB true d s, 15, 183] ++ [dirB d s])))) := by
 have hu3 := Try.underlying32
 have HX := hide (heap_alloc_new w (boxed 26 d0 s0 m i wd))
 obtain ⟨c0, c1, c2, c3, c4, c5⟩ := box_at HX.out
 have hrr : 0 ≤ rexB true d s ∧ rexB true d s < 256 := by unfold rexB; simp; omega
 have HR := hide (from_rex (w.alloc (boxed 26 d0 s0 m i wd)) 72 d s (rexB true d s) (by omega) h1 h2 rfl)
 have HB := hide (from_bytes (w.alloc (boxed 26 d0 s0 m i wd)) [rexB true d s, 15, 183] 3 _ (strOfNums [rexB true d s, 15, 183]) rfl rfl (by simp) (by congr 1; unfold m256; simp; omega))
 have HP := hide (from_modes (w.alloc (boxed 26 d0 s0 m i wd)) d s (strOfNums [dirB d s]) h1 h2 rfl)
 have z3 : (strOfNums [dirB d s]).size ≤ 6 := by rw [strOfNums_size]; simp
 have HM : Hid (strOfNums [rexB true d s, 15, 183] ++ strOfNums ([dirB d s]) = strOfNums ([rexB true d s, 15, 183] ++ [dirB d s])) := hide (str_append _ _)
 have z1 : (strOfNums [rexB true d s, 15, 183]).size = 3 := by rw [strOfNums_size]; rfl
 have HF0 : Hid (Fr [] [] w (w.alloc (boxed 26 d0 s0 m i wd))) := hide ((Fr.refl [] w).alloc' _)
 clear hrr h1 h2
 generalize rexB true d s = rb at *
 generalize strOfNums [rb, 15, 183] = S1 at *
 generalize strOfNums ([dirB d s]) = S3 at *
 have q2 : S1.size + S3.size ≤ 9223372036854775807 := by omega
 have d2 : decide (S1.size + S3.size ≤ 9223372036854775807) = true := decide_eq_true q2
 clear z1 z3
 have fa := Fr.refl [] (w.alloc (boxed 26 d0 s0 m i wd))
 have FA := hide fa
 clear fa
 unfold boxed at HR HB HP FA HF0
 go_enter Try.func42, Try.ntmps42
 go_wp2_with fail
 refine (HR.out _ FA.out).mono ?_
 rintro e W1 ⟨rfl, f1⟩
 have FR := hide f1
 clear f1
 go_wp2_with fail
 refine (HB.out _ _ rfl FR.out).mono ?_
 rintro e W3 ⟨rfl, f3⟩
 have FBB := hide f3
 clear f3
 go_wp2_with fail
 refine (HP.out _ FBB.out).mono ?_
 rintro e W2 ⟨rfl, f2⟩
 have FP := hide f2
 clear f2
 go_wp2
 go_ret
 exact ⟨congrArg (fun z => Ending.returned (Value.string z)) HM.out, HF0.out.trans FP.out⟩
set_option maxRecDepth 100000 in
set_option maxHeartbeats 4000000 in
theorem rsized_26_4 (d s i m wd : Int) (d0 s0 : Int) (w : World) (h1 : R4 d) (h2 : R4 s) : Calls Try.prog 42 #[.agg #[.int .i64 26, .int .i64 d0, .int .i64 s0, .int .i64 m, .int .i64 i, .int .u64 wd], .int .i64 d, .int .i64 s, .int .i64 4] w
  (FromPost w (.string (strOfNums ([rexB false d s, 139] ++ [dirB d s])))) := by
 have hu3 := Try.underlying32
 have HX := hide (heap_alloc_new w (boxed 26 d0 s0 m i wd))
 obtain ⟨c0, c1, c2, c3, c4, c5⟩ := box_at HX.out
 have hrr : 0 ≤ rexB false d s ∧ rexB false d s < 256 := by unfold rexB; simp; omega
 have HR := hide (from_rex (w.alloc (boxed 26 d0 s0 m i wd)) 64 d s (rexB false d s) (by omega) h1 h2 rfl)
 have HB := hide (from_bytes (w.alloc (boxed 26 d0 s0 m i wd)) [rexB false d s, 139] 2 _ (strOfNums [rexB false d s, 139]) rfl rfl (by simp) (by congr 1; unfold m256; simp; omega))
 have HP := hide (from_modes (w.alloc (boxed 26 d0 s0 m i wd)) d s (strOfNums [dirB d s]) h1 h2 rfl)
 have z3 : (strOfNums [dirB d s]).size ≤ 6 := by rw [strOfNums_size]; simp
 have HM : Hid (strOfNums [rexB false d s, 139] ++ strOfNums ([dirB d s]) = strOfNums ([rexB false d s, 139] ++ [dirB d s])) := hide (str_append _ _)
 have z1 : (strOfNums [rexB false d s, 139]).size = 2 := by rw [strOfNums_size]; rfl
 have HF0 : Hid (Fr [] [] w (w.alloc (boxed 26 d0 s0 m i wd))) := hide ((Fr.refl [] w).alloc' _)
 clear hrr h1 h2
 generalize rexB false d s = rb at *
 generalize strOfNums [rb, 139] = S1 at *
 generalize strOfNums ([dirB d s]) = S3 at *
 have q2 : S1.size + S3.size ≤ 9223372036854775807 := by omega
 have d2 : decide (S1.size + S3.size ≤ 9223372036854775807) = true := decide_eq_true q2
 clear z1 z3
 have fa := Fr.refl [] (w.alloc (boxed 26 d0 s0 m i wd))
 have FA := hide fa
 clear fa
 unfold boxed at HR HB HP FA HF0
 go_enter Try.func42, Try.ntmps42
 go_wp2_with fail
 refine (HR.out _ FA.out).mono ?_
 rintro e W1 ⟨rfl, f1⟩
 have FR := hide f1
 clear f1
 go_wp2_with fail
 refine (HB.out _ _ rfl FR.out).mono ?_
 rintro e W3 ⟨rfl, f3⟩
 have FBB := hide f3
 clear f3
 go_wp2_with fail
 refine (HP.out _ FBB.out).mono ?_
 rintro e W2 ⟨rfl, f2⟩
 have FP := hide f2
 clear f2
 go_wp2
 go_ret
 exact ⟨congrArg (fun z => Ending.returned (Value.string z)) HM.out, HF0.out.trans FP.out⟩
set_option maxRecDepth 100000 in
set_option maxHeartbeats 4000000 in
theorem rsized_27_4 (d s i m wd : Int) (d0 s0 : Int) (w : World) (h1 : R4 d) (h2 : R4 s) : Calls Try.prog 42 #[.agg #[.int .i64 27, .int .i64 d0, .int .i64 s0, .int .i64 m, .int .i64 i, .int .u64 wd], .int .i64 d, .int .i64 s, .int .i64 4] w
  (FromPost w (.string (strOfNums ([rexB true d s, 99] ++ [dirB d s])))) := by
 have hu3 := Try.underlying32
 have HX := hide (heap_alloc_new w (boxed 27 d0 s0 m i wd))
 obtain ⟨c0, c1, c2, c3, c4, c5⟩ := box_at HX.out
 have hrr : 0 ≤ rexB true d s ∧ rexB true d s < 256 := by unfold rexB; simp; omega
 have HR := hide (from_rex (w.alloc (boxed 27 d0 s0 m i wd)) 72 d s (rexB true d s) (by omega) h1 h2 rfl)
 have HB := hide (from_bytes (w.alloc (boxed 27 d0 s0 m i wd)) [rexB true d s, 99] 2 _ (strOfNums [rexB true d s, 99]) rfl rfl (by simp) (by congr 1; unfold m256; simp; omega))
 have HP := hide (from_modes (w.alloc (boxed 27 d0 s0 m i wd)) d s (strOfNums [dirB d s]) h1 h2 rfl)
 have z3 : (strOfNums [dirB d s]).size ≤ 6 := by rw [strOfNums_size]; simp
 have HM : Hid (strOfNums [rexB true d s, 99] ++ strOfNums ([dirB d s]) = strOfNums ([rexB true d s, 99] ++ [dirB d s])) := hide (str_append _ _)
 have z1 : (strOfNums [rexB true d s, 99]).size = 2 := by rw [strOfNums_size]; rfl
 have HF0 : Hid (Fr [] [] w (w.alloc (boxed 27 d0 s0 m i wd))) := hide ((Fr.refl [] w).alloc' _)
 clear hrr h1 h2
 generalize rexB true d s = rb at *
 generalize strOfNums [rb, 99] = S1 at *
 generalize strOfNums ([dirB d s]) = S3 at *
 have q2 : S1.size + S3.size ≤ 9223372036854775807 := by omega
 have d2 : decide (S1.size + S3.size ≤ 9223372036854775807) = true := decide_eq_true q2
 clear z1 z3
 have fa := Fr.refl [] (w.alloc (boxed 27 d0 s0 m i wd))
 have FA := hide fa
 clear fa
 unfold boxed at HR HB HP FA HF0
 go_enter Try.func42, Try.ntmps42
 go_wp2_with fail
 refine (HR.out _ FA.out).mono ?_
 rintro e W1 ⟨rfl, f1⟩
 have FR := hide f1
 clear f1
 go_wp2_with fail
 refine (HB.out _ _ rfl FR.out).mono ?_
 rintro e W3 ⟨rfl, f3⟩
 have FBB := hide f3
 clear f3
 go_wp2_with fail
 refine (HP.out _ FBB.out).mono ?_
 rintro e W2 ⟨rfl, f2⟩
 have FP := hide f2
 clear f2
 go_wp2
 go_ret
 exact ⟨congrArg (fun z => Ending.returned (Value.string z)) HM.out, HF0.out.trans FP.out⟩
set_option maxRecDepth 100000 in
set_option maxHeartbeats 4000000 in
theorem rsized_27_2 (d s i m wd : Int) (d0 s0 : Int) (w : World) (h1 : R4 d) (h2 : R4 s) : Calls Try.prog 42 #[.agg #[.int .i64 27, .int .i64 d0, .int .i64 s0, .int .i64 m, .int .i64 i, .int .u64 wd], .int .i64 d, .int .i64 s, .int .i64 2] w
  (FromPost w (.string (strOfNums ([rexB true d s, 15, 191] ++ [dirB d s])))) := by
 have hu3 := Try.underlying32
 have HX := hide (heap_alloc_new w (boxed 27 d0 s0 m i wd))
 obtain ⟨c0, c1, c2, c3, c4, c5⟩ := box_at HX.out
 have hrr : 0 ≤ rexB true d s ∧ rexB true d s < 256 := by unfold rexB; simp; omega
 have HR := hide (from_rex (w.alloc (boxed 27 d0 s0 m i wd)) 72 d s (rexB true d s) (by omega) h1 h2 rfl)
 have HB := hide (from_bytes (w.alloc (boxed 27 d0 s0 m i wd)) [rexB true d s, 15, 191] 3 _ (strOfNums [rexB true d s, 15, 191]) rfl rfl (by simp) (by congr 1; unfold m256; simp; omega))
 have HP := hide (from_modes (w.alloc (boxed 27 d0 s0 m i wd)) d s (strOfNums [dirB d s]) h1 h2 rfl)
 have z3 : (strOfNums [dirB d s]).size ≤ 6 := by rw [strOfNums_size]; simp
 have HM : Hid (strOfNums [rexB true d s, 15, 191] ++ strOfNums ([dirB d s]) = strOfNums ([rexB true d s, 15, 191] ++ [dirB d s])) := hide (str_append _ _)
 have z1 : (strOfNums [rexB true d s, 15, 191]).size = 3 := by rw [strOfNums_size]; rfl
 have HF0 : Hid (Fr [] [] w (w.alloc (boxed 27 d0 s0 m i wd))) := hide ((Fr.refl [] w).alloc' _)
 clear hrr h1 h2
 generalize rexB true d s = rb at *
 generalize strOfNums [rb, 15, 191] = S1 at *
 generalize strOfNums ([dirB d s]) = S3 at *
 have q2 : S1.size + S3.size ≤ 9223372036854775807 := by omega
 have d2 : decide (S1.size + S3.size ≤ 9223372036854775807) = true := decide_eq_true q2
 clear z1 z3
 have fa := Fr.refl [] (w.alloc (boxed 27 d0 s0 m i wd))
 have FA := hide fa
 clear fa
 unfold boxed at HR HB HP FA HF0
 go_enter Try.func42, Try.ntmps42
 go_wp2_with fail
 refine (HR.out _ FA.out).mono ?_
 rintro e W1 ⟨rfl, f1⟩
 have FR := hide f1
 clear f1
 go_wp2_with fail
 refine (HB.out _ _ rfl FR.out).mono ?_
 rintro e W3 ⟨rfl, f3⟩
 have FBB := hide f3
 clear f3
 go_wp2_with fail
 refine (HP.out _ FBB.out).mono ?_
 rintro e W2 ⟨rfl, f2⟩
 have FP := hide f2
 clear f2
 go_wp2
 go_ret
 exact ⟨congrArg (fun z => Ending.returned (Value.string z)) HM.out, HF0.out.trans FP.out⟩
set_option maxRecDepth 100000 in
set_option maxHeartbeats 4000000 in
theorem rsized_27_1 (d s i m wd : Int) (d0 s0 : Int) (w : World) (h1 : R4 d) (h2 : R4 s) : Calls Try.prog 42 #[.agg #[.int .i64 27, .int .i64 d0, .int .i64 s0, .int .i64 m, .int .i64 i, .int .u64 wd], .int .i64 d, .int .i64 s, .int .i64 1] w
  (FromPost w (.string (strOfNums ([rexB true d s, 15, 190] ++ [dirB d s])))) := by
 have hu3 := Try.underlying32
 have HX := hide (heap_alloc_new w (boxed 27 d0 s0 m i wd))
 obtain ⟨c0, c1, c2, c3, c4, c5⟩ := box_at HX.out
 have hrr : 0 ≤ rexB true d s ∧ rexB true d s < 256 := by unfold rexB; simp; omega
 have HR := hide (from_rex (w.alloc (boxed 27 d0 s0 m i wd)) 72 d s (rexB true d s) (by omega) h1 h2 rfl)
 have HB := hide (from_bytes (w.alloc (boxed 27 d0 s0 m i wd)) [rexB true d s, 15, 190] 3 _ (strOfNums [rexB true d s, 15, 190]) rfl rfl (by simp) (by congr 1; unfold m256; simp; omega))
 have HP := hide (from_modes (w.alloc (boxed 27 d0 s0 m i wd)) d s (strOfNums [dirB d s]) h1 h2 rfl)
 have z3 : (strOfNums [dirB d s]).size ≤ 6 := by rw [strOfNums_size]; simp
 have HM : Hid (strOfNums [rexB true d s, 15, 190] ++ strOfNums ([dirB d s]) = strOfNums ([rexB true d s, 15, 190] ++ [dirB d s])) := hide (str_append _ _)
 have z1 : (strOfNums [rexB true d s, 15, 190]).size = 3 := by rw [strOfNums_size]; rfl
 have HF0 : Hid (Fr [] [] w (w.alloc (boxed 27 d0 s0 m i wd))) := hide ((Fr.refl [] w).alloc' _)
 clear hrr h1 h2
 generalize rexB true d s = rb at *
 generalize strOfNums [rb, 15, 190] = S1 at *
 generalize strOfNums ([dirB d s]) = S3 at *
 have q2 : S1.size + S3.size ≤ 9223372036854775807 := by omega
 have d2 : decide (S1.size + S3.size ≤ 9223372036854775807) = true := decide_eq_true q2
 clear z1 z3
 have fa := Fr.refl [] (w.alloc (boxed 27 d0 s0 m i wd))
 have FA := hide fa
 clear fa
 unfold boxed at HR HB HP FA HF0
 go_enter Try.func42, Try.ntmps42
 go_wp2_with fail
 refine (HR.out _ FA.out).mono ?_
 rintro e W1 ⟨rfl, f1⟩
 have FR := hide f1
 clear f1
 go_wp2_with fail
 refine (HB.out _ _ rfl FR.out).mono ?_
 rintro e W3 ⟨rfl, f3⟩
 have FBB := hide f3
 clear f3
 go_wp2_with fail
 refine (HP.out _ FBB.out).mono ?_
 rintro e W2 ⟨rfl, f2⟩
 have FP := hide f2
 clear f2
 go_wp2
 go_ret
 exact ⟨congrArg (fun z => Ending.returned (Value.string z)) HM.out, HF0.out.trans FP.out⟩
end Go.Proofs.Ytpahjllcomejbaa

/- The reference's lay, whole: what it lays is what the program lays; condition: the instruction has its own fields alone, and its number fits four bytes. -/
set_option linter.unusedVariables false
set_option linter.unusedSimpArgs false
namespace Go.Proofs.Ytpahjllcomejbaa
open Go.RowKit Go.MapKept
open Go.Proofs.YtpahjllcomejbaaW.PrintWords Go.Proofs.YtpahjllcomejbaaW.PrintLast Go.Proofs.YtpahjllcomejbaaW.PrintMore

/-- The bytes of an instruction; none: it may not be. -/
def okB (kd d s n i wd : Int) : List Int := if (layS kd d s n i wd).2 = true then [] else (layS kd d s n i wd).1
theorem outReg_ok {d : Int} (h : R4 d) : outReg d = false := by unfold R4 at h; simp [outReg]; omega
theorem outReg_no {d : Int} (h : ¬ R4 d) : outReg d = true := by unfold R4 at h; simp [outReg]; omega
theorem out2_ok {d s : Int} (h1 : R4 d) (h2 : R4 s) : out2 d s = false := by simp [out2, outReg_ok h1, outReg_ok h2]
theorem out2_no {d s : Int} (h : ¬ (R4 d ∧ R4 s)) : out2 d s = true := by
  by_cases h1 : R4 d
  · simp [out2, outReg_no (fun c => h ⟨h1, c⟩)]
  · simp [out2, outReg_no h1]
theorem R4_0 : R4 0 := ⟨by omega, by omega⟩
theorem from_cast {f : Nat} {args : Array Value} {w : World} {l l' : List Int} (h : Calls Try.prog f args w (FromPost w (.string (strOfNums l')))) (e : l' = l) : Calls Try.prog f args w (FromPost w (.string (strOfNums l))) := by subst e; exact h
/-- An instruction has its own fields alone. -/
def BareX (kd d s n i wd : Int) : Prop := bareS kd d s n i wd = (kd, d, s, n, i, wd)
theorem okB_bad (kd d s n i wd : Int) (hb : BareX kd d s n i wd) (hk : kd ≠ 22) (h : ¬ (R4 d ∧ R4 s)) : okB kd d s n i wd = [] := by
  unfold okB
  rw [if_pos]
  unfold BareX bareS at hb
  unfold layS
  have o2 := out2_no h
  by_cases ht : twoB kd ≠ 0
  · rw [if_pos ht]; exact o2
  rw [if_neg ht]
  by_cases ho : (oneB kd).1 ≠ 0
  · rw [if_pos ho]
    have hk1 : 11 ≤ kd ∧ kd ≤ 16 := Decidable.byContradiction fun c => ho (by rw [oneB_zero kd c])
    rw [if_neg (by omega), if_neg (by omega), if_neg (by omega), if_neg (by omega), if_neg (by omega), if_neg (by omega), if_pos (by omega)] at hb
    have hs : s = 0 := by have := congrArg (fun q : X6 => q.2.2.1) hb; exact this.symm
    subst hs
    exact outReg_no fun c => h ⟨c, R4_0⟩
  rw [if_neg ho]
  by_cases c18 : kd = 18
  · rw [if_pos c18]; simp [o2]
  rw [if_neg c18]
  by_cases c19 : kd = 19
  · rw [if_pos c19]; simp [o2]
  rw [if_neg c19]
  by_cases c26 : kd = 26
  · rw [if_pos c26]; simp [o2]
  rw [if_neg c26]
  by_cases c27 : kd = 27
  · rw [if_pos c27]; simp [o2]
  rw [if_neg c27]
  by_cases c20 : kd = 20
  · rw [if_pos c20]; simp [o2]
  rw [if_neg c20]
  by_cases c2 : kd = 2
  · rw [if_pos c2]
    subst c2
    have hs : s = 0 := by simp at hb; exact hb.1.symm
    subst hs
    exact outReg_no fun c => h ⟨c, R4_0⟩
  rw [if_neg c2]
  by_cases c10 : kd = 10
  · rw [if_pos c10]; exact o2
  rw [if_neg c10]
  by_cases c17 : kd = 17
  · subst c17
    simp at hb
    obtain ⟨rfl, rfl, _⟩ := hb
    exact absurd ⟨R4_0, R4_0⟩ h
  rw [if_neg c17]
  by_cases c21 : kd = 21
  · subst c21
    simp at hb
    obtain ⟨rfl, rfl, _⟩ := hb
    exact absurd ⟨R4_0, R4_0⟩ h
  rw [if_neg c21, if_neg hk]
  by_cases c23 : kd = 23
  · rw [if_pos c23]
    subst c23
    have hs : s = 0 := by simp at hb; exact hb.1.symm
    subst hs
    exact outReg_no fun c => h ⟨c, R4_0⟩
  rw [if_neg c23]
  by_cases c24 : kd = 24
  · rw [if_pos c24]
    subst c24
    have hs : s = 0 := by simp at hb; exact hb.1.symm
    subst hs
    exact outReg_no fun c => h ⟨c, R4_0⟩
  rw [if_neg c24]
  by_cases c25 : kd = 25
  · rw [if_pos c25]
    subst c25
    have hs : s = 0 := by simp at hb; exact hb.1.symm
    subst hs
    exact outReg_no fun c => h ⟨c, R4_0⟩
  rw [if_neg c25]
  by_cases c28 : kd = 28
  · subst c28
    simp at hb
    obtain ⟨rfl, rfl, _⟩ := hb
    exact absurd ⟨R4_0, R4_0⟩ h
  rw [if_neg c28]
  by_cases c29 : kd = 29
  · subst c29
    simp at hb
    obtain ⟨rfl, rfl, _⟩ := hb
    exact absurd ⟨R4_0, R4_0⟩ h
  rw [if_neg c29]
theorem okB_two (kd d s n i wd : Int) (h1 : R4 d) (h2 : R4 s) (ht : twoB kd ≠ 0) : okB kd d s n i wd = [rexB true s d, twoB kd] ++ [dirB s d] := by
  simp [okB, layS, ht, out2_ok h1 h2]
theorem okB_one (kd d s n i wd : Int) (h1 : R4 d) (h0 : twoB kd = 0) (ht : (oneB kd).1 ≠ 0) : okB kd d s n i wd = [rexB true 0 d, (oneB kd).1] ++ [dirB (oneB kd).2 d] := by
  simp [okB, layS, h0, ht, outReg_ok h1]
theorem okB_none (kd d s n i wd : Int) (h1 : R4 d) (h2 : R4 s) (hk : kd ≠ 1 ∧ kd ≠ 3 ∧ kd ≠ 4 ∧ kd ≠ 5 ∧ kd ≠ 6 ∧ kd ≠ 7 ∧ kd ≠ 8 ∧ kd ≠ 9 ∧ kd ≠ 2 ∧ kd ≠ 10 ∧ kd ≠ 11 ∧ kd ≠ 12 ∧ kd ≠ 13 ∧ kd ≠ 14 ∧ kd ≠ 15 ∧ kd ≠ 16 ∧ kd ≠ 17 ∧ kd ≠ 21 ∧ kd ≠ 23 ∧ kd ≠ 24 ∧ kd ≠ 25 ∧ kd ≠ 28 ∧ kd ≠ 29 ∧ kd ≠ 22)
    (hq : kd ≠ 18 ∧ kd ≠ 19 ∧ kd ≠ 20 ∧ kd ≠ 26 ∧ kd ≠ 27) : okB kd d s n i wd = [] := by
  obtain ⟨a1, a3, a4, a5, a6, a7, a8, a9, a2, a10, a11, a12, a13, a14, a15, a16, a17, a21, a23, a24, a25, a28, a29, a22⟩ := hk
  obtain ⟨b18, b19, b20, b26, b27⟩ := hq
  simp [okB, layS, twoB, oneB, *]
set_option maxHeartbeats 4000000 in
theorem rlay_calls (kd d s n i wd : Int) (w : World) (hb : BareX kd d s n i wd) (hf : fits32 i = true) (hw : 0 ≤ wd ∧ wd < 18446744073709551616) :
    Calls Try.prog 20 #[.agg #[.int .i64 kd, .int .i64 d, .int .i64 s, .int .i64 n, .int .i64 i, .int .u64 wd]] w (FromPost w (.string (strOfNums (okB kd d s n i wd)))) := by
  by_cases c22 : kd = 22
  · subst c22
    have hs : s = 0 := by unfold BareX bareS at hb; simp at hb; exact hb.1.symm
    subst hs
    cases hc : okCond d with
    | false => exact from_cast (rlay_22no d 0 n i wd w hc) (by simp [okB, layS, twoB, oneB, hc])
    | true =>
      refine from_cast (rlay_22 d 0 n i wd w R4_0 hc) ?_
      have : d % 16 = d := by simp [okCond] at hc; omega
      simp [okB, layS, twoB, oneB, hc, hf, this]
  by_cases hr : ¬ (R4 d ∧ R4 s)
  · rw [okB_bad kd d s n i wd hb c22 hr]
    by_cases h1 : R4 d
    · by_cases h3 : s < 0
      · exact rlay_bad3 kd d s n i wd w c22 h1 h3
      · exact rlay_bad4 kd d s n i wd w c22 h1 (by omega) (Int.not_le.1 fun c => hr ⟨h1, by omega, c⟩)
    · by_cases h3 : d < 0
      · exact rlay_bad1 kd d s n i wd w c22 h3
      · exact rlay_bad2 kd d s n i wd w c22 (by omega) (Int.not_le.1 fun c => h1 ⟨by omega, c⟩)
  obtain ⟨h1, h2⟩ := Classical.not_not.1 hr
  have two : ∀ {l : List Int}, twoB kd ≠ 0 → l = [rexB true s d, twoB kd] ++ [dirB s d] → Calls Try.prog 20 #[.agg #[.int .i64 kd, .int .i64 d, .int .i64 s, .int .i64 n, .int .i64 i, .int .u64 wd]] w (FromPost w (.string (strOfNums l))) →
      Calls Try.prog 20 #[.agg #[.int .i64 kd, .int .i64 d, .int .i64 s, .int .i64 n, .int .i64 i, .int .u64 wd]] w (FromPost w (.string (strOfNums (okB kd d s n i wd)))) := fun h e hc => from_cast hc (by rw [e, okB_two kd d s n i wd h1 h2 h])
  by_cases c1 : kd = 1
  · subst c1; exact two (by decide) rfl (rlay_1 d s n i wd w h1 h2)
  by_cases c3 : kd = 3
  · subst c3; exact two (by decide) rfl (rlay_3 d s n i wd w h1 h2)
  by_cases c4 : kd = 4
  · subst c4; exact two (by decide) rfl (rlay_4 d s n i wd w h1 h2)
  by_cases c5 : kd = 5
  · subst c5; exact two (by decide) rfl (rlay_5 d s n i wd w h1 h2)
  by_cases c6 : kd = 6
  · subst c6; exact two (by decide) rfl (rlay_6 d s n i wd w h1 h2)
  by_cases c7 : kd = 7
  · subst c7; exact two (by decide) rfl (rlay_7 d s n i wd w h1 h2)
  by_cases c8 : kd = 8
  · subst c8; exact two (by decide) rfl (rlay_8 d s n i wd w h1 h2)
  by_cases c9 : kd = 9
  · subst c9; exact two (by decide) rfl (rlay_9 d s n i wd w h1 h2)
  by_cases c11 : kd = 11
  · subst c11; exact from_cast (rlay_11 d s n i wd w h1 h2) (okB_one 11 d s n i wd h1 (by decide) (by decide)).symm
  by_cases c12 : kd = 12
  · subst c12; exact from_cast (rlay_12 d s n i wd w h1 h2) (okB_one 12 d s n i wd h1 (by decide) (by decide)).symm
  by_cases c13 : kd = 13
  · subst c13; exact from_cast (rlay_13 d s n i wd w h1 h2) (okB_one 13 d s n i wd h1 (by decide) (by decide)).symm
  by_cases c14 : kd = 14
  · subst c14; exact from_cast (rlay_14 d s n i wd w h1 h2) (okB_one 14 d s n i wd h1 (by decide) (by decide)).symm
  by_cases c15 : kd = 15
  · subst c15; exact from_cast (rlay_15 d s n i wd w h1 h2) (okB_one 15 d s n i wd h1 (by decide) (by decide)).symm
  by_cases c16 : kd = 16
  · subst c16; exact from_cast (rlay_16 d s n i wd w h1 h2) (okB_one 16 d s n i wd h1 (by decide) (by decide)).symm
  by_cases c2 : kd = 2
  · subst c2; exact from_cast (rlay_2 d s n i wd w h1 h2 hw) (by simp [okB, layS, twoB, oneB, outReg_ok h1])
  by_cases c10 : kd = 10
  · subst c10; exact from_cast (rlay_10 d s n i wd w h1 h2) (by simp [okB, layS, twoB, oneB, out2_ok h1 h2])
  by_cases c17 : kd = 17
  · subst c17; exact from_cast (rlay_17 d s n i wd w h1 h2) (by simp [okB, layS, twoB, oneB])
  by_cases c21 : kd = 21
  · subst c21; exact from_cast (rlay_21 d s n i wd w h1 h2) (by simp [okB, layS, twoB, oneB, hf])
  by_cases c23 : kd = 23
  · subst c23; exact from_cast (rlay_23 d s n i wd w h1 h2) (by simp [okB, layS, twoB, oneB, outReg_ok h1])
  by_cases c24 : kd = 24
  · subst c24; exact from_cast (rlay_24 d s n i wd w h1 h2) (by simp [okB, layS, twoB, oneB, outReg_ok h1])
  by_cases c25 : kd = 25
  · subst c25; exact from_cast (rlay_25 d s n i wd w h1 h2) (by simp [okB, layS, twoB, oneB, outReg_ok h1])
  by_cases c28 : kd = 28
  · subst c28; exact from_cast (rlay_28 d s n i wd w h1 h2) (by simp [okB, layS, twoB, oneB])
  by_cases c29 : kd = 29
  · subst c29; exact from_cast (rlay_29 d s n i wd w h1 h2) (by simp [okB, layS, twoB, oneB])
  refine rlay_dflt kd d s n i wd w _ h1 h2 ⟨c1, c3, c4, c5, c6, c7, c8, c9, c2, c10, c11, c12, c13, c14, c15, c16, c17, c21, c23, c24, c25, c28, c29, c22⟩ fun W => ?_
  have o2 := out2_ok h1 h2
  by_cases c18 : kd = 18
  · subst c18
    by_cases n8 : n = 8
    · subst n8; exact from_cast (rsized_18_8 d s i 8 wd d s W h1 h2) (by simp [okB, layS, twoB, oneB, o2, hf, readsB])
    by_cases n4 : n = 4
    · subst n4; exact from_cast (rsized_18_4 d s i 4 wd d s W h1 h2) (by simp [okB, layS, twoB, oneB, o2, hf, readsB])
    by_cases n2 : n = 2
    · subst n2; exact from_cast (rsized_18_2 d s i 2 wd d s W h1 h2) (by simp [okB, layS, twoB, oneB, o2, hf, readsB])
    by_cases n1 : n = 1
    · subst n1; exact from_cast (rsized_18_1 d s i 1 wd d s W h1 h2) (by simp [okB, layS, twoB, oneB, o2, hf, readsB])
    exact from_cast (rsized_no18 d s n i n wd d s W ⟨n8, n4, n2, n1⟩) (by simp [okB, layS, twoB, oneB, o2, readsB, n8, n4, n2, n1])
  by_cases c19 : kd = 19
  · subst c19
    by_cases n4 : n = 4
    · subst n4; exact from_cast (rsized_19_4 d s i 4 wd d s W h1 h2) (by simp [okB, layS, twoB, oneB, o2, hf, readsB])
    by_cases n2 : n = 2
    · subst n2; exact from_cast (rsized_19_2 d s i 2 wd d s W h1 h2) (by simp [okB, layS, twoB, oneB, o2, hf, readsB])
    by_cases n1 : n = 1
    · subst n1; exact from_cast (rsized_19_1 d s i 1 wd d s W h1 h2) (by simp [okB, layS, twoB, oneB, o2, hf, readsB])
    exact from_cast (rsized_no19 d s n i n wd d s W ⟨n4, n2, n1⟩) (by simp [okB, layS, twoB, oneB, o2, readsB, n4, n2, n1])
  by_cases c20 : kd = 20
  · subst c20
    by_cases n8 : n = 8
    · subst n8; exact from_cast (rsized_20_8 d s i 8 wd d s W h1 h2) (by simp [okB, layS, twoB, oneB, o2, hf, okSize, storeB])
    by_cases n4 : n = 4
    · subst n4; exact from_cast (rsized_20_4 d s i 4 wd d s W h1 h2) (by simp [okB, layS, twoB, oneB, o2, hf, okSize, storeB])
    by_cases n2 : n = 2
    · subst n2; exact from_cast (rsized_20_2 d s i 2 wd d s W h1 h2) (by simp [okB, layS, twoB, oneB, o2, hf, okSize, storeB])
    by_cases n1 : n = 1
    · subst n1; exact from_cast (rsized_20_1 d s i 1 wd d s W h1 h2) (by simp [okB, layS, twoB, oneB, o2, hf, okSize, storeB])
    exact from_cast (rsized_no20 d s n i n wd d s W ⟨n8, n4, n2, n1⟩) (by simp [okB, layS, twoB, oneB, o2, okSize, n8, n4, n2, n1])
  by_cases c26 : kd = 26
  · subst c26
    by_cases n2 : n = 2
    · subst n2; exact from_cast (rsized_26_2 d s i 2 wd d s W h1 h2) (by simp [okB, layS, twoB, oneB, o2, hf, readsB])
    by_cases n4 : n = 4
    · subst n4; exact from_cast (rsized_26_4 d s i 4 wd d s W h1 h2) (by simp [okB, layS, twoB, oneB, o2, hf, readsB])
    exact from_cast (rsized_no26 d s n i n wd d s W ⟨n2, n4⟩) (by simp [okB, layS, twoB, oneB, o2, n4, n2])
  by_cases c27 : kd = 27
  · subst c27
    by_cases n4 : n = 4
    · subst n4; exact from_cast (rsized_27_4 d s i 4 wd d s W h1 h2) (by simp [okB, layS, twoB, oneB, o2, hf, readsB])
    by_cases n2 : n = 2
    · subst n2; exact from_cast (rsized_27_2 d s i 2 wd d s W h1 h2) (by simp [okB, layS, twoB, oneB, o2, hf, readsB])
    by_cases n1 : n = 1
    · subst n1; exact from_cast (rsized_27_1 d s i 1 wd d s W h1 h2) (by simp [okB, layS, twoB, oneB, o2, hf, readsB])
    exact from_cast (rsized_no27 d s n i n wd d s W ⟨n4, n2, n1⟩) (by simp [okB, layS, twoB, oneB, o2, readsB, n4, n2, n1])
  exact from_cast (rsized_none kd d s n i n wd d s W ⟨c18, c19, c20, c26, c27⟩) (okB_none kd d s n i wd h1 h2 ⟨c1, c3, c4, c5, c6, c7, c8, c9, c2, c10, c11, c12, c13, c14, c15, c16, c17, c21, c23, c24, c25, c28, c29, c22⟩ ⟨c18, c19, c20, c26, c27⟩).symm
/-- .. in the form that printed texts take. -/
def rlay.f (kd d s n i wd : Int) : Option ByteArray := if bareS kd d s n i wd = (kd, d, s, n, i, wd) ∧ fits32 i = true ∧ 0 ≤ wd ∧ wd < 18446744073709551616 then some (strOfNums (okB kd d s n i wd)) else none
theorem rlay.calls (kd d s n i wd : Int) (r : ByteArray) (w : World) (h : rlay.f kd d s n i wd = some r) :
    Calls Try.prog 20 #[.agg #[.int .i64 kd, .int .i64 d, .int .i64 s, .int .i64 n, .int .i64 i, .int .u64 wd]] w fun e w' => e = .returned (.string r) ∧ Below w.heap.size w w' := by
  unfold rlay.f at h
  split at h
  · rename_i hs
    obtain ⟨h1, h2, h3⟩ := hs
    cases h
    exact (rlay_calls kd d s n i wd w h1 h2 h3).mono fun e W ⟨a, b⟩ => ⟨a, b.below (Nat.le_refl _) (by simp)⟩
  · cases h
end Go.Proofs.Ytpahjllcomejbaa
