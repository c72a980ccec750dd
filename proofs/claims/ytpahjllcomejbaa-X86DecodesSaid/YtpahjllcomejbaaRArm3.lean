/- The reference's sized, arm by arm; condition: both registers are some. -/
import Derived.Test.YtpahjllcomejbaaRLay0
set_option linter.unusedVariables false
set_option linter.unusedSimpArgs false
namespace Go.Proofs.Ytpahjllcomejbaa
open Go.RowKit Go.MapKept
open Go.Proofs.YtpahjllcomejbaaW.PrintWords Go.Proofs.YtpahjllcomejbaaW.PrintLast Go.Proofs.YtpahjllcomejbaaW.PrintMore

set_option maxRecDepth 100000 in
set_option maxHeartbeats 4000000 in
theorem rsized_20_4 (d s i m wd : Int) (d0 s0 : Int) (w : World) (h1 : R4 d) (h2 : R4 s) : Calls Try.prog 42 #[.agg #[.int .i64 20, .int .i64 d0, .int .i64 s0, .int .i64 m, .int .i64 i, .int .u64 wd], .int .i64 d, .int .i64 s, .int .i64 4] w
  (FromPost w (.string (strOfNums ([rexB false s d, 137] ++ memB s d i)))) := by
 have hu3 := Try.underlying32
 have HX := hide (heap_alloc_new w (boxed 20 d0 s0 m i wd))
 obtain ⟨c0, c1, c2, c3, c4, c5⟩ := box_at HX.out
 have hrr : 0 ≤ rexB false s d ∧ rexB false s d < 256 := by unfold rexB; simp; omega
 have HR := hide (from_rex (w.alloc (boxed 20 d0 s0 m i wd)) 64 s d (rexB false s d) (by omega) h2 h1 rfl)
 have HB := hide (from_bytes (w.alloc (boxed 20 d0 s0 m i wd)) [rexB false s d, 137] 2 _ (strOfNums [rexB false s d, 137]) rfl rfl (by simp) (by congr 1; unfold m256; simp; omega))
 have HP := hide (from_place (w.alloc (boxed 20 d0 s0 m i wd)) s d i (strOfNums (memB s d i)) h2 h1 rfl)
 have z3 : (strOfNums (memB s d i)).size ≤ 6 := by rw [strOfNums_size]; exact memB_len s d i
 have HM : Hid (strOfNums [rexB false s d, 137] ++ strOfNums (memB s d i) = strOfNums ([rexB false s d, 137] ++ memB s d i)) := hide (str_append _ _)
 have z1 : (strOfNums [rexB false s d, 137]).size = 2 := by rw [strOfNums_size]; rfl
 have HF0 : Hid (Fr [] [] w (w.alloc (boxed 20 d0 s0 m i wd))) := hide ((Fr.refl [] w).alloc' _)
 clear hrr h1 h2
 generalize rexB false s d = rb at *
 generalize strOfNums [rb, 137] = S1 at *
 generalize strOfNums (memB s d i) = S3 at *
 have q2 : S1.size + S3.size ≤ 9223372036854775807 := by omega
 have d2 : decide (S1.size + S3.size ≤ 9223372036854775807) = true := decide_eq_true q2
 clear z1 z3
 have HK : Hid (∀ W', Fr [] [] (w.alloc (boxed 20 d0 s0 m i wd)) W' → W'.cell? ⟨w.heap.size, 4, none⟩ = some (.int .i64 i)) := hide fun W' h => (box_at (h.keep HX.out (by simp))).2.2.2.2.1
 have HKA : Hid (∀ W', Fr [] [] (w.alloc (boxed 20 d0 s0 m i wd)) W' → ∀ o, (W'.alloc o).cell? ⟨w.heap.size, 4, none⟩ = some (.int .i64 i)) := hide fun W' h o => HK.out _ (h.alloc' o)
 have fa := Fr.refl [] (w.alloc (boxed 20 d0 s0 m i wd))
 have FA := hide fa
 clear fa
 unfold boxed at HR HB HP FA HF0 HK HKA
 go_enter Try.func42, Try.ntmps42
 go_wp2_with fail
 go_region_with (first
  | (go_at_call 40; refine (HR.out _ ?_).mono ?_; (first | exact FA.out | exact FA.out.drewN' _ | exact FR.out | exact FP.out | exact FBB.out); rintro e W1 ⟨rfl, f1⟩; have e4 := HK.out W1 f1; have e6 := HKA.out W1 f1; have FR := hide f1; clear f1)
  | (go_at_call 46; refine (HP.out _ ?_).mono ?_; (first | exact FA.out | exact FR.out | exact FBB.out); rintro e W2 ⟨rfl, f2⟩; have FP := hide f2; clear f2)
  | (go_at_call 38; refine (HB.out _ _ rfl ?_).mono ?_; (first | exact FA.out | exact FR.out | exact FP.out); rintro e W3 ⟨rfl, f3⟩; have e5 := HK.out W3 f3; have FBB := hide f3; clear f3))
 all_goals
  go_wp2
  go_ret
  refine ⟨congrArg (fun z => Ending.returned (Value.string z)) HM.out, ?_⟩
  first
   | exact HF0.out.trans FP.out
   | exact HF0.out.trans FBB.out
   | exact HF0.out.trans (FP.out.drewN' _)
   | exact HF0.out.trans (FBB.out.drewN' _)
set_option maxRecDepth 100000 in
set_option maxHeartbeats 4000000 in
theorem rsized_20_2 (d s i m wd : Int) (d0 s0 : Int) (w : World) (h1 : R4 d) (h2 : R4 s) : Calls Try.prog 42 #[.agg #[.int .i64 20, .int .i64 d0, .int .i64 s0, .int .i64 m, .int .i64 i, .int .u64 wd], .int .i64 d, .int .i64 s, .int .i64 2] w
  (FromPost w (.string (strOfNums ([102, rexB false s d, 137] ++ memB s d i)))) := by
 have hu3 := Try.underlying32
 have HX := hide (heap_alloc_new w (boxed 20 d0 s0 m i wd))
 obtain ⟨c0, c1, c2, c3, c4, c5⟩ := box_at HX.out
 have hrr : 0 ≤ rexB false s d ∧ rexB false s d < 256 := by unfold rexB; simp; omega
 have HR := hide (from_rex (w.alloc (boxed 20 d0 s0 m i wd)) 64 s d (rexB false s d) (by omega) h2 h1 rfl)
 have HB := hide (from_bytes (w.alloc (boxed 20 d0 s0 m i wd)) [102, rexB false s d, 137] 3 _ (strOfNums [102, rexB false s d, 137]) rfl rfl (by simp) (by congr 1; unfold m256; simp; omega))
 have HP := hide (from_place (w.alloc (boxed 20 d0 s0 m i wd)) s d i (strOfNums (memB s d i)) h2 h1 rfl)
 have z3 : (strOfNums (memB s d i)).size ≤ 6 := by rw [strOfNums_size]; exact memB_len s d i
 have HM : Hid (strOfNums [102, rexB false s d, 137] ++ strOfNums (memB s d i) = strOfNums ([102, rexB false s d, 137] ++ memB s d i)) := hide (str_append _ _)
 have z1 : (strOfNums [102, rexB false s d, 137]).size = 3 := by rw [strOfNums_size]; rfl
 have HF0 : Hid (Fr [] [] w (w.alloc (boxed 20 d0 s0 m i wd))) := hide ((Fr.refl [] w).alloc' _)
 clear hrr h1 h2
 generalize rexB false s d = rb at *
 generalize strOfNums [102, rb, 137] = S1 at *
 generalize strOfNums (memB s d i) = S3 at *
 have q2 : S1.size + S3.size ≤ 9223372036854775807 := by omega
 have d2 : decide (S1.size + S3.size ≤ 9223372036854775807) = true := decide_eq_true q2
 clear z1 z3
 have HK : Hid (∀ W', Fr [] [] (w.alloc (boxed 20 d0 s0 m i wd)) W' → W'.cell? ⟨w.heap.size, 4, none⟩ = some (.int .i64 i)) := hide fun W' h => (box_at (h.keep HX.out (by simp))).2.2.2.2.1
 have HKA : Hid (∀ W', Fr [] [] (w.alloc (boxed 20 d0 s0 m i wd)) W' → ∀ o, (W'.alloc o).cell? ⟨w.heap.size, 4, none⟩ = some (.int .i64 i)) := hide fun W' h o => HK.out _ (h.alloc' o)
 have fa := Fr.refl [] (w.alloc (boxed 20 d0 s0 m i wd))
 have FA := hide fa
 clear fa
 unfold boxed at HR HB HP FA HF0 HK HKA
 go_enter Try.func42, Try.ntmps42
 go_wp2_with fail
 go_region_with (first
  | (go_at_call 40; refine (HR.out _ ?_).mono ?_; (first | exact FA.out | exact FA.out.drewN' _ | exact FR.out | exact FP.out | exact FBB.out); rintro e W1 ⟨rfl, f1⟩; have e4 := HK.out W1 f1; have e6 := HKA.out W1 f1; have FR := hide f1; clear f1)
  | (go_at_call 46; refine (HP.out _ ?_).mono ?_; (first | exact FA.out | exact FR.out | exact FBB.out); rintro e W2 ⟨rfl, f2⟩; have FP := hide f2; clear f2)
  | (go_at_call 38; refine (HB.out _ _ rfl ?_).mono ?_; (first | exact FA.out | exact FR.out | exact FP.out); rintro e W3 ⟨rfl, f3⟩; have e5 := HK.out W3 f3; have FBB := hide f3; clear f3))
 all_goals
  go_wp2
  go_ret
  refine ⟨congrArg (fun z => Ending.returned (Value.string z)) HM.out, ?_⟩
  first
   | exact HF0.out.trans FP.out
   | exact HF0.out.trans FBB.out
   | exact HF0.out.trans (FP.out.drewN' _)
   | exact HF0.out.trans (FBB.out.drewN' _)
set_option maxRecDepth 100000 in
set_option maxHeartbeats 4000000 in
theorem rsized_20_1 (d s i m wd : Int) (d0 s0 : Int) (w : World) (h1 : R4 d) (h2 : R4 s) : Calls Try.prog 42 #[.agg #[.int .i64 20, .int .i64 d0, .int .i64 s0, .int .i64 m, .int .i64 i, .int .u64 wd], .int .i64 d, .int .i64 s, .int .i64 1] w
  (FromPost w (.string (strOfNums ([rexB false s d, 136] ++ memB s d i)))) := by
 have hu3 := Try.underlying32
 have HX := hide (heap_alloc_new w (boxed 20 d0 s0 m i wd))
 obtain ⟨c0, c1, c2, c3, c4, c5⟩ := box_at HX.out
 have hrr : 0 ≤ rexB false s d ∧ rexB false s d < 256 := by unfold rexB; simp; omega
 have HR := hide (from_rex (w.alloc (boxed 20 d0 s0 m i wd)) 64 s d (rexB false s d) (by omega) h2 h1 rfl)
 have HB := hide (from_bytes (w.alloc (boxed 20 d0 s0 m i wd)) [rexB false s d, 136] 2 _ (strOfNums [rexB false s d, 136]) rfl rfl (by simp) (by congr 1; unfold m256; simp; omega))
 have HP := hide (from_place (w.alloc (boxed 20 d0 s0 m i wd)) s d i (strOfNums (memB s d i)) h2 h1 rfl)
 have z3 : (strOfNums (memB s d i)).size ≤ 6 := by rw [strOfNums_size]; exact memB_len s d i
 have HM : Hid (strOfNums [rexB false s d, 136] ++ strOfNums (memB s d i) = strOfNums ([rexB false s d, 136] ++ memB s d i)) := hide (str_append _ _)
 have z1 : (strOfNums [rexB false s d, 136]).size = 2 := by rw [strOfNums_size]; rfl
 have HF0 : Hid (Fr [] [] w (w.alloc (boxed 20 d0 s0 m i wd))) := hide ((Fr.refl [] w).alloc' _)
 clear hrr h1 h2
 generalize rexB false s d = rb at *
 generalize strOfNums [rb, 136] = S1 at *
 generalize strOfNums (memB s d i) = S3 at *
 have q2 : S1.size + S3.size ≤ 9223372036854775807 := by omega
 have d2 : decide (S1.size + S3.size ≤ 9223372036854775807) = true := decide_eq_true q2
 clear z1 z3
 have HK : Hid (∀ W', Fr [] [] (w.alloc (boxed 20 d0 s0 m i wd)) W' → W'.cell? ⟨w.heap.size, 4, none⟩ = some (.int .i64 i)) := hide fun W' h => (box_at (h.keep HX.out (by simp))).2.2.2.2.1
 have HKA : Hid (∀ W', Fr [] [] (w.alloc (boxed 20 d0 s0 m i wd)) W' → ∀ o, (W'.alloc o).cell? ⟨w.heap.size, 4, none⟩ = some (.int .i64 i)) := hide fun W' h o => HK.out _ (h.alloc' o)
 have fa := Fr.refl [] (w.alloc (boxed 20 d0 s0 m i wd))
 have FA := hide fa
 clear fa
 unfold boxed at HR HB HP FA HF0 HK HKA
 go_enter Try.func42, Try.ntmps42
 go_wp2_with fail
 go_region_with (first
  | (go_at_call 40; refine (HR.out _ ?_).mono ?_; (first | exact FA.out | exact FA.out.drewN' _ | exact FR.out | exact FP.out | exact FBB.out); rintro e W1 ⟨rfl, f1⟩; have e4 := HK.out W1 f1; have e6 := HKA.out W1 f1; have FR := hide f1; clear f1)
  | (go_at_call 46; refine (HP.out _ ?_).mono ?_; (first | exact FA.out | exact FR.out | exact FBB.out); rintro e W2 ⟨rfl, f2⟩; have FP := hide f2; clear f2)
  | (go_at_call 38; refine (HB.out _ _ rfl ?_).mono ?_; (first | exact FA.out | exact FR.out | exact FP.out); rintro e W3 ⟨rfl, f3⟩; have e5 := HK.out W3 f3; have FBB := hide f3; clear f3))
 all_goals
  go_wp2
  go_ret
  refine ⟨congrArg (fun z => Ending.returned (Value.string z)) HM.out, ?_⟩
  first
   | exact HF0.out.trans FP.out
   | exact HF0.out.trans FBB.out
   | exact HF0.out.trans (FP.out.drewN' _)
   | exact HF0.out.trans (FBB.out.drewN' _)
end Go.Proofs.Ytpahjllcomejbaa
