/- Several texts of this claim in one: each is told where it begins. -/
import Derived.Test.YtpahjllcomejbaaRLay0
/- The reference's lay: no register, none, and what has a size; no condition beyond each lemma's own. -/
set_option linter.unusedVariables false
set_option linter.unusedSimpArgs false
namespace Go.Proofs.Ytpahjllcomejbaa
open Go.RowKit Go.MapKept
open Go.Proofs.YtpahjllcomejbaaW.PrintWords Go.Proofs.YtpahjllcomejbaaW.PrintLast Go.Proofs.YtpahjllcomejbaaW.PrintMore

set_option maxRecDepth 100000 in
set_option maxHeartbeats 4000000 in
theorem rlay_bad1 (kd d s n i wd : Int) (w : World) (hk : kd ≠ 22) (h : d < 0) : Calls Try.prog 20 #[.agg #[.int .i64 kd, .int .i64 d, .int .i64 s, .int .i64 n, .int .i64 i, .int .u64 wd]] w
  (FromPost w (.string (strOfNums []))) := by
 have hu3 := Try.underlying32
 have HX := hide (heap_alloc_new w (boxed kd d s n i wd))
 obtain ⟨c0, c1, c2, c3, c4, c5⟩ := box_at HX.out
 have HF0 : Hid (Fr [] [] w (w.alloc (boxed kd d s n i wd))) := hide ((Fr.refl [] w).alloc' _)
 have b22 : (kd == 22) = false := by rw [beq_eq_false_iff_ne]; exact hk
 have t1 : decide (d < 0) = true := by simpa using h
 clear h
 clear hk
 unfold boxed at *
 go_enter Try.func20, Try.ntmps20
 go_wp2_with fail
 go_quiet (fail)
 go_wp2
 go_ret
 exact ⟨rfl, HF0.out.drewN' _⟩
set_option maxRecDepth 100000 in
set_option maxHeartbeats 4000000 in
theorem rlay_bad2 (kd d s n i wd : Int) (w : World) (hk : kd ≠ 22) (h0 : 0 ≤ d) (h : 15 < d) : Calls Try.prog 20 #[.agg #[.int .i64 kd, .int .i64 d, .int .i64 s, .int .i64 n, .int .i64 i, .int .u64 wd]] w
  (FromPost w (.string (strOfNums []))) := by
 have hu3 := Try.underlying32
 have HX := hide (heap_alloc_new w (boxed kd d s n i wd))
 obtain ⟨c0, c1, c2, c3, c4, c5⟩ := box_at HX.out
 have HF0 : Hid (Fr [] [] w (w.alloc (boxed kd d s n i wd))) := hide ((Fr.refl [] w).alloc' _)
 have b22 : (kd == 22) = false := by rw [beq_eq_false_iff_ne]; exact hk
 have t1 : decide (d < 0) = false := by simp; omega
 have t2 : decide (15 < d) = true := by simpa using h
 clear h h0
 clear hk
 unfold boxed at *
 go_enter Try.func20, Try.ntmps20
 go_wp2_with fail
 go_quiet (fail)
 go_wp2
 go_ret
 exact ⟨rfl, HF0.out.drewN' _⟩
set_option maxRecDepth 100000 in
set_option maxHeartbeats 4000000 in
theorem rlay_bad3 (kd d s n i wd : Int) (w : World) (hk : kd ≠ 22) (h1 : R4 d) (h : s < 0) : Calls Try.prog 20 #[.agg #[.int .i64 kd, .int .i64 d, .int .i64 s, .int .i64 n, .int .i64 i, .int .u64 wd]] w
  (FromPost w (.string (strOfNums []))) := by
 have hu3 := Try.underlying32
 have HX := hide (heap_alloc_new w (boxed kd d s n i wd))
 obtain ⟨c0, c1, c2, c3, c4, c5⟩ := box_at HX.out
 have HF0 : Hid (Fr [] [] w (w.alloc (boxed kd d s n i wd))) := hide ((Fr.refl [] w).alloc' _)
 have b22 : (kd == 22) = false := by rw [beq_eq_false_iff_ne]; exact hk
 obtain ⟨h0, h2⟩ := h1
 have t1 : decide (d < 0) = false := by simp; omega
 have t2 : decide (15 < d) = false := by simp; omega
 have t3 : decide (s < 0) = true := by simpa using h
 clear h h0 h2
 clear hk
 unfold boxed at *
 go_enter Try.func20, Try.ntmps20
 go_wp2_with fail
 go_quiet (fail)
 go_wp2
 go_ret
 exact ⟨rfl, HF0.out.drewN' _⟩
set_option maxRecDepth 100000 in
set_option maxHeartbeats 4000000 in
theorem rlay_bad4 (kd d s n i wd : Int) (w : World) (hk : kd ≠ 22) (h1 : R4 d) (h3 : 0 ≤ s) (h : 15 < s) : Calls Try.prog 20 #[.agg #[.int .i64 kd, .int .i64 d, .int .i64 s, .int .i64 n, .int .i64 i, .int .u64 wd]] w
  (FromPost w (.string (strOfNums []))) := by
 have hu3 := Try.underlying32
 have HX := hide (heap_alloc_new w (boxed kd d s n i wd))
 obtain ⟨c0, c1, c2, c3, c4, c5⟩ := box_at HX.out
 have HF0 : Hid (Fr [] [] w (w.alloc (boxed kd d s n i wd))) := hide ((Fr.refl [] w).alloc' _)
 have b22 : (kd == 22) = false := by rw [beq_eq_false_iff_ne]; exact hk
 obtain ⟨h0, h2⟩ := h1
 have t1 : decide (d < 0) = false := by simp; omega
 have t2 : decide (15 < d) = false := by simp; omega
 have t3 : decide (s < 0) = false := by simp; omega
 have t4 : decide (15 < s) = true := by simpa using h
 clear h h0 h2 h3
 clear hk
 unfold boxed at *
 go_enter Try.func20, Try.ntmps20
 go_wp2_with fail
 go_quiet (fail)
 go_wp2
 go_ret
 exact ⟨rfl, HF0.out.drewN' _⟩
set_option maxRecDepth 100000 in
set_option maxHeartbeats 4000000 in
theorem rlay_22no (d s n i wd : Int) (w : World) (hc : okCond d = false) : Calls Try.prog 20 #[.agg #[.int .i64 22, .int .i64 d, .int .i64 s, .int .i64 n, .int .i64 i, .int .u64 wd]] w
  (FromPost w (.string (strOfNums []))) := by
 have hu3 := Try.underlying32
 have HX := hide (heap_alloc_new w (boxed 22 d s n i wd))
 obtain ⟨c0, c1, c2, c3, c4, c5⟩ := box_at HX.out
 have HF0 : Hid (Fr [] [] w (w.alloc (boxed 22 d s n i wd))) := hide ((Fr.refl [] w).alloc' _)
 have HCD := hide (rcond_any d (w.alloc (boxed 22 d s n i wd)))
 rw [hc] at HCD
 clear hc
 have fa := Fr.refl [] (w.alloc (boxed 22 d s n i wd))
 have FA := hide fa
 clear fa
 unfold boxed at *
 go_enter Try.func20, Try.ntmps20
 go_wp2_with fail
 go_quiet (fail)
 go_wp2_with fail
 refine (HCD.out _ (FA.out.drewN' _)).mono ?_
 rintro e W0 ⟨rfl, f0⟩
 have F0 := hide f0
 clear f0
 go_wp2
 go_ret
 exact ⟨rfl, HF0.out.trans F0.out⟩
set_option maxRecDepth 100000 in
set_option maxHeartbeats 4000000 in
theorem rlay_dflt (kd d s n i wd : Int) (w : World) (S : ByteArray) (h1 : R4 d) (h2 : R4 s) (hk : kd ≠ 1 ∧ kd ≠ 3 ∧ kd ≠ 4 ∧ kd ≠ 5 ∧ kd ≠ 6 ∧ kd ≠ 7 ∧ kd ≠ 8 ∧ kd ≠ 9 ∧ kd ≠ 2 ∧ kd ≠ 10 ∧ kd ≠ 11 ∧ kd ≠ 12 ∧ kd ≠ 13 ∧ kd ≠ 14 ∧ kd ≠ 15 ∧ kd ≠ 16 ∧ kd ≠ 17 ∧ kd ≠ 21 ∧ kd ≠ 23 ∧ kd ≠ 24 ∧ kd ≠ 25 ∧ kd ≠ 28 ∧ kd ≠ 29 ∧ kd ≠ 22) (HS : ∀ W : World, Calls Try.prog 42 #[.agg #[.int .i64 kd, .int .i64 d, .int .i64 s, .int .i64 n, .int .i64 i, .int .u64 wd], .int .i64 d, .int .i64 s, .int .i64 n] W (FromPost W (.string S))) : Calls Try.prog 20 #[.agg #[.int .i64 kd, .int .i64 d, .int .i64 s, .int .i64 n, .int .i64 i, .int .u64 wd]] w
  (FromPost w (.string S)) := by
 have hu3 := Try.underlying32
 have HX := hide (heap_alloc_new w (boxed kd d s n i wd))
 obtain ⟨c0, c1, c2, c3, c4, c5⟩ := box_at HX.out
 have HF0 : Hid (Fr [] [] w (w.alloc (boxed kd d s n i wd))) := hide ((Fr.refl [] w).alloc' _)
 have b1 : (kd == 1) = false := by rw [beq_eq_false_iff_ne]; omega
 have b3 : (kd == 3) = false := by rw [beq_eq_false_iff_ne]; omega
 have b4 : (kd == 4) = false := by rw [beq_eq_false_iff_ne]; omega
 have b5 : (kd == 5) = false := by rw [beq_eq_false_iff_ne]; omega
 have b6 : (kd == 6) = false := by rw [beq_eq_false_iff_ne]; omega
 have b7 : (kd == 7) = false := by rw [beq_eq_false_iff_ne]; omega
 have b8 : (kd == 8) = false := by rw [beq_eq_false_iff_ne]; omega
 have b9 : (kd == 9) = false := by rw [beq_eq_false_iff_ne]; omega
 have b2 : (kd == 2) = false := by rw [beq_eq_false_iff_ne]; omega
 have b10 : (kd == 10) = false := by rw [beq_eq_false_iff_ne]; omega
 have b11 : (kd == 11) = false := by rw [beq_eq_false_iff_ne]; omega
 have b12 : (kd == 12) = false := by rw [beq_eq_false_iff_ne]; omega
 have b13 : (kd == 13) = false := by rw [beq_eq_false_iff_ne]; omega
 have b14 : (kd == 14) = false := by rw [beq_eq_false_iff_ne]; omega
 have b15 : (kd == 15) = false := by rw [beq_eq_false_iff_ne]; omega
 have b16 : (kd == 16) = false := by rw [beq_eq_false_iff_ne]; omega
 have b17 : (kd == 17) = false := by rw [beq_eq_false_iff_ne]; omega
 have b21 : (kd == 21) = false := by rw [beq_eq_false_iff_ne]; omega
 have b23 : (kd == 23) = false := by rw [beq_eq_false_iff_ne]; omega
 have b24 : (kd == 24) = false := by rw [beq_eq_false_iff_ne]; omega
 have b25 : (kd == 25) = false := by rw [beq_eq_false_iff_ne]; omega
 have b28 : (kd == 28) = false := by rw [beq_eq_false_iff_ne]; omega
 have b29 : (kd == 29) = false := by rw [beq_eq_false_iff_ne]; omega
 have b22 : (kd == 22) = false := by rw [beq_eq_false_iff_ne]; omega
 have HSS := hide HS
 clear hk HS
 obtain ⟨g0, g1⟩ := h1
 obtain ⟨m0, m1⟩ := h2
 have td0 : decide (d < 0) = false := by simp; omega
 have td1 : decide (15 < d) = false := by simp; omega
 have ts0 : decide (s < 0) = false := by simp; omega
 have ts1 : decide (15 < s) = false := by simp; omega
 clear g0 g1 m0 m1
 unfold boxed at *
 go_enter Try.func20, Try.ntmps20
 go_wp2_with fail
 go_quiet (fail)
 go_wp2_with fail
 refine (HSS.out _).mono ?_
 rintro e W0 ⟨rfl, f0⟩
 have F0 := hide f0
 clear f0
 go_wp2
 go_ret
 exact ⟨rfl, (HF0.out.drewN' _).trans F0.out⟩
end Go.Proofs.Ytpahjllcomejbaa

/- The reference's sized where there is no such instruction; no condition beyond each lemma's own. -/
set_option linter.unusedVariables false
set_option linter.unusedSimpArgs false
namespace Go.Proofs.Ytpahjllcomejbaa
open Go.RowKit Go.MapKept
open Go.Proofs.YtpahjllcomejbaaW.PrintWords Go.Proofs.YtpahjllcomejbaaW.PrintLast Go.Proofs.YtpahjllcomejbaaW.PrintMore

set_option maxRecDepth 100000 in
set_option maxHeartbeats 4000000 in
theorem rsized_none (kd d s n i m wd d0 s0 : Int) (w : World) (hk : kd ≠ 18 ∧ kd ≠ 19 ∧ kd ≠ 20 ∧ kd ≠ 26 ∧ kd ≠ 27) : Calls Try.prog 42 #[.agg #[.int .i64 kd, .int .i64 d0, .int .i64 s0, .int .i64 m, .int .i64 i, .int .u64 wd], .int .i64 d, .int .i64 s, .int .i64 n] w
  (FromPost w (.string (strOfNums []))) := by
 have hu3 := Try.underlying32
 have HX := hide (heap_alloc_new w (boxed kd d0 s0 m i wd))
 obtain ⟨c0, c1, c2, c3, c4, c5⟩ := box_at HX.out
 have HF0 : Hid (Fr [] [] w (w.alloc (boxed kd d0 s0 m i wd))) := hide ((Fr.refl [] w).alloc' _)
 have b18 : (kd == 18) = false := by rw [beq_eq_false_iff_ne]; omega
 have b19 : (kd == 19) = false := by rw [beq_eq_false_iff_ne]; omega
 have b20 : (kd == 20) = false := by rw [beq_eq_false_iff_ne]; omega
 have b26 : (kd == 26) = false := by rw [beq_eq_false_iff_ne]; omega
 have b27 : (kd == 27) = false := by rw [beq_eq_false_iff_ne]; omega
 clear hk
 unfold boxed at *
 go_enter Try.func42, Try.ntmps42
 go_wp2
 go_ret
 exact ⟨rfl, HF0.out⟩
set_option maxRecDepth 100000 in
set_option maxHeartbeats 4000000 in
theorem rsized_no18 (d s n i m wd d0 s0 : Int) (w : World) (hk : n ≠ 8 ∧ n ≠ 4 ∧ n ≠ 2 ∧ n ≠ 1) : Calls Try.prog 42 #[.agg #[.int .i64 18, .int .i64 d0, .int .i64 s0, .int .i64 m, .int .i64 i, .int .u64 wd], .int .i64 d, .int .i64 s, .int .i64 n] w
  (FromPost w (.string (strOfNums []))) := by
 have hu3 := Try.underlying32
 have HX := hide (heap_alloc_new w (boxed 18 d0 s0 m i wd))
 obtain ⟨c0, c1, c2, c3, c4, c5⟩ := box_at HX.out
 have HF0 : Hid (Fr [] [] w (w.alloc (boxed 18 d0 s0 m i wd))) := hide ((Fr.refl [] w).alloc' _)
 have b8 : (n == 8) = false := by rw [beq_eq_false_iff_ne]; omega
 have b4 : (n == 4) = false := by rw [beq_eq_false_iff_ne]; omega
 have b2 : (n == 2) = false := by rw [beq_eq_false_iff_ne]; omega
 have b1 : (n == 1) = false := by rw [beq_eq_false_iff_ne]; omega
 clear hk
 unfold boxed at *
 go_enter Try.func42, Try.ntmps42
 go_wp2
 go_ret
 exact ⟨rfl, HF0.out⟩
set_option maxRecDepth 100000 in
set_option maxHeartbeats 4000000 in
theorem rsized_no19 (d s n i m wd d0 s0 : Int) (w : World) (hk : n ≠ 4 ∧ n ≠ 2 ∧ n ≠ 1) : Calls Try.prog 42 #[.agg #[.int .i64 19, .int .i64 d0, .int .i64 s0, .int .i64 m, .int .i64 i, .int .u64 wd], .int .i64 d, .int .i64 s, .int .i64 n] w
  (FromPost w (.string (strOfNums []))) := by
 have hu3 := Try.underlying32
 have HX := hide (heap_alloc_new w (boxed 19 d0 s0 m i wd))
 obtain ⟨c0, c1, c2, c3, c4, c5⟩ := box_at HX.out
 have HF0 : Hid (Fr [] [] w (w.alloc (boxed 19 d0 s0 m i wd))) := hide ((Fr.refl [] w).alloc' _)
 have b4 : (n == 4) = false := by rw [beq_eq_false_iff_ne]; omega
 have b2 : (n == 2) = false := by rw [beq_eq_false_iff_ne]; omega
 have b1 : (n == 1) = false := by rw [beq_eq_false_iff_ne]; omega
 clear hk
 unfold boxed at *
 go_enter Try.func42, Try.ntmps42
 go_wp2
 go_ret
 exact ⟨rfl, HF0.out⟩
set_option maxRecDepth 100000 in
set_option maxHeartbeats 4000000 in
theorem rsized_no20 (d s n i m wd d0 s0 : Int) (w : World) (hk : n ≠ 8 ∧ n ≠ 4 ∧ n ≠ 2 ∧ n ≠ 1) : Calls Try.prog 42 #[.agg #[.int .i64 20, .int .i64 d0, .int .i64 s0, .int .i64 m, .int .i64 i, .int .u64 wd], .int .i64 d, .int .i64 s, .int .i64 n] w
  (FromPost w (.string (strOfNums []))) := by
 have hu3 := Try.underlying32
 have HX := hide (heap_alloc_new w (boxed 20 d0 s0 m i wd))
 obtain ⟨c0, c1, c2, c3, c4, c5⟩ := box_at HX.out
 have HF0 : Hid (Fr [] [] w (w.alloc (boxed 20 d0 s0 m i wd))) := hide ((Fr.refl [] w).alloc' _)
 have b8 : (n == 8) = false := by rw [beq_eq_false_iff_ne]; omega
 have b4 : (n == 4) = false := by rw [beq_eq_false_iff_ne]; omega
 have b2 : (n == 2) = false := by rw [beq_eq_false_iff_ne]; omega
 have b1 : (n == 1) = false := by rw [beq_eq_false_iff_ne]; omega
 clear hk
 unfold boxed at *
 go_enter Try.func42, Try.ntmps42
 go_wp2
 go_ret
 exact ⟨rfl, HF0.out⟩
set_option maxRecDepth 100000 in
set_option maxHeartbeats 4000000 in
theorem rsized_no26 (d s n i m wd d0 s0 : Int) (w : World) (hk : n ≠ 2 ∧ n ≠ 4) : Calls Try.prog 42 #[.agg #[.int .i64 26, .int .i64 d0, .int .i64 s0, .int .i64 m, .int .i64 i, .int .u64 wd], .int .i64 d, .int .i64 s, .int .i64 n] w
  (FromPost w (.string (strOfNums []))) := by
 have hu3 := Try.underlying32
 have HX := hide (heap_alloc_new w (boxed 26 d0 s0 m i wd))
 obtain ⟨c0, c1, c2, c3, c4, c5⟩ := box_at HX.out
 have HF0 : Hid (Fr [] [] w (w.alloc (boxed 26 d0 s0 m i wd))) := hide ((Fr.refl [] w).alloc' _)
 have b2 : (n == 2) = false := by rw [beq_eq_false_iff_ne]; omega
 have b4 : (n == 4) = false := by rw [beq_eq_false_iff_ne]; omega
 clear hk
 unfold boxed at *
 go_enter Try.func42, Try.ntmps42
 go_wp2
 go_ret
 exact ⟨rfl, HF0.out⟩
set_option maxRecDepth 100000 in
set_option maxHeartbeats 4000000 in
theorem rsized_no27 (d s n i m wd d0 s0 : Int) (w : World) (hk : n ≠ 4 ∧ n ≠ 2 ∧ n ≠ 1) : Calls Try.prog 42 #[.agg #[.int .i64 27, .int .i64 d0, .int .i64 s0, .int .i64 m, .int .i64 i, .int .u64 wd], .int .i64 d, .int .i64 s, .int .i64 n] w
  (FromPost w (.string (strOfNums []))) := by
 have hu3 := Try.underlying32
 have HX := hide (heap_alloc_new w (boxed 27 d0 s0 m i wd))
 obtain ⟨c0, c1, c2, c3, c4, c5⟩ := box_at HX.out
 have HF0 : Hid (Fr [] [] w (w.alloc (boxed 27 d0 s0 m i wd))) := hide ((Fr.refl [] w).alloc' _)
 have b4 : (n == 4) = false := by rw [beq_eq_false_iff_ne]; omega
 have b2 : (n == 2) = false := by rw [beq_eq_false_iff_ne]; omega
 have b1 : (n == 1) = false := by rw [beq_eq_false_iff_ne]; omega
 clear hk
 unfold boxed at *
 go_enter Try.func42, Try.ntmps42
 go_wp2
 go_ret
 exact ⟨rfl, HF0.out⟩
end Go.Proofs.Ytpahjllcomejbaa
