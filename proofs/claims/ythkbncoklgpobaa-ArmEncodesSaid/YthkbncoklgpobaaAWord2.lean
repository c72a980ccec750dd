/- Contract of arm's word: an instruction's word, or -1; no condition. -/
import Derived.Test.YthkbncoklgpobaaAWord
set_option linter.unusedVariables false
set_option linter.unusedSimpArgs false
namespace Go.Proofs.Ythkbncoklgpobaa
open Go.RowKit Go.MapKept
open Go.ChangeMaps (setBlock)
open Go.Proofs.YthkbncoklgpobaaW.PrintWords Go.Proofs.YthkbncoklgpobaaW.PrintLast Go.Proofs.YthkbncoklgpobaaW.PrintMore

set_option maxRecDepth 100000 in
set_option maxHeartbeats 1600000 in
theorem word_k9 (d a b i : Int) (w : World) : Calls Try.prog 12 #[.agg #[.int .i64 9, .int .i64 d, .int .i64 a, .int .i64 b, .int .i64 i]] w (BelowPost w (.int .i64 (armMsub d a b i))) := by
  have hu32 := Try.underlying32
  have hu51 := Try.underlying51
  have HT : Hid (∀ w, Calls Try.prog 17 #[.int .i64 9] w fun e W => e = .returned (.int .i64 0) ∧ ∃ n, W = w.drewN n) := hide (three_calls 9)
  have HN := hide (Boxed.new w 9 d a b i)
  obtain ⟨W9, hW9⟩ : ∃ z, armAll 2600501248 d a b = z := ⟨_, rfl⟩
  have HA := hide (fun w => all_calls 2600501248 9 d a b i w)
  rw [hW9] at HA
  have HW := hide hW9
  clear hW9
  by_cases h1 : W9 < 0
  · skip
    go_enter Try.func12, Try.ntmps12
    obtain ⟨c0, c1, c2, c3, c4⟩ := HN.out.cells
    go_wp2_with fail
    refine (HT.out _).mono ?_
    rintro e W ⟨rfl, nd, rfl⟩
    have hbx : Boxed w 9 d a b i _ := HN.out.below (below_dN (Below.refl _ _) nd)
    go_wp2_with fail
    refine (HA.out _).mono ?_
    rintro e W ⟨rfl, hb⟩
    go_wp2
    go_ret
    exact ⟨by unfold armMsub; rw [HW.out, if_pos h1]; rfl, hbx.2.trans (hb.mono hbx.2.size)⟩
  · skip
    go_enter Try.func12, Try.ntmps12
    obtain ⟨c0, c1, c2, c3, c4⟩ := HN.out.cells
    go_wp2_with fail
    refine (HT.out _).mono ?_
    rintro e W ⟨rfl, nd, rfl⟩
    have hbx : Boxed w 9 d a b i _ := HN.out.below (below_dN (Below.refl _ _) nd)
    go_wp2_with fail
    refine (HA.out _).mono ?_
    rintro e W ⟨rfl, hb⟩
    have hb2 := hbx.below hb
    obtain ⟨c0, c1, c2, c3, c4⟩ := hb2.cells
    go_wp2_with fail
    refine (lay_calls W9 [⟨0, i, 10⟩] W.heap.size _ (PLs.made _ _ _ _ _ rfl rfl) (by simp) (by simp) (by simp)).mono ?_
    rintro e W ⟨rfl, hb3⟩
    go_wp2
    go_ret
    exact ⟨by unfold armMsub; rw [HW.out, if_neg (by omega)]; rfl, (hb2.2.alloc hb2.2.size _).trans (hb3.mono (by simp; have := hb2.2.size; omega))⟩
set_option maxRecDepth 100000 in
set_option maxHeartbeats 1600000 in
theorem word_k15 (d a b i : Int) (w : World) : Calls Try.prog 12 #[.agg #[.int .i64 15, .int .i64 d, .int .i64 a, .int .i64 b, .int .i64 i]] w (BelowPost w (.int .i64 (armXt 15 d a b i))) := by
  have hu32 := Try.underlying32
  have hu51 := Try.underlying51
  have HT : Hid (∀ w, Calls Try.prog 17 #[.int .i64 15] w fun e W => e = .returned (.int .i64 0) ∧ ∃ n, W = w.drewN n) := hide (three_calls 15)
  have HN := hide (Boxed.new w 15 d a b i)
  by_cases e0 : i = 8
  · subst e0
    have hk : armBit 8 [8, 16, 32] 0 = 0 := by decide
    by_cases h1 : b = 0
    · have h1' : (b != 0) = false := by rw [h1]; rfl
      have HB1 := hide h1
      clear h1
      go_enter Try.func12, Try.ntmps12
      obtain ⟨c0, c1, c2, c3, c4⟩ := HN.out.cells
      go_wp2_with fail
      refine (HT.out _).mono ?_
      rintro e W ⟨rfl, nd, rfl⟩
      have hbx : Boxed w 15 d a b 8 _ := HN.out.below (below_dN (Below.refl _ _) nd)
      have HBL := hide (bit_lit 8 [8, 16, 32] (by decide) ((w.alloc (.cells #[.int .i64 15, .int .i64 d, .int .i64 a, .int .i64 b, .int .i64 8] 32)).drewN nd) #[.int .i64 8, .int .i64 16, .int .i64 32] 3 (w.heap.size + 1) rfl (by simp))
      rw [hk] at HBL
      go_wp2_with fail
      refine HBL.out.mono ?_
      rintro e W ⟨rfl, hb⟩
      have hb2 := hbx.below hb
      obtain ⟨c0, c1, c2, c3, c4⟩ := hb2.cells
      go_wp2_with fail
      refine (all_calls _ _ _ _ _ _ _).mono ?_
      rintro e W ⟨rfl, hb3⟩
      go_wp2
      go_ret
      refine ⟨?_, hb2.2.trans (hb3.mono hb2.2.size)⟩
      have := HB1.out
      unfold armXt
      rw [hk, if_neg (by omega)]
      rfl
    · have h1' : (b != 0) = true := by rw [bne_iff_ne]; exact h1
      go_enter Try.func12, Try.ntmps12
      obtain ⟨c0, c1, c2, c3, c4⟩ := HN.out.cells
      go_wp2_with fail
      refine (HT.out _).mono ?_
      rintro e W ⟨rfl, nd, rfl⟩
      have hbx : Boxed w 15 d a b 8 _ := HN.out.below (below_dN (Below.refl _ _) nd)
      have HBL := hide (bit_lit 8 [8, 16, 32] (by decide) ((w.alloc (.cells #[.int .i64 15, .int .i64 d, .int .i64 a, .int .i64 b, .int .i64 8] 32)).drewN nd) #[.int .i64 8, .int .i64 16, .int .i64 32] 3 (w.heap.size + 1) rfl (by simp))
      rw [hk] at HBL
      go_wp2_with fail
      refine HBL.out.mono ?_
      rintro e W ⟨rfl, hb⟩
      have hb2 := hbx.below hb
      obtain ⟨c0, c1, c2, c3, c4⟩ := hb2.cells
      go_wp2
      go_ret
      exact ⟨by unfold armXt; rw [if_pos (.inr h1)]; rfl, hb2.2⟩
  by_cases e1 : i = 16
  · subst e1
    have hk : armBit 16 [8, 16, 32] 0 = 1 := by decide
    by_cases h1 : b = 0
    · have h1' : (b != 0) = false := by rw [h1]; rfl
      have HB1 := hide h1
      clear h1
      go_enter Try.func12, Try.ntmps12
      obtain ⟨c0, c1, c2, c3, c4⟩ := HN.out.cells
      go_wp2_with fail
      refine (HT.out _).mono ?_
      rintro e W ⟨rfl, nd, rfl⟩
      have hbx : Boxed w 15 d a b 16 _ := HN.out.below (below_dN (Below.refl _ _) nd)
      have HBL := hide (bit_lit 16 [8, 16, 32] (by decide) ((w.alloc (.cells #[.int .i64 15, .int .i64 d, .int .i64 a, .int .i64 b, .int .i64 16] 32)).drewN nd) #[.int .i64 8, .int .i64 16, .int .i64 32] 3 (w.heap.size + 1) rfl (by simp))
      rw [hk] at HBL
      go_wp2_with fail
      refine HBL.out.mono ?_
      rintro e W ⟨rfl, hb⟩
      have hb2 := hbx.below hb
      obtain ⟨c0, c1, c2, c3, c4⟩ := hb2.cells
      go_wp2_with fail
      refine (all_calls _ _ _ _ _ _ _).mono ?_
      rintro e W ⟨rfl, hb3⟩
      go_wp2
      go_ret
      refine ⟨?_, hb2.2.trans (hb3.mono hb2.2.size)⟩
      have := HB1.out
      unfold armXt
      rw [hk, if_neg (by omega)]
      rfl
    · have h1' : (b != 0) = true := by rw [bne_iff_ne]; exact h1
      go_enter Try.func12, Try.ntmps12
      obtain ⟨c0, c1, c2, c3, c4⟩ := HN.out.cells
      go_wp2_with fail
      refine (HT.out _).mono ?_
      rintro e W ⟨rfl, nd, rfl⟩
      have hbx : Boxed w 15 d a b 16 _ := HN.out.below (below_dN (Below.refl _ _) nd)
      have HBL := hide (bit_lit 16 [8, 16, 32] (by decide) ((w.alloc (.cells #[.int .i64 15, .int .i64 d, .int .i64 a, .int .i64 b, .int .i64 16] 32)).drewN nd) #[.int .i64 8, .int .i64 16, .int .i64 32] 3 (w.heap.size + 1) rfl (by simp))
      rw [hk] at HBL
      go_wp2_with fail
      refine HBL.out.mono ?_
      rintro e W ⟨rfl, hb⟩
      have hb2 := hbx.below hb
      obtain ⟨c0, c1, c2, c3, c4⟩ := hb2.cells
      go_wp2
      go_ret
      exact ⟨by unfold armXt; rw [if_pos (.inr h1)]; rfl, hb2.2⟩
  by_cases e2 : i = 32
  · subst e2
    have hk : armBit 32 [8, 16, 32] 0 = 2 := by decide
    by_cases h1 : b = 0
    · have h1' : (b != 0) = false := by rw [h1]; rfl
      have HB1 := hide h1
      clear h1
      go_enter Try.func12, Try.ntmps12
      obtain ⟨c0, c1, c2, c3, c4⟩ := HN.out.cells
      go_wp2_with fail
      refine (HT.out _).mono ?_
      rintro e W ⟨rfl, nd, rfl⟩
      have hbx : Boxed w 15 d a b 32 _ := HN.out.below (below_dN (Below.refl _ _) nd)
      have HBL := hide (bit_lit 32 [8, 16, 32] (by decide) ((w.alloc (.cells #[.int .i64 15, .int .i64 d, .int .i64 a, .int .i64 b, .int .i64 32] 32)).drewN nd) #[.int .i64 8, .int .i64 16, .int .i64 32] 3 (w.heap.size + 1) rfl (by simp))
      rw [hk] at HBL
      go_wp2_with fail
      refine HBL.out.mono ?_
      rintro e W ⟨rfl, hb⟩
      have hb2 := hbx.below hb
      obtain ⟨c0, c1, c2, c3, c4⟩ := hb2.cells
      go_wp2_with fail
      refine (all_calls _ _ _ _ _ _ _).mono ?_
      rintro e W ⟨rfl, hb3⟩
      go_wp2
      go_ret
      refine ⟨?_, hb2.2.trans (hb3.mono hb2.2.size)⟩
      have := HB1.out
      unfold armXt
      rw [hk, if_neg (by omega)]
      rfl
    · have h1' : (b != 0) = true := by rw [bne_iff_ne]; exact h1
      go_enter Try.func12, Try.ntmps12
      obtain ⟨c0, c1, c2, c3, c4⟩ := HN.out.cells
      go_wp2_with fail
      refine (HT.out _).mono ?_
      rintro e W ⟨rfl, nd, rfl⟩
      have hbx : Boxed w 15 d a b 32 _ := HN.out.below (below_dN (Below.refl _ _) nd)
      have HBL := hide (bit_lit 32 [8, 16, 32] (by decide) ((w.alloc (.cells #[.int .i64 15, .int .i64 d, .int .i64 a, .int .i64 b, .int .i64 32] 32)).drewN nd) #[.int .i64 8, .int .i64 16, .int .i64 32] 3 (w.heap.size + 1) rfl (by simp))
      rw [hk] at HBL
      go_wp2_with fail
      refine HBL.out.mono ?_
      rintro e W ⟨rfl, hb⟩
      have hb2 := hbx.below hb
      obtain ⟨c0, c1, c2, c3, c4⟩ := hb2.cells
      go_wp2
      go_ret
      exact ⟨by unfold armXt; rw [if_pos (.inr h1)]; rfl, hb2.2⟩
  have hk : armBit i [8, 16, 32] 0 = -1 := by
    simp only [armBit]
    rw [if_neg (fun e => e0 e.symm), if_neg (fun e => e1 e.symm), if_neg (fun e => e2 e.symm)]
  go_enter Try.func12, Try.ntmps12
  obtain ⟨c0, c1, c2, c3, c4⟩ := HN.out.cells
  go_wp2_with fail
  refine (HT.out _).mono ?_
  rintro e W ⟨rfl, nd, rfl⟩
  have hbx : Boxed w 15 d a b i _ := HN.out.below (below_dN (Below.refl _ _) nd)
  have HBL := hide (bit_lit i [8, 16, 32] (by decide) ((w.alloc (.cells #[.int .i64 15, .int .i64 d, .int .i64 a, .int .i64 b, .int .i64 i] 32)).drewN nd) #[.int .i64 8, .int .i64 16, .int .i64 32] 3 (w.heap.size + 1) rfl (by simp))
  rw [hk] at HBL
  clear e0 e1 e2
  go_wp2_with fail
  refine HBL.out.mono ?_
  rintro e W ⟨rfl, hb⟩
  have hb2 := hbx.below hb
  obtain ⟨c0, c1, c2, c3, c4⟩ := hb2.cells
  go_wp2
  go_ret
  exact ⟨by unfold armXt; rw [hk, if_pos (.inl (by decide))]; rfl, hb2.2⟩
set_option maxRecDepth 100000 in
set_option maxHeartbeats 1600000 in
theorem word_k16 (d a b i : Int) (w : World) : Calls Try.prog 12 #[.agg #[.int .i64 16, .int .i64 d, .int .i64 a, .int .i64 b, .int .i64 i]] w (BelowPost w (.int .i64 (armXt 16 d a b i))) := by
  have hu32 := Try.underlying32
  have hu51 := Try.underlying51
  have HT : Hid (∀ w, Calls Try.prog 17 #[.int .i64 16] w fun e W => e = .returned (.int .i64 0) ∧ ∃ n, W = w.drewN n) := hide (three_calls 16)
  have HN := hide (Boxed.new w 16 d a b i)
  by_cases e0 : i = 8
  · subst e0
    have hk : armBit 8 [8, 16, 32] 0 = 0 := by decide
    by_cases h1 : b = 0
    · have h1' : (b != 0) = false := by rw [h1]; rfl
      have HB1 := hide h1
      clear h1
      go_enter Try.func12, Try.ntmps12
      obtain ⟨c0, c1, c2, c3, c4⟩ := HN.out.cells
      go_wp2_with fail
      refine (HT.out _).mono ?_
      rintro e W ⟨rfl, nd, rfl⟩
      have hbx : Boxed w 16 d a b 8 _ := HN.out.below (below_dN (Below.refl _ _) nd)
      have HBL := hide (bit_lit 8 [8, 16, 32] (by decide) ((w.alloc (.cells #[.int .i64 16, .int .i64 d, .int .i64 a, .int .i64 b, .int .i64 8] 32)).drewN nd) #[.int .i64 8, .int .i64 16, .int .i64 32] 3 (w.heap.size + 1) rfl (by simp))
      rw [hk] at HBL
      go_wp2_with fail
      refine HBL.out.mono ?_
      rintro e W ⟨rfl, hb⟩
      have hb2 := hbx.below hb
      obtain ⟨c0, c1, c2, c3, c4⟩ := hb2.cells
      go_wp2_with fail
      refine (all_calls _ _ _ _ _ _ _).mono ?_
      rintro e W ⟨rfl, hb3⟩
      go_wp2
      go_ret
      refine ⟨?_, hb2.2.trans (hb3.mono hb2.2.size)⟩
      have := HB1.out
      unfold armXt
      rw [hk, if_neg (by omega)]
      rfl
    · have h1' : (b != 0) = true := by rw [bne_iff_ne]; exact h1
      go_enter Try.func12, Try.ntmps12
      obtain ⟨c0, c1, c2, c3, c4⟩ := HN.out.cells
      go_wp2_with fail
      refine (HT.out _).mono ?_
      rintro e W ⟨rfl, nd, rfl⟩
      have hbx : Boxed w 16 d a b 8 _ := HN.out.below (below_dN (Below.refl _ _) nd)
      have HBL := hide (bit_lit 8 [8, 16, 32] (by decide) ((w.alloc (.cells #[.int .i64 16, .int .i64 d, .int .i64 a, .int .i64 b, .int .i64 8] 32)).drewN nd) #[.int .i64 8, .int .i64 16, .int .i64 32] 3 (w.heap.size + 1) rfl (by simp))
      rw [hk] at HBL
      go_wp2_with fail
      refine HBL.out.mono ?_
      rintro e W ⟨rfl, hb⟩
      have hb2 := hbx.below hb
      obtain ⟨c0, c1, c2, c3, c4⟩ := hb2.cells
      go_wp2
      go_ret
      exact ⟨by unfold armXt; rw [if_pos (.inr h1)]; rfl, hb2.2⟩
  by_cases e1 : i = 16
  · subst e1
    have hk : armBit 16 [8, 16, 32] 0 = 1 := by decide
    by_cases h1 : b = 0
    · have h1' : (b != 0) = false := by rw [h1]; rfl
      have HB1 := hide h1
      clear h1
      go_enter Try.func12, Try.ntmps12
      obtain ⟨c0, c1, c2, c3, c4⟩ := HN.out.cells
      go_wp2_with fail
      refine (HT.out _).mono ?_
      rintro e W ⟨rfl, nd, rfl⟩
      have hbx : Boxed w 16 d a b 16 _ := HN.out.below (below_dN (Below.refl _ _) nd)
      have HBL := hide (bit_lit 16 [8, 16, 32] (by decide) ((w.alloc (.cells #[.int .i64 16, .int .i64 d, .int .i64 a, .int .i64 b, .int .i64 16] 32)).drewN nd) #[.int .i64 8, .int .i64 16, .int .i64 32] 3 (w.heap.size + 1) rfl (by simp))
      rw [hk] at HBL
      go_wp2_with fail
      refine HBL.out.mono ?_
      rintro e W ⟨rfl, hb⟩
      have hb2 := hbx.below hb
      obtain ⟨c0, c1, c2, c3, c4⟩ := hb2.cells
      go_wp2_with fail
      refine (all_calls _ _ _ _ _ _ _).mono ?_
      rintro e W ⟨rfl, hb3⟩
      go_wp2
      go_ret
      refine ⟨?_, hb2.2.trans (hb3.mono hb2.2.size)⟩
      have := HB1.out
      unfold armXt
      rw [hk, if_neg (by omega)]
      rfl
    · have h1' : (b != 0) = true := by rw [bne_iff_ne]; exact h1
      go_enter Try.func12, Try.ntmps12
      obtain ⟨c0, c1, c2, c3, c4⟩ := HN.out.cells
      go_wp2_with fail
      refine (HT.out _).mono ?_
      rintro e W ⟨rfl, nd, rfl⟩
      have hbx : Boxed w 16 d a b 16 _ := HN.out.below (below_dN (Below.refl _ _) nd)
      have HBL := hide (bit_lit 16 [8, 16, 32] (by decide) ((w.alloc (.cells #[.int .i64 16, .int .i64 d, .int .i64 a, .int .i64 b, .int .i64 16] 32)).drewN nd) #[.int .i64 8, .int .i64 16, .int .i64 32] 3 (w.heap.size + 1) rfl (by simp))
      rw [hk] at HBL
      go_wp2_with fail
      refine HBL.out.mono ?_
      rintro e W ⟨rfl, hb⟩
      have hb2 := hbx.below hb
      obtain ⟨c0, c1, c2, c3, c4⟩ := hb2.cells
      go_wp2
      go_ret
      exact ⟨by unfold armXt; rw [if_pos (.inr h1)]; rfl, hb2.2⟩
  by_cases e2 : i = 32
  · subst e2
    have hk : armBit 32 [8, 16, 32] 0 = 2 := by decide
    by_cases h1 : b = 0
    · have h1' : (b != 0) = false := by rw [h1]; rfl
      have HB1 := hide h1
      clear h1
      go_enter Try.func12, Try.ntmps12
      obtain ⟨c0, c1, c2, c3, c4⟩ := HN.out.cells
      go_wp2_with fail
      refine (HT.out _).mono ?_
      rintro e W ⟨rfl, nd, rfl⟩
      have hbx : Boxed w 16 d a b 32 _ := HN.out.below (below_dN (Below.refl _ _) nd)
      have HBL := hide (bit_lit 32 [8, 16, 32] (by decide) ((w.alloc (.cells #[.int .i64 16, .int .i64 d, .int .i64 a, .int .i64 b, .int .i64 32] 32)).drewN nd) #[.int .i64 8, .int .i64 16, .int .i64 32] 3 (w.heap.size + 1) rfl (by simp))
      rw [hk] at HBL
      go_wp2_with fail
      refine HBL.out.mono ?_
      rintro e W ⟨rfl, hb⟩
      have hb2 := hbx.below hb
      obtain ⟨c0, c1, c2, c3, c4⟩ := hb2.cells
      go_wp2_with fail
      refine (all_calls _ _ _ _ _ _ _).mono ?_
      rintro e W ⟨rfl, hb3⟩
      go_wp2
      go_ret
      refine ⟨?_, hb2.2.trans (hb3.mono hb2.2.size)⟩
      have := HB1.out
      unfold armXt
      rw [hk, if_neg (by omega)]
      rfl
    · have h1' : (b != 0) = true := by rw [bne_iff_ne]; exact h1
      go_enter Try.func12, Try.ntmps12
      obtain ⟨c0, c1, c2, c3, c4⟩ := HN.out.cells
      go_wp2_with fail
      refine (HT.out _).mono ?_
      rintro e W ⟨rfl, nd, rfl⟩
      have hbx : Boxed w 16 d a b 32 _ := HN.out.below (below_dN (Below.refl _ _) nd)
      have HBL := hide (bit_lit 32 [8, 16, 32] (by decide) ((w.alloc (.cells #[.int .i64 16, .int .i64 d, .int .i64 a, .int .i64 b, .int .i64 32] 32)).drewN nd) #[.int .i64 8, .int .i64 16, .int .i64 32] 3 (w.heap.size + 1) rfl (by simp))
      rw [hk] at HBL
      go_wp2_with fail
      refine HBL.out.mono ?_
      rintro e W ⟨rfl, hb⟩
      have hb2 := hbx.below hb
      obtain ⟨c0, c1, c2, c3, c4⟩ := hb2.cells
      go_wp2
      go_ret
      exact ⟨by unfold armXt; rw [if_pos (.inr h1)]; rfl, hb2.2⟩
  have hk : armBit i [8, 16, 32] 0 = -1 := by
    simp only [armBit]
    rw [if_neg (fun e => e0 e.symm), if_neg (fun e => e1 e.symm), if_neg (fun e => e2 e.symm)]
  go_enter Try.func12, Try.ntmps12
  obtain ⟨c0, c1, c2, c3, c4⟩ := HN.out.cells
  go_wp2_with fail
  refine (HT.out _).mono ?_
  rintro e W ⟨rfl, nd, rfl⟩
  have hbx : Boxed w 16 d a b i _ := HN.out.below (below_dN (Below.refl _ _) nd)
  have HBL := hide (bit_lit i [8, 16, 32] (by decide) ((w.alloc (.cells #[.int .i64 16, .int .i64 d, .int .i64 a, .int .i64 b, .int .i64 i] 32)).drewN nd) #[.int .i64 8, .int .i64 16, .int .i64 32] 3 (w.heap.size + 1) rfl (by simp))
  rw [hk] at HBL
  clear e0 e1 e2
  go_wp2_with fail
  refine HBL.out.mono ?_
  rintro e W ⟨rfl, hb⟩
  have hb2 := hbx.below hb
  obtain ⟨c0, c1, c2, c3, c4⟩ := hb2.cells
  go_wp2
  go_ret
  exact ⟨by unfold armXt; rw [hk, if_pos (.inl (by decide))]; rfl, hb2.2⟩
set_option maxRecDepth 100000 in
set_option maxHeartbeats 1600000 in
theorem word_k17 (d a b i : Int) (w : World) : Calls Try.prog 12 #[.agg #[.int .i64 17, .int .i64 d, .int .i64 a, .int .i64 b, .int .i64 i]] w (BelowPost w (.int .i64 (armRev d a b i))) := by
  have hu32 := Try.underlying32
  have hu51 := Try.underlying51
  have HT : Hid (∀ w, Calls Try.prog 17 #[.int .i64 17] w fun e W => e = .returned (.int .i64 0) ∧ ∃ n, W = w.drewN n) := hide (three_calls 17)
  have HN := hide (Boxed.new w 17 d a b i)
  by_cases e0 : i = 16
  · subst e0
    have hk : armBit 16 [16, 32, 64] 0 = 0 := by decide
    by_cases h1 : b = 0
    · have h1' : (b != 0) = false := by rw [h1]; rfl
      have HB1 := hide h1
      clear h1
      go_enter Try.func12, Try.ntmps12
      obtain ⟨c0, c1, c2, c3, c4⟩ := HN.out.cells
      go_wp2_with fail
      refine (HT.out _).mono ?_
      rintro e W ⟨rfl, nd, rfl⟩
      have hbx : Boxed w 17 d a b 16 _ := HN.out.below (below_dN (Below.refl _ _) nd)
      have HBL := hide (bit_lit 16 [16, 32, 64] (by decide) ((w.alloc (.cells #[.int .i64 17, .int .i64 d, .int .i64 a, .int .i64 b, .int .i64 16] 32)).drewN nd) #[.int .i64 16, .int .i64 32, .int .i64 64] 3 (w.heap.size + 1) rfl (by simp))
      rw [hk] at HBL
      go_wp2_with fail
      refine HBL.out.mono ?_
      rintro e W ⟨rfl, hb⟩
      have hb2 := hbx.below hb
      obtain ⟨c0, c1, c2, c3, c4⟩ := hb2.cells
      go_wp2_with fail
      refine (all_calls _ _ _ _ _ _ _).mono ?_
      rintro e W ⟨rfl, hb3⟩
      go_wp2
      go_ret
      refine ⟨?_, hb2.2.trans (hb3.mono hb2.2.size)⟩
      have := HB1.out
      unfold armRev
      rw [hk, if_neg (by omega)]
      rfl
    · have h1' : (b != 0) = true := by rw [bne_iff_ne]; exact h1
      go_enter Try.func12, Try.ntmps12
      obtain ⟨c0, c1, c2, c3, c4⟩ := HN.out.cells
      go_wp2_with fail
      refine (HT.out _).mono ?_
      rintro e W ⟨rfl, nd, rfl⟩
      have hbx : Boxed w 17 d a b 16 _ := HN.out.below (below_dN (Below.refl _ _) nd)
      have HBL := hide (bit_lit 16 [16, 32, 64] (by decide) ((w.alloc (.cells #[.int .i64 17, .int .i64 d, .int .i64 a, .int .i64 b, .int .i64 16] 32)).drewN nd) #[.int .i64 16, .int .i64 32, .int .i64 64] 3 (w.heap.size + 1) rfl (by simp))
      rw [hk] at HBL
      go_wp2_with fail
      refine HBL.out.mono ?_
      rintro e W ⟨rfl, hb⟩
      have hb2 := hbx.below hb
      obtain ⟨c0, c1, c2, c3, c4⟩ := hb2.cells
      go_wp2
      go_ret
      exact ⟨by unfold armRev; rw [if_pos (.inr h1)]; rfl, hb2.2⟩
  by_cases e1 : i = 32
  · subst e1
    have hk : armBit 32 [16, 32, 64] 0 = 1 := by decide
    by_cases h1 : b = 0
    · have h1' : (b != 0) = false := by rw [h1]; rfl
      have HB1 := hide h1
      clear h1
      go_enter Try.func12, Try.ntmps12
      obtain ⟨c0, c1, c2, c3, c4⟩ := HN.out.cells
      go_wp2_with fail
      refine (HT.out _).mono ?_
      rintro e W ⟨rfl, nd, rfl⟩
      have hbx : Boxed w 17 d a b 32 _ := HN.out.below (below_dN (Below.refl _ _) nd)
      have HBL := hide (bit_lit 32 [16, 32, 64] (by decide) ((w.alloc (.cells #[.int .i64 17, .int .i64 d, .int .i64 a, .int .i64 b, .int .i64 32] 32)).drewN nd) #[.int .i64 16, .int .i64 32, .int .i64 64] 3 (w.heap.size + 1) rfl (by simp))
      rw [hk] at HBL
      go_wp2_with fail
      refine HBL.out.mono ?_
      rintro e W ⟨rfl, hb⟩
      have hb2 := hbx.below hb
      obtain ⟨c0, c1, c2, c3, c4⟩ := hb2.cells
      go_wp2_with fail
      refine (all_calls _ _ _ _ _ _ _).mono ?_
      rintro e W ⟨rfl, hb3⟩
      go_wp2
      go_ret
      refine ⟨?_, hb2.2.trans (hb3.mono hb2.2.size)⟩
      have := HB1.out
      unfold armRev
      rw [hk, if_neg (by omega)]
      rfl
    · have h1' : (b != 0) = true := by rw [bne_iff_ne]; exact h1
      go_enter Try.func12, Try.ntmps12
      obtain ⟨c0, c1, c2, c3, c4⟩ := HN.out.cells
      go_wp2_with fail
      refine (HT.out _).mono ?_
      rintro e W ⟨rfl, nd, rfl⟩
      have hbx : Boxed w 17 d a b 32 _ := HN.out.below (below_dN (Below.refl _ _) nd)
      have HBL := hide (bit_lit 32 [16, 32, 64] (by decide) ((w.alloc (.cells #[.int .i64 17, .int .i64 d, .int .i64 a, .int .i64 b, .int .i64 32] 32)).drewN nd) #[.int .i64 16, .int .i64 32, .int .i64 64] 3 (w.heap.size + 1) rfl (by simp))
      rw [hk] at HBL
      go_wp2_with fail
      refine HBL.out.mono ?_
      rintro e W ⟨rfl, hb⟩
      have hb2 := hbx.below hb
      obtain ⟨c0, c1, c2, c3, c4⟩ := hb2.cells
      go_wp2
      go_ret
      exact ⟨by unfold armRev; rw [if_pos (.inr h1)]; rfl, hb2.2⟩
  by_cases e2 : i = 64
  · subst e2
    have hk : armBit 64 [16, 32, 64] 0 = 2 := by decide
    by_cases h1 : b = 0
    · have h1' : (b != 0) = false := by rw [h1]; rfl
      have HB1 := hide h1
      clear h1
      go_enter Try.func12, Try.ntmps12
      obtain ⟨c0, c1, c2, c3, c4⟩ := HN.out.cells
      go_wp2_with fail
      refine (HT.out _).mono ?_
      rintro e W ⟨rfl, nd, rfl⟩
      have hbx : Boxed w 17 d a b 64 _ := HN.out.below (below_dN (Below.refl _ _) nd)
      have HBL := hide (bit_lit 64 [16, 32, 64] (by decide) ((w.alloc (.cells #[.int .i64 17, .int .i64 d, .int .i64 a, .int .i64 b, .int .i64 64] 32)).drewN nd) #[.int .i64 16, .int .i64 32, .int .i64 64] 3 (w.heap.size + 1) rfl (by simp))
      rw [hk] at HBL
      go_wp2_with fail
      refine HBL.out.mono ?_
      rintro e W ⟨rfl, hb⟩
      have hb2 := hbx.below hb
      obtain ⟨c0, c1, c2, c3, c4⟩ := hb2.cells
      go_wp2_with fail
      refine (all_calls _ _ _ _ _ _ _).mono ?_
      rintro e W ⟨rfl, hb3⟩
      go_wp2
      go_ret
      refine ⟨?_, hb2.2.trans (hb3.mono hb2.2.size)⟩
      have := HB1.out
      unfold armRev
      rw [hk, if_neg (by omega)]
      rfl
    · have h1' : (b != 0) = true := by rw [bne_iff_ne]; exact h1
      go_enter Try.func12, Try.ntmps12
      obtain ⟨c0, c1, c2, c3, c4⟩ := HN.out.cells
      go_wp2_with fail
      refine (HT.out _).mono ?_
      rintro e W ⟨rfl, nd, rfl⟩
      have hbx : Boxed w 17 d a b 64 _ := HN.out.below (below_dN (Below.refl _ _) nd)
      have HBL := hide (bit_lit 64 [16, 32, 64] (by decide) ((w.alloc (.cells #[.int .i64 17, .int .i64 d, .int .i64 a, .int .i64 b, .int .i64 64] 32)).drewN nd) #[.int .i64 16, .int .i64 32, .int .i64 64] 3 (w.heap.size + 1) rfl (by simp))
      rw [hk] at HBL
      go_wp2_with fail
      refine HBL.out.mono ?_
      rintro e W ⟨rfl, hb⟩
      have hb2 := hbx.below hb
      obtain ⟨c0, c1, c2, c3, c4⟩ := hb2.cells
      go_wp2
      go_ret
      exact ⟨by unfold armRev; rw [if_pos (.inr h1)]; rfl, hb2.2⟩
  have hk : armBit i [16, 32, 64] 0 = -1 := by
    simp only [armBit]
    rw [if_neg (fun e => e0 e.symm), if_neg (fun e => e1 e.symm), if_neg (fun e => e2 e.symm)]
  go_enter Try.func12, Try.ntmps12
  obtain ⟨c0, c1, c2, c3, c4⟩ := HN.out.cells
  go_wp2_with fail
  refine (HT.out _).mono ?_
  rintro e W ⟨rfl, nd, rfl⟩
  have hbx : Boxed w 17 d a b i _ := HN.out.below (below_dN (Below.refl _ _) nd)
  have HBL := hide (bit_lit i [16, 32, 64] (by decide) ((w.alloc (.cells #[.int .i64 17, .int .i64 d, .int .i64 a, .int .i64 b, .int .i64 i] 32)).drewN nd) #[.int .i64 16, .int .i64 32, .int .i64 64] 3 (w.heap.size + 1) rfl (by simp))
  rw [hk] at HBL
  clear e0 e1 e2
  go_wp2_with fail
  refine HBL.out.mono ?_
  rintro e W ⟨rfl, hb⟩
  have hb2 := hbx.below hb
  obtain ⟨c0, c1, c2, c3, c4⟩ := hb2.cells
  go_wp2
  go_ret
  exact ⟨by unfold armRev; rw [hk, if_pos (.inl (by decide))]; rfl, hb2.2⟩
set_option maxRecDepth 100000 in
set_option maxHeartbeats 1600000 in
theorem word_k18 (d a b i : Int) (w : World) : Calls Try.prog 12 #[.agg #[.int .i64 18, .int .i64 d, .int .i64 a, .int .i64 b, .int .i64 i]] w (BelowPost w (.int .i64 (armMoves 18 d a b i))) := by
  have hu32 := Try.underlying32
  have hu51 := Try.underlying51
  have HT : Hid (∀ w, Calls Try.prog 17 #[.int .i64 18] w fun e W => e = .returned (.int .i64 0) ∧ ∃ n, W = w.drewN n) := hide (three_calls 18)
  have HN := hide (Boxed.new w 18 d a b i)
  go_enter Try.func12, Try.ntmps12
  obtain ⟨c0, c1, c2, c3, c4⟩ := HN.out.cells
  go_wp2_with fail
  refine (HT.out _).mono ?_
  rintro e W ⟨rfl, nd, rfl⟩
  have hbx : Boxed w 18 d a b i _ := HN.out.below (below_dN (Below.refl _ _) nd)
  go_wp2_with fail
  refine (moves_calls _ _ _ _ _ (by decide) _).mono ?_
  rintro e W ⟨rfl, hb⟩
  go_wp2
  go_ret
  exact ⟨rfl, hbx.2.trans (hb.mono hbx.2.size)⟩
set_option maxRecDepth 100000 in
set_option maxHeartbeats 1600000 in
theorem word_k19 (d a b i : Int) (w : World) : Calls Try.prog 12 #[.agg #[.int .i64 19, .int .i64 d, .int .i64 a, .int .i64 b, .int .i64 i]] w (BelowPost w (.int .i64 (armMoves 19 d a b i))) := by
  have hu32 := Try.underlying32
  have hu51 := Try.underlying51
  have HT : Hid (∀ w, Calls Try.prog 17 #[.int .i64 19] w fun e W => e = .returned (.int .i64 0) ∧ ∃ n, W = w.drewN n) := hide (three_calls 19)
  have HN := hide (Boxed.new w 19 d a b i)
  go_enter Try.func12, Try.ntmps12
  obtain ⟨c0, c1, c2, c3, c4⟩ := HN.out.cells
  go_wp2_with fail
  refine (HT.out _).mono ?_
  rintro e W ⟨rfl, nd, rfl⟩
  have hbx : Boxed w 19 d a b i _ := HN.out.below (below_dN (Below.refl _ _) nd)
  go_wp2_with fail
  refine (moves_calls _ _ _ _ _ (by decide) _).mono ?_
  rintro e W ⟨rfl, hb⟩
  go_wp2
  go_ret
  exact ⟨rfl, hbx.2.trans (hb.mono hbx.2.size)⟩
set_option maxRecDepth 100000 in
set_option maxHeartbeats 1600000 in
theorem word_k20 (d a b i : Int) (w : World) : Calls Try.prog 12 #[.agg #[.int .i64 20, .int .i64 d, .int .i64 a, .int .i64 b, .int .i64 i]] w (BelowPost w (.int .i64 (armMoves 20 d a b i))) := by
  have hu32 := Try.underlying32
  have hu51 := Try.underlying51
  have HT : Hid (∀ w, Calls Try.prog 17 #[.int .i64 20] w fun e W => e = .returned (.int .i64 0) ∧ ∃ n, W = w.drewN n) := hide (three_calls 20)
  have HN := hide (Boxed.new w 20 d a b i)
  go_enter Try.func12, Try.ntmps12
  obtain ⟨c0, c1, c2, c3, c4⟩ := HN.out.cells
  go_wp2_with fail
  refine (HT.out _).mono ?_
  rintro e W ⟨rfl, nd, rfl⟩
  have hbx : Boxed w 20 d a b i _ := HN.out.below (below_dN (Below.refl _ _) nd)
  go_wp2_with fail
  refine (moves_calls _ _ _ _ _ (by decide) _).mono ?_
  rintro e W ⟨rfl, hb⟩
  go_wp2
  go_ret
  exact ⟨rfl, hbx.2.trans (hb.mono hbx.2.size)⟩
set_option maxRecDepth 100000 in
set_option maxHeartbeats 1600000 in
theorem word_k21 (d a b i : Int) (w : World) : Calls Try.prog 12 #[.agg #[.int .i64 21, .int .i64 d, .int .i64 a, .int .i64 b, .int .i64 i]] w (BelowPost w (.int .i64 (armCmp 21 d a b i))) := by
  have hu32 := Try.underlying32
  have hu51 := Try.underlying51
  have HT : Hid (∀ w, Calls Try.prog 17 #[.int .i64 21] w fun e W => e = .returned (.int .i64 0) ∧ ∃ n, W = w.drewN n) := hide (three_calls 21)
  have HN := hide (Boxed.new w 21 d a b i)
  by_cases h1 : d = 0
  · have h1' : (d != 0) = false := by rw [h1]; rfl
    have HB1 := hide h1
    clear h1
    by_cases h2 : i = 0
    · have h2' : (i != 0) = false := by rw [h2]; rfl
      have HB2 := hide h2
      clear h2
      go_enter Try.func12, Try.ntmps12
      obtain ⟨c0, c1, c2, c3, c4⟩ := HN.out.cells
      go_wp2_with fail
      refine (HT.out _).mono ?_
      rintro e W ⟨rfl, nd, rfl⟩
      have hbx : Boxed w 21 d a b i _ := HN.out.below (below_dN (Below.refl _ _) nd)
      go_wp2_with fail
      refine (all_calls _ _ _ _ _ _ _).mono ?_
      rintro e W ⟨rfl, hb⟩
      go_wp2
      go_ret
      refine ⟨?_, hbx.2.trans (hb.mono hbx.2.size)⟩
      have := HB1.out
      have := HB2.out
      unfold armCmp
      rw [if_neg (by omega)]
      rfl
    · have h2' : (i != 0) = true := by rw [bne_iff_ne]; exact h2
      go_enter Try.func12, Try.ntmps12
      obtain ⟨c0, c1, c2, c3, c4⟩ := HN.out.cells
      go_wp2_with fail
      refine (HT.out _).mono ?_
      rintro e W ⟨rfl, nd, rfl⟩
      have hbx : Boxed w 21 d a b i _ := HN.out.below (below_dN (Below.refl _ _) nd)
      go_wp2
      go_ret
      exact ⟨by unfold armCmp; rw [if_pos (.inr h2)]; rfl, hbx.2⟩
  · have h1' : (d != 0) = true := by rw [bne_iff_ne]; exact h1
    go_enter Try.func12, Try.ntmps12
    obtain ⟨c0, c1, c2, c3, c4⟩ := HN.out.cells
    go_wp2_with fail
    refine (HT.out _).mono ?_
    rintro e W ⟨rfl, nd, rfl⟩
    have hbx : Boxed w 21 d a b i _ := HN.out.below (below_dN (Below.refl _ _) nd)
    go_wp2
    go_ret
    exact ⟨by unfold armCmp; rw [if_pos (.inl h1)]; rfl, hbx.2⟩
set_option maxRecDepth 100000 in
set_option maxHeartbeats 1600000 in
theorem word_k22 (d a b i : Int) (w : World) : Calls Try.prog 12 #[.agg #[.int .i64 22, .int .i64 d, .int .i64 a, .int .i64 b, .int .i64 i]] w (BelowPost w (.int .i64 (armCmp 22 d a b i))) := by
  have hu32 := Try.underlying32
  have hu51 := Try.underlying51
  have HT : Hid (∀ w, Calls Try.prog 17 #[.int .i64 22] w fun e W => e = .returned (.int .i64 0) ∧ ∃ n, W = w.drewN n) := hide (three_calls 22)
  have HN := hide (Boxed.new w 22 d a b i)
  by_cases h1 : d = 0
  · have h1' : (d != 0) = false := by rw [h1]; rfl
    have HB1 := hide h1
    clear h1
    by_cases h2 : i = 0
    · have h2' : (i != 0) = false := by rw [h2]; rfl
      have HB2 := hide h2
      clear h2
      go_enter Try.func12, Try.ntmps12
      obtain ⟨c0, c1, c2, c3, c4⟩ := HN.out.cells
      go_wp2_with fail
      refine (HT.out _).mono ?_
      rintro e W ⟨rfl, nd, rfl⟩
      have hbx : Boxed w 22 d a b i _ := HN.out.below (below_dN (Below.refl _ _) nd)
      go_wp2_with fail
      refine (all_calls _ _ _ _ _ _ _).mono ?_
      rintro e W ⟨rfl, hb⟩
      go_wp2
      go_ret
      refine ⟨?_, hbx.2.trans (hb.mono hbx.2.size)⟩
      have := HB1.out
      have := HB2.out
      unfold armCmp
      rw [if_neg (by omega)]
      rfl
    · have h2' : (i != 0) = true := by rw [bne_iff_ne]; exact h2
      go_enter Try.func12, Try.ntmps12
      obtain ⟨c0, c1, c2, c3, c4⟩ := HN.out.cells
      go_wp2_with fail
      refine (HT.out _).mono ?_
      rintro e W ⟨rfl, nd, rfl⟩
      have hbx : Boxed w 22 d a b i _ := HN.out.below (below_dN (Below.refl _ _) nd)
      go_wp2
      go_ret
      exact ⟨by unfold armCmp; rw [if_pos (.inr h2)]; rfl, hbx.2⟩
  · have h1' : (d != 0) = true := by rw [bne_iff_ne]; exact h1
    go_enter Try.func12, Try.ntmps12
    obtain ⟨c0, c1, c2, c3, c4⟩ := HN.out.cells
    go_wp2_with fail
    refine (HT.out _).mono ?_
    rintro e W ⟨rfl, nd, rfl⟩
    have hbx : Boxed w 22 d a b i _ := HN.out.below (below_dN (Below.refl _ _) nd)
    go_wp2
    go_ret
    exact ⟨by unfold armCmp; rw [if_pos (.inl h1)]; rfl, hbx.2⟩
set_option maxRecDepth 100000 in
set_option maxHeartbeats 1600000 in
theorem word_rest (kd d a b i : Int) (w : World) (ht : armThree kd = 0) (hk : ¬ ((1 ≤ kd ∧ kd ≤ 2) ∨ kd = 9 ∨ (15 ≤ kd ∧ kd ≤ 22))) : Calls Try.prog 12 #[.agg #[.int .i64 kd, .int .i64 d, .int .i64 a, .int .i64 b, .int .i64 i]] w (BelowPost w (.int .i64 (armRest kd d a b i))) := by
  have hu32 := Try.underlying32
  have hu51 := Try.underlying51
  have HT : Hid (∀ w, Calls Try.prog 17 #[.int .i64 kd] w fun e W => e = .returned (.int .i64 (armThree kd)) ∧ ∃ n, W = w.drewN n) := hide (three_calls kd)
  have HN := hide (Boxed.new w kd d a b i)
  rw [ht] at HT
  have g1 : (kd == 1) = false := by rw [beq_eq_false_iff_ne]; omega
  have g2 : (kd == 2) = false := by rw [beq_eq_false_iff_ne]; omega
  have g9 : (kd == 9) = false := by rw [beq_eq_false_iff_ne]; omega
  have g15 : (kd == 15) = false := by rw [beq_eq_false_iff_ne]; omega
  have g16 : (kd == 16) = false := by rw [beq_eq_false_iff_ne]; omega
  have g17 : (kd == 17) = false := by rw [beq_eq_false_iff_ne]; omega
  have g18 : (kd == 18) = false := by rw [beq_eq_false_iff_ne]; omega
  have g19 : (kd == 19) = false := by rw [beq_eq_false_iff_ne]; omega
  have g20 : (kd == 20) = false := by rw [beq_eq_false_iff_ne]; omega
  have g21 : (kd == 21) = false := by rw [beq_eq_false_iff_ne]; omega
  have g22 : (kd == 22) = false := by rw [beq_eq_false_iff_ne]; omega
  clear hk ht
  go_enter Try.func12, Try.ntmps12
  obtain ⟨c0, c1, c2, c3, c4⟩ := HN.out.cells
  go_wp2_with fail
  refine (HT.out _).mono ?_
  rintro e W ⟨rfl, nd, rfl⟩
  have hbx : Boxed w kd d a b i _ := HN.out.below (below_dN (Below.refl _ _) nd)
  go_wp2_with fail
  refine (rest_calls _ _ _ _ _ _).mono ?_
  rintro e W ⟨rfl, hb⟩
  go_wp2
  go_ret
  exact ⟨rfl, hbx.2.trans (hb.mono hbx.2.size)⟩
theorem word_calls (kd d a b i : Int) (w : World) : Calls Try.prog 12 #[.agg #[.int .i64 kd, .int .i64 d, .int .i64 a, .int .i64 b, .int .i64 i]] w (BelowPost w (.int .i64 (armW kd d a b i))) := by
  unfold armW
  by_cases h : armThree kd ≠ 0
  · rw [if_pos h]; exact word_three kd d a b i h w
  rw [if_neg h]
  have h : armThree kd = 0 := by omega
  by_cases c : kd = 1 ∨ kd = 2
  · rw [if_pos c]
    rcases c with rfl | rfl
    · exact word_k1 d a b i w
    · exact word_k2 d a b i w
  rw [if_neg c]
  have c1 := c
  clear c
  by_cases c : kd = 9
  · rw [if_pos c]
    subst c
    exact word_k9 d a b i w
  rw [if_neg c]
  have c9 := c
  clear c
  by_cases c : kd = 15 ∨ kd = 16
  · rw [if_pos c]
    rcases c with rfl | rfl
    · exact word_k15 d a b i w
    · exact word_k16 d a b i w
  rw [if_neg c]
  have c15 := c
  clear c
  by_cases c : kd = 17
  · rw [if_pos c]
    subst c
    exact word_k17 d a b i w
  rw [if_neg c]
  have c17 := c
  clear c
  by_cases c : kd = 18 ∨ kd = 19 ∨ kd = 20
  · rw [if_pos c]
    rcases c with rfl | rfl | rfl
    · exact word_k18 d a b i w
    · exact word_k19 d a b i w
    · exact word_k20 d a b i w
  rw [if_neg c]
  have c18 := c
  clear c
  by_cases c : kd = 21 ∨ kd = 22
  · rw [if_pos c]
    rcases c with rfl | rfl
    · exact word_k21 d a b i w
    · exact word_k22 d a b i w
  rw [if_neg c]
  have c21 := c
  clear c
  exact word_rest kd d a b i w h (by omega)
end Go.Proofs.Ythkbncoklgpobaa
