/- Contract of arm's word: an instruction's word, or -1; no condition. -/
import Derived.Test.YthkbncoklgpobaaAMoves
set_option linter.unusedVariables false
set_option linter.unusedSimpArgs false
namespace Go.Proofs.Ythkbncoklgpobaa
open Go.RowKit Go.MapKept
open Go.ChangeMaps (setBlock)
open Go.Proofs.YthkbncoklgpobaaW.PrintWords Go.Proofs.YthkbncoklgpobaaW.PrintLast Go.Proofs.YthkbncoklgpobaaW.PrintMore

def armThree (kd : Int) : Int := (PArmEncodes.arm_three.f kd).getD 0
theorem below_dN {B : Nat} {a w : World} (h : Below B a w) (n : Nat) : Below B a (w.drewN n) := h.trans ⟨rfl, rfl, rfl, Nat.le_refl _, fun _ _ => rfl⟩
theorem three_some (kd : Int) : PArmEncodes.arm_three.f kd = some (armThree kd) := by
  have : ∃ r, PArmEncodes.arm_three.f kd = some r := by unfold PArmEncodes.arm_three.f; (repeat' split) <;> exact ⟨_, rfl⟩
  obtain ⟨r, hr⟩ := this
  rw [armThree, hr]; rfl
theorem three_calls (kd : Int) (w : World) : Calls Try.prog 17 #[.int .i64 kd] w fun e W => e = .returned (.int .i64 (armThree kd)) ∧ ∃ n, W = w.drewN n :=
  (PArmEncodes.arm_three.calls kd (armThree kd) w (three_some kd)).mono fun e W ⟨h1, h2⟩ => ⟨h1, h2.out⟩
def withinB (n w : Int) : Bool := shr .i64 n (wrap64 (w - 1)) == n / 9223372036854775808
theorem within26 (n : Int) : PArmEncodes.arm_within.f n 26 = some (withinB n 26) := by
  unfold PArmEncodes.arm_within.f withinB; rw [if_pos (by unfold wrap64; omega)]
theorem within19 (n : Int) : PArmEncodes.arm_within.f n 19 = some (withinB n 19) := by
  unfold PArmEncodes.arm_within.f withinB; rw [if_pos (by unfold wrap64; omega)]
theorem rest3 (k : Nat) (y : Bool) (kd d a b i : Int) : ∃ r, PArmEncodes.arm_rest.j3 (k + 1) y kd d a b i = some r := by
  rw [PArmEncodes.arm_rest.j3]
  (repeat' split) <;> exact ⟨_, rfl⟩
theorem rest2 (k : Nat) (y : Bool) (kd d a b i : Int) : ∃ r, PArmEncodes.arm_rest.j2 (k + 2) y kd d a b i = some r := by
  rw [PArmEncodes.arm_rest.j2]
  split
  · exact ⟨_, rfl⟩
  split <;> exact rest3 k _ kd d a b i
theorem rest1 (y : Bool) (kd d a b i : Int) : ∃ r, PArmEncodes.arm_rest.j1 201 y kd d a b i = some r := by
  rw [PArmEncodes.arm_rest.j1]
  split
  · exact ⟨_, rfl⟩
  split
  · rw [within19, Option.bind_some]
    split
    · rw [bit_f _ _ (by decide), Option.bind_some]
      exact rest2 198 _ kd d a b i
    · exact rest2 198 _ kd d a b i
  · exact rest2 198 _ kd d a b i
theorem rest0 (y : Bool) (kd d a b i : Int) : ∃ r, PArmEncodes.arm_rest.j0 202 y kd d a b i = some r := by
  rw [PArmEncodes.arm_rest.j0]
  split
  · exact ⟨_, rfl⟩
  split
  · rw [within26, Option.bind_some]
    exact rest1 _ kd d a b i
  · exact rest1 _ kd d a b i
def armRest (kd d a b i : Int) : Int := (PArmEncodes.arm_rest.f 202 kd d a b i).getD (-1)
theorem rest_some (kd d a b i : Int) : PArmEncodes.arm_rest.f 202 kd d a b i = some (armRest kd d a b i) := by
  have : ∃ r, PArmEncodes.arm_rest.f 202 kd d a b i = some r := by
    unfold PArmEncodes.arm_rest.f
    repeat' split
    all_goals exact rest0 _ kd d a b i
  obtain ⟨r, hr⟩ := this
  rw [armRest, hr]; rfl
theorem rest_calls (kd d a b i : Int) (w : World) : Calls Try.prog 22 #[.agg #[.int .i64 kd, .int .i64 d, .int .i64 a, .int .i64 b, .int .i64 i]] w (BelowPost w (.int .i64 (armRest kd d a b i))) :=
  (PArmEncodes.arm_rest.calls 202 kd d a b i (armRest kd d a b i) w (rest_some kd d a b i)).mono fun e W ⟨h1, h2⟩ => ⟨h1, h2⟩
/-- An instruction's word. -/
def armMov (kd d a b i : Int) : Int := if b ≠ 0 ∨ a < 0 ∨ 3 < a ∨ i < 0 ∨ 65535 < i then -1 else layW (3531603968 + (kd - 1) * 536870912) [⟨1, d, 0⟩, ⟨2, i, 5⟩, ⟨2, a, 21⟩]
def armMsub (d a b i : Int) : Int := if armAll 2600501248 d a b < 0 then -1 else layW (armAll 2600501248 d a b) [⟨0, i, 10⟩]
def armXt (kd d a b i : Int) : Int := if armBit i [8, 16, 32] 0 < 0 ∨ b ≠ 0 then -1 else armAll (2470445056 + (kd - 15) * 1073741824 + (i - 1) * 1024) d a b
def armRev (d a b i : Int) : Int := if armBit i [16, 32, 64] 0 < 0 ∨ b ≠ 0 then -1 else armAll (3670017024 + armBit i [16, 32, 64] 0 * 1024) d a b
def armCmp (kd d a b i : Int) : Int := if d ≠ 0 ∨ i ≠ 0 then -1 else armAll (3942645791 - (kd - 21) * 16777216) d a b
def armW (kd d a b i : Int) : Int :=
  if armThree kd ≠ 0 then (if i ≠ 0 then -1 else armAll (armThree kd) d a b)
  else if kd = 1 ∨ kd = 2 then armMov kd d a b i
  else if kd = 9 then armMsub d a b i
  else if kd = 15 ∨ kd = 16 then armXt kd d a b i
  else if kd = 17 then armRev d a b i
  else if kd = 18 ∨ kd = 19 ∨ kd = 20 then armMoves kd d a b i
  else if kd = 21 ∨ kd = 22 then armCmp kd d a b i
  else armRest kd d a b i
set_option maxRecDepth 100000 in
set_option maxHeartbeats 800000 in
theorem word_three (kd d a b i : Int) (h : armThree kd ≠ 0) (w : World) : Calls Try.prog 12 #[.agg #[.int .i64 kd, .int .i64 d, .int .i64 a, .int .i64 b, .int .i64 i]] w (BelowPost w (.int .i64 (if i ≠ 0 then -1 else armAll (armThree kd) d a b))) := by
  have hu32 := Try.underlying32
  have hn : (armThree kd != 0) = true := by rw [bne_iff_ne]; exact h
  have HT := hide (three_calls kd)
  generalize armThree kd = t at *
  have HN := hide (Boxed.new w kd d a b i)
  obtain ⟨c0, c1, c2, c3, c4⟩ := HN.out.cells
  by_cases hi : i = 0
  · subst hi
    go_enter Try.func12, Try.ntmps12
    go_wp2_with fail
    refine (HT.out _).mono ?_
    rintro e W ⟨rfl, nd, rfl⟩
    go_wp2_with fail
    refine (all_calls _ _ _ _ _ _ _).mono ?_
    rintro e W ⟨rfl, hb⟩
    go_wp2
    go_ret
    exact ⟨rfl, (below_dN ((Below.refl _ _).alloc (Nat.le_refl _) _) nd).trans (hb.mono (by simp))⟩
  · have hi' : (i != 0) = true := by rw [bne_iff_ne]; exact hi
    go_enter Try.func12, Try.ntmps12
    go_wp2_with fail
    refine (HT.out _).mono ?_
    rintro e W ⟨rfl, nd, rfl⟩
    go_wp2
    go_ret
    exact ⟨rfl, below_dN ((Below.refl _ _).alloc (Nat.le_refl _) _) nd⟩
set_option maxRecDepth 100000 in
set_option maxHeartbeats 1600000 in
theorem word_k1 (d a b i : Int) (w : World) : Calls Try.prog 12 #[.agg #[.int .i64 1, .int .i64 d, .int .i64 a, .int .i64 b, .int .i64 i]] w (BelowPost w (.int .i64 (armMov 1 d a b i))) := by
  have hu32 := Try.underlying32
  have hu51 := Try.underlying51
  have HT : Hid (∀ w, Calls Try.prog 17 #[.int .i64 1] w fun e W => e = .returned (.int .i64 0) ∧ ∃ n, W = w.drewN n) := hide (three_calls 1)
  have HN := hide (Boxed.new w 1 d a b i)
  have HS : Hid (w.heap.size ≤ (w.alloc (.cells #[.int .i64 1, .int .i64 d, .int .i64 a, .int .i64 b, .int .i64 i] 32)).heap.size) := hide HN.out.2.size
  by_cases h1 : b = 0
  · have h1' : (b != 0) = false := by rw [h1]; rfl
    have HB1 := hide h1
    clear h1
    by_cases h2 : a < 0
    · skip
      go_enter Try.func12, Try.ntmps12
      obtain ⟨c0, c1, c2, c3, c4⟩ := HN.out.cells
      go_wp2_with fail
      refine (HT.out _).mono ?_
      rintro e W ⟨rfl, nd, rfl⟩
      have hbx : Boxed w 1 d a b i _ := HN.out.below (below_dN (Below.refl _ _) nd)
      go_wp2
      go_ret
      exact ⟨by unfold armMov; rw [if_pos (by omega)]; rfl, hbx.2⟩
    by_cases h3 : 3 < a
    · skip
      go_enter Try.func12, Try.ntmps12
      obtain ⟨c0, c1, c2, c3, c4⟩ := HN.out.cells
      go_wp2_with fail
      refine (HT.out _).mono ?_
      rintro e W ⟨rfl, nd, rfl⟩
      have hbx : Boxed w 1 d a b i _ := HN.out.below (below_dN (Below.refl _ _) nd)
      go_wp2
      go_ret
      exact ⟨by unfold armMov; rw [if_pos (by omega)]; rfl, hbx.2⟩
    by_cases h4 : i < 0
    · skip
      go_enter Try.func12, Try.ntmps12
      obtain ⟨c0, c1, c2, c3, c4⟩ := HN.out.cells
      go_wp2_with fail
      refine (HT.out _).mono ?_
      rintro e W ⟨rfl, nd, rfl⟩
      have hbx : Boxed w 1 d a b i _ := HN.out.below (below_dN (Below.refl _ _) nd)
      go_wp2
      go_ret
      exact ⟨by unfold armMov; rw [if_pos (by omega)]; rfl, hbx.2⟩
    by_cases h5 : 65535 < i
    · skip
      go_enter Try.func12, Try.ntmps12
      obtain ⟨c0, c1, c2, c3, c4⟩ := HN.out.cells
      go_wp2_with fail
      refine (HT.out _).mono ?_
      rintro e W ⟨rfl, nd, rfl⟩
      have hbx : Boxed w 1 d a b i _ := HN.out.below (below_dN (Below.refl _ _) nd)
      go_wp2
      go_ret
      exact ⟨by unfold armMov; rw [if_pos (by omega)]; rfl, hbx.2⟩
    go_enter Try.func12, Try.ntmps12
    obtain ⟨c0, c1, c2, c3, c4⟩ := HN.out.cells
    go_wp2_with fail
    refine (HT.out _).mono ?_
    rintro e W ⟨rfl, nd, rfl⟩
    have hbx : Boxed w 1 d a b i _ := HN.out.below (below_dN (Below.refl _ _) nd)
    go_wp2_with fail
    refine (lay_calls 3531603968 [⟨1, d, 0⟩, ⟨2, i, 5⟩, ⟨2, a, 21⟩] (w.heap.size + 1) _ (PLs.made _ _ _ _ _ rfl (by simp)) (by simp) (by simp) (by simp)).mono ?_
    rintro e W ⟨rfl, hb⟩
    go_wp2
    go_ret
    refine ⟨?_, (hbx.2.alloc (by simp) _).trans (hb.mono (by simp; omega))⟩
    unfold armMov
    have := HB1.out
    rw [if_neg (by omega)]
    rfl
  · have h1' : (b != 0) = true := by rw [bne_iff_ne]; exact h1
    go_enter Try.func12, Try.ntmps12
    obtain ⟨c0, c1, c2, c3, c4⟩ := HN.out.cells
    go_wp2_with fail
    refine (HT.out _).mono ?_
    rintro e W ⟨rfl, nd, rfl⟩
    have hbx : Boxed w 1 d a b i _ := HN.out.below (below_dN (Below.refl _ _) nd)
    go_wp2
    go_ret
    exact ⟨by unfold armMov; rw [if_pos (by omega)]; rfl, hbx.2⟩
set_option maxRecDepth 100000 in
set_option maxHeartbeats 1600000 in
theorem word_k2 (d a b i : Int) (w : World) : Calls Try.prog 12 #[.agg #[.int .i64 2, .int .i64 d, .int .i64 a, .int .i64 b, .int .i64 i]] w (BelowPost w (.int .i64 (armMov 2 d a b i))) := by
  have hu32 := Try.underlying32
  have hu51 := Try.underlying51
  have HT : Hid (∀ w, Calls Try.prog 17 #[.int .i64 2] w fun e W => e = .returned (.int .i64 0) ∧ ∃ n, W = w.drewN n) := hide (three_calls 2)
  have HN := hide (Boxed.new w 2 d a b i)
  have HS : Hid (w.heap.size ≤ (w.alloc (.cells #[.int .i64 2, .int .i64 d, .int .i64 a, .int .i64 b, .int .i64 i] 32)).heap.size) := hide HN.out.2.size
  by_cases h1 : b = 0
  · have h1' : (b != 0) = false := by rw [h1]; rfl
    have HB1 := hide h1
    clear h1
    by_cases h2 : a < 0
    · skip
      go_enter Try.func12, Try.ntmps12
      obtain ⟨c0, c1, c2, c3, c4⟩ := HN.out.cells
      go_wp2_with fail
      refine (HT.out _).mono ?_
      rintro e W ⟨rfl, nd, rfl⟩
      have hbx : Boxed w 2 d a b i _ := HN.out.below (below_dN (Below.refl _ _) nd)
      go_wp2
      go_ret
      exact ⟨by unfold armMov; rw [if_pos (by omega)]; rfl, hbx.2⟩
    by_cases h3 : 3 < a
    · skip
      go_enter Try.func12, Try.ntmps12
      obtain ⟨c0, c1, c2, c3, c4⟩ := HN.out.cells
      go_wp2_with fail
      refine (HT.out _).mono ?_
      rintro e W ⟨rfl, nd, rfl⟩
      have hbx : Boxed w 2 d a b i _ := HN.out.below (below_dN (Below.refl _ _) nd)
      go_wp2
      go_ret
      exact ⟨by unfold armMov; rw [if_pos (by omega)]; rfl, hbx.2⟩
    by_cases h4 : i < 0
    · skip
      go_enter Try.func12, Try.ntmps12
      obtain ⟨c0, c1, c2, c3, c4⟩ := HN.out.cells
      go_wp2_with fail
      refine (HT.out _).mono ?_
      rintro e W ⟨rfl, nd, rfl⟩
      have hbx : Boxed w 2 d a b i _ := HN.out.below (below_dN (Below.refl _ _) nd)
      go_wp2
      go_ret
      exact ⟨by unfold armMov; rw [if_pos (by omega)]; rfl, hbx.2⟩
    by_cases h5 : 65535 < i
    · skip
      go_enter Try.func12, Try.ntmps12
      obtain ⟨c0, c1, c2, c3, c4⟩ := HN.out.cells
      go_wp2_with fail
      refine (HT.out _).mono ?_
      rintro e W ⟨rfl, nd, rfl⟩
      have hbx : Boxed w 2 d a b i _ := HN.out.below (below_dN (Below.refl _ _) nd)
      go_wp2
      go_ret
      exact ⟨by unfold armMov; rw [if_pos (by omega)]; rfl, hbx.2⟩
    go_enter Try.func12, Try.ntmps12
    obtain ⟨c0, c1, c2, c3, c4⟩ := HN.out.cells
    go_wp2_with fail
    refine (HT.out _).mono ?_
    rintro e W ⟨rfl, nd, rfl⟩
    have hbx : Boxed w 2 d a b i _ := HN.out.below (below_dN (Below.refl _ _) nd)
    go_wp2_with fail
    refine (lay_calls 4068474880 [⟨1, d, 0⟩, ⟨2, i, 5⟩, ⟨2, a, 21⟩] (w.heap.size + 1) _ (PLs.made _ _ _ _ _ rfl (by simp)) (by simp) (by simp) (by simp)).mono ?_
    rintro e W ⟨rfl, hb⟩
    go_wp2
    go_ret
    refine ⟨?_, (hbx.2.alloc (by simp) _).trans (hb.mono (by simp; omega))⟩
    unfold armMov
    have := HB1.out
    rw [if_neg (by omega)]
    rfl
  · have h1' : (b != 0) = true := by rw [bne_iff_ne]; exact h1
    go_enter Try.func12, Try.ntmps12
    obtain ⟨c0, c1, c2, c3, c4⟩ := HN.out.cells
    go_wp2_with fail
    refine (HT.out _).mono ?_
    rintro e W ⟨rfl, nd, rfl⟩
    have hbx : Boxed w 2 d a b i _ := HN.out.below (below_dN (Below.refl _ _) nd)
    go_wp2
    go_ret
    exact ⟨by unfold armMov; rw [if_pos (by omega)]; rfl, hbx.2⟩
end Go.Proofs.Ythkbncoklgpobaa
