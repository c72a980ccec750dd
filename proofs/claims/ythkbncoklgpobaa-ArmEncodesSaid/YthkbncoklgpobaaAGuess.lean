/- What the program guesses of a word is the instruction whose word it is; no condition. -/
import Derived.Test.YthkbncoklgpobaaAEnc3
import Derived.Test.YthkbncoklgpobaaQArmDecodesx3
set_option linter.unusedVariables false
set_option linter.unusedSimpArgs false
namespace Go.Proofs.Ythkbncoklgpobaa
open Go.RowKit
open Go.Proofs.YthkbncoklgpobaaW.PrintWords Go.Proofs.YthkbncoklgpobaaW.PrintLast Go.Proofs.YthkbncoklgpobaaW.PrintMore
open QArmDecodes (arm_signed.f arm_guess.f arm_guess.j0 arm_guess.j1 arm_guess.l0 arm_Decode.f)

theorem shl_lit (x : Int) (n : Nat) (hn : n ≤ 64) : shl .i64 x n = IntKind.i64.wrap (x * 2 ^ n) := by
  unfold shl
  rw [show min (n : Int).toNat IntKind.i64.bits = n by simp [IntKind.bits]; omega]
theorem shr_lit (x : Int) (n : Nat) (hn : n ≤ 64) : shr .i64 x n = x / 2 ^ n := by
  unfold shr
  rw [show min (n : Int).toNat IntKind.i64.bits = n by simp [IntKind.bits]; omega]
theorem signed26 (w : Int) : arm_signed.f w 0 26 = some ((w + 33554432) % 67108864 - 33554432) := by
  unfold arm_signed.f
  have e1 : wrap64 (wrap64 (64 - 0) - 26) = (38 : Nat) := by unfold wrap64; omega
  have e2 : wrap64 (64 - 26) = (38 : Nat) := by unfold wrap64; omega
  rw [e1, e2, if_pos (by omega), shl_lit _ _ (by omega), shr_lit _ _ (by omega), IntKind.wrap_i64]
  rw [if_pos (by omega)]
  congr 1
  omega
theorem signed19 (w : Int) : arm_signed.f w 5 19 = some ((w / 32 + 262144) % 524288 - 262144) := by
  unfold arm_signed.f
  have e1 : wrap64 (wrap64 (64 - 5) - 19) = (40 : Nat) := by unfold wrap64; omega
  have e2 : wrap64 (64 - 19) = (45 : Nat) := by unfold wrap64; omega
  rw [e1, e2, if_pos (by omega), shl_lit _ _ (by omega), shr_lit _ _ (by omega), IntKind.wrap_i64]
  rw [if_pos (by omega)]
  congr 1
  omega
theorem wrap_succ (n : Int) (h0 : 0 ≤ n) (h1 : n < 1000) : wrap64 (n + 1) = n + 1 := by unfold wrap64; omega
theorem t3_inj (x y : Int) (hx : t3 x ≠ 0) (h : t3 x = t3 y) : x = y := by
  have hx' := t3_cases x hx
  have hy' := t3_cases y (by omega)
  omega
theorem guess_loop (kd d a b w : Int) (he : Enc kd d a b 0 w) (h3 : t3 kd ≠ 0) : ∀ (j : Nat) (k : Nat) (x : Int), j < k → 3 ≤ x → x + j = kd → arm_guess.l0 k w d a b x = some (kd, d, a, b, 0) := by
  have hkd := t3_cases kd h3
  have hw : w = t3 kd + d + a * 32 + b * 65536 := by
    refine he.fun (Enc.three kd d a b h3 ?_ ?_ ?_) <;> (rcases isW_three kd d a b 0 h3 with h | h; skip)
    all_goals first
      | (have := h.2 w; exact absurd he this)
      | skip
    all_goals
      generalize hz : (0 : Int) = z at he
      cases he with
      | three _ _ _ _ _ h1 h2 h3 => first | exact h1 | exact h2 | exact h3
      | _ => omega
  intro j
  induction j with
  | zero =>
    intro k x hk hx hj
    obtain ⟨k, rfl⟩ : ∃ m, k = m + 1 := ⟨k - 1, by omega⟩
    obtain rfl : x = kd := by omega
    rw [arm_guess.l0, if_pos (by omega)]
    have e1 : arm_three.f x = some (t3 x) := by rw [arm_three.f, armThree_eq]
    have e2 : arm_word.f x d a b 0 = some w := by rw [arm_word.f, (isW_armW x d a b 0).of_enc he]
    rw [e1, Option.bind_some, if_neg h3, e2, Option.bind_some, if_pos rfl]
  | succ j ih =>
    intro k x hk hx hj
    obtain ⟨k, rfl⟩ : ∃ m, k = m + 1 := ⟨k - 1, by omega⟩
    rw [arm_guess.l0, if_pos (by omega)]
    have e1 : arm_three.f x = some (t3 x) := by rw [arm_three.f, armThree_eq]
    have e2 : arm_word.f x d a b 0 = some (armW x d a b 0) := rfl
    have next := ih k (x + 1) (by omega) (by omega) (by omega)
    rw [e1, Option.bind_some, wrap_succ x (by omega) (by omega), next]
    by_cases c : t3 x = 0
    · rw [if_pos c]
    · rw [if_neg c, e2, Option.bind_some, if_neg]
      intro e
      have hex : Enc x d a b 0 w := by
        rw [← e]; exact (isW_armW x d a b 0).of_nonneg (by rw [e]; exact he.range.1)
      have h2 : w = t3 x + d + a * 32 + b * 65536 := by
        generalize hz : (0 : Int) = z at hex
        cases hex with
        | three => rfl
        | mov _ _ _ _ hk => omega
        | msub => exact absurd rfl c
        | xt _ _ _ _ hk => omega
        | rev => omega
        | move _ _ _ _ _ _ hk => omega
        | cmp _ _ _ hk => omega
        | _ => omega
      have := t3_inj x kd c (by omega)
      omega
end Go.Proofs.Ythkbncoklgpobaa
