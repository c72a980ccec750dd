/- What the program guesses of a word is the instruction whose word it is, at every kind; no condition. -/
import Derived.Test.YthkbncoklgpobaaAGuess
set_option linter.unusedVariables false
set_option linter.unusedSimpArgs false
namespace Go.Proofs.Ythkbncoklgpobaa
open Go.RowKit
open Go.Proofs.YthkbncoklgpobaaW.PrintWords Go.Proofs.YthkbncoklgpobaaW.PrintLast Go.Proofs.YthkbncoklgpobaaW.PrintMore
open QArmDecodes (arm_signed.f arm_guess.f arm_guess.j0 arm_guess.j1 arm_guess.l0 arm_Decode.f)

theorem guess_unf (k : Nat) (w : Int) : arm_guess.f (k + 2) w =
    if w / 16777216 = 210 ∨ w / 16777216 = 242 then some (wrap64 (1 + w / 16777216 / 32 % 2), w % 32, w / 2097152 % 4, 0, w / 32 % 65536)
    else arm_guess.j1 (k + 1) w (w % 32) (w / 32 % 32) (w / 65536 % 32) (w / 16777216) (decide (w / 16777216 = 155 ∧ w / 1024 % 64 = 31)) := by
  unfold arm_guess.f
  simp only [and31, arm_guess.j0, and1, and3, and16, and63]
  by_cases c : w / 16777216 = 210
  · rw [if_pos c, if_pos trivial, if_pos (show w / 16777216 = 210 ∨ w / 16777216 = 242 from .inl c)]
  rw [if_neg c]
  by_cases c2 : w / 16777216 = 242
  · rw [if_pos (show (w / 16777216 == 242) = true by rw [beq_iff_eq]; exact c2), if_pos (show w / 16777216 = 210 ∨ w / 16777216 = 242 from .inr c2)]
  rw [if_neg (show ¬ (w / 16777216 == 242) = true by rw [beq_iff_eq]; exact c2), if_neg (show ¬ (w / 16777216 = 210 ∨ w / 16777216 = 242) by omega)]
  by_cases c3 : w / 16777216 = 155
  · rw [if_pos c3]
    congr 1
    rw [Bool.eq_iff_iff, beq_iff_eq, decide_eq_true_iff]
    omega
  · rw [if_neg c3]
    congr 1
    rw [eq_comm, decide_eq_false_iff_not]
    omega
theorem shl8 (k : Int) (h : k = 0 ∨ k = 1 ∨ k = 2 ∨ k = 3) : shl .i64 8 k = 8 * (if k = 0 then 1 else if k = 1 then 2 else if k = 2 then 4 else 8) := by
  rcases h with rfl | rfl | rfl | rfl <;> decide
theorem shl1 (k : Int) (h : k = 0 ∨ k = 1 ∨ k = 2 ∨ k = 3) : shl .i64 1 k = (if k = 0 then 1 else if k = 1 then 2 else if k = 2 then 4 else 8) := by
  rcases h with rfl | rfl | rfl | rfl <;> decide
theorem guess_j1 (k : Nat) (w x3 x4 x5 x6 : Int) (y : Bool) (h6 : 0 ≤ w) : arm_guess.j1 (k + 1) w x3 x4 x5 x6 y =
    if y = true then some (8, x3, x4, x5, 0) else if x6 = 155 then some (9, x3, x4, x5, w / 1024 % 32) else if x6 = 147 then some (15, x3, x4, 0, w / 1024 % 64 + 1)
    else if x6 = 211 then some (16, x3, x4, 0, w / 1024 % 64 + 1) else if x6 = 218 then some (17, x3, x4, 0, shl .i64 8 (w / 1024 % 4))
    else if x6 % 64 = 56 then some (rd [0, 20, 0, 18, 0, 19, 0, 0] (w / 2097152 % 8), x3, x4, x5, shl .i64 1 (w / 1073741824))
    else if x6 = 235 then some (21, 0, x4, x5, 0) else if x6 = 234 then some (22, 0, x4, x5, 0)
    else if x6 / 4 = 5 then some (23, 0, 0, 0, (w + 33554432) % 67108864 - 33554432)
    else if x6 = 84 then some (24, w % 16, 0, 0, (w / 32 + 262144) % 524288 - 262144)
    else if x6 = 212 then some (25, 0, 0, 0, w / 32 % 65536) else if x6 = 214 then some (26, 0, 0, 0, 0) else arm_guess.l0 k w x3 x4 x5 3 := by
  rw [arm_guess.j1]
  simp only [and31, and63, and3, and7, and15, and16, signed26, signed19, Option.bind_some]
  rw [if_pos (show 0 ≤ w / 1024 % 4 by omega), if_pos (show 0 ≤ w / 2097152 % 8 by omega), if_pos (show w / 2097152 % 8 < (([0, 20, 0, 18, 0, 19, 0, 0] : List Int).length : Int) by simp; omega), if_pos (show 0 ≤ w / 1073741824 by omega)]
  rw [show wrap64 (w / 1024 % 64 + 1) = w / 1024 % 64 + 1 by unfold wrap64; omega]
theorem tup5 {a b c d e a' b' c' d' e' : Int} (h1 : a = a') (h2 : b = b') (h3 : c = c') (h4 : d = d') (h5 : e = e') : some (a, b, c, d, e) = some (a', b', c', d', e') := by rw [h1, h2, h3, h4, h5]
theorem guess_enc {kd d a b i w : Int} (h : Enc kd d a b i w) (k : Nat) : arm_guess.f (k + 20) w = some (kd, d, a, b, i) := by
  have hr := h.range
  rw [guess_unf (k + 18) w]
  have he := h
  generalize hz : (0 : Int) = z at he
  cases he with
  | three _ _ _ _ h3 hd ha hb =>
    unfold Reg at *
    subst hz
    have hc := t3_cases kd h3
    rw [if_neg (by omega)]
    rw [guess_j1 _ _ _ _ _ _ _ hr.1]
    by_cases c8 : kd = 8
    · rw [if_pos (by rw [decide_eq_true_iff]; omega)]
      exact tup5 c8.symm (by omega) (by omega) (by omega) rfl
    rw [if_neg (by rw [decide_eq_true_iff]; omega), if_neg (by omega), if_neg (by omega), if_neg (by omega), if_neg (by omega), if_neg (by omega), if_neg (by omega), if_neg (by omega), if_neg (by omega), if_neg (by omega), if_neg (by omega), if_neg (by omega)]
    have e1 : (t3 kd + d + a * 32 + b * 65536) % 32 = d := by omega
    have e2 : (t3 kd + d + a * 32 + b * 65536) / 32 % 32 = a := by omega
    have e3 : (t3 kd + d + a * 32 + b * 65536) / 65536 % 32 = b := by omega
    rw [e1, e2, e3]
    exact guess_loop kd d a b _ h h3 (kd - 3).toNat (k + 18) 3 (by omega) (by omega) (by omega)
  | mov _ _ _ _ hk =>
    rw [if_pos (by omega)]
    exact tup5 (by unfold wrap64; omega) (by omega) (by omega) (by omega) (by omega)
  | msub _ _ _ _ h1 h2 h3 h4 =>
    unfold Reg at *
    rw [if_neg (by omega), guess_j1 _ _ _ _ _ _ _ hr.1, if_neg (by rw [decide_eq_true_iff]; omega), if_pos (by omega)]
    exact tup5 (by omega) (by omega) (by omega) (by omega) (by omega)
  | xt _ _ _ _ hk hi h1 h2 =>
    unfold Reg at *
    rw [if_neg (by omega), guess_j1 _ _ _ _ _ _ _ hr.1, if_neg (by rw [decide_eq_true_iff]; omega), if_neg (by omega)]
    by_cases c : kd = 15
    · rw [if_pos (by omega)]
      exact tup5 (by omega) (by omega) (by omega) (by omega) (by omega)
    · rw [if_neg (by omega), if_pos (by omega)]
      exact tup5 (by omega) (by omega) (by omega) (by omega) (by omega)
  | rev _ _ _ k' hi h1 h2 =>
    unfold Reg at *
    rw [if_neg (by omega), guess_j1 _ _ _ _ _ _ _ hr.1, if_neg (by rw [decide_eq_true_iff]; omega), if_neg (by omega), if_neg (by omega), if_neg (by omega), if_pos (by omega)]
    have e : (3670017024 + k' * 1024 + d + a * 32) / 1024 % 4 = k' + 1 := by omega
    rw [e, shl8 _ (by omega)]
    exact tup5 (by omega) (by omega) (by omega) (by omega) (by (repeat' split) <;> omega)
  | move _ _ _ _ _ k' hk hi h1 h2 h3 h4 =>
    unfold Reg at *
    have hm := mvBase_cases kd hk
    rw [if_neg (by omega), guess_j1 _ _ _ _ _ _ _ hr.1, if_neg (by rw [decide_eq_true_iff]; omega), if_neg (by omega), if_neg (by omega), if_neg (by omega), if_neg (by omega), if_pos (by omega)]
    have e : (mvBase kd + d + a * 32 + b * 65536 + k' * 1073741824) / 1073741824 = k' := by omega
    rw [e, shl1 _ (by omega)]
    refine tup5 ?_ (by omega) (by omega) (by omega) (by (repeat' split) <;> omega)
    rcases hm with ⟨rfl, hm⟩ | ⟨rfl, hm⟩ | ⟨rfl, hm⟩
    · have e : (mvBase 18 + d + a * 32 + b * 65536 + k' * 1073741824) / 2097152 % 8 = 3 := by omega
      rw [e]; rfl
    · have e : (mvBase 19 + d + a * 32 + b * 65536 + k' * 1073741824) / 2097152 % 8 = 5 := by omega
      rw [e]; rfl
    · have e : (mvBase 20 + d + a * 32 + b * 65536 + k' * 1073741824) / 2097152 % 8 = 1 := by omega
      rw [e]; rfl
  | cmp _ _ _ hk h1 h2 =>
    unfold Reg at *
    rw [if_neg (by omega), guess_j1 _ _ _ _ _ _ _ hr.1, if_neg (by rw [decide_eq_true_iff]; omega), if_neg (by omega), if_neg (by omega), if_neg (by omega), if_neg (by omega), if_neg (by omega)]
    by_cases c : kd = 21
    · rw [if_pos (by omega)]
      exact tup5 (by omega) (by omega) (by omega) (by omega) (by omega)
    · rw [if_neg (by omega), if_pos (by omega)]
      exact tup5 (by omega) (by omega) (by omega) (by omega) (by omega)
  | jump =>
    rw [if_neg (by omega), guess_j1 _ _ _ _ _ _ _ hr.1, if_neg (by rw [decide_eq_true_iff]; omega), if_neg (by omega), if_neg (by omega), if_neg (by omega), if_neg (by omega), if_neg (by omega), if_neg (by omega), if_neg (by omega), if_pos (by omega)]
    exact tup5 (by omega) (by omega) (by omega) (by omega) (by omega)
  | jumps =>
    rw [if_neg (by omega), guess_j1 _ _ _ _ _ _ _ hr.1, if_neg (by rw [decide_eq_true_iff]; omega), if_neg (by omega), if_neg (by omega), if_neg (by omega), if_neg (by omega), if_neg (by omega), if_neg (by omega), if_neg (by omega), if_neg (by omega), if_pos (by omega)]
    exact tup5 (by omega) (by omega) (by omega) (by omega) (by omega)
  | svc =>
    rw [if_neg (by omega), guess_j1 _ _ _ _ _ _ _ hr.1, if_neg (by rw [decide_eq_true_iff]; omega), if_neg (by omega), if_neg (by omega), if_neg (by omega), if_neg (by omega), if_neg (by omega), if_neg (by omega), if_neg (by omega), if_neg (by omega), if_neg (by omega), if_pos (by omega)]
    exact tup5 (by omega) (by omega) (by omega) (by omega) (by omega)
  | ret =>
    subst hz
    rfl
theorem ite_some {α : Type} {c : Prop} [Decidable c] {a b : Option α} (ha : ∃ x, a = some x) (hb : ∃ x, b = some x) : ∃ x, (if c then a else b) = some x := by split <;> assumption
/-- What a word decodes to. -/
theorem guess_some (w : Int) (h0 : 0 ≤ w) (k : Nat) : ∃ x, arm_guess.f (k + 20) w = some x := by
  rw [guess_unf (k + 18) w]
  split
  · exact ⟨_, rfl⟩
  rw [guess_j1 _ _ _ _ _ _ _ h0]
  have hl : ∀ (j : Nat) (k : Nat) (x : Int), j < k → 3 ≤ x → x + j = 15 → ∃ z, arm_guess.l0 k w (w % 32) (w / 32 % 32) (w / 65536 % 32) x = some z := by
    intro j
    induction j with
    | zero =>
      intro k x hk hx hj
      obtain ⟨k, rfl⟩ : ∃ m, k = m + 1 := ⟨k - 1, by omega⟩
      rw [arm_guess.l0, if_neg (by omega)]
      exact ⟨_, rfl⟩
    | succ j ih =>
      intro k x hk hx hj
      obtain ⟨k, rfl⟩ : ∃ m, k = m + 1 := ⟨k - 1, by omega⟩
      obtain ⟨z, hz⟩ := ih k (x + 1) (by omega) (by omega) (by omega)
      rw [arm_guess.l0, if_pos (by omega), arm_three.f, Option.bind_some, wrap_succ x (by omega) (by omega), hz, arm_word.f, Option.bind_some]
      (repeat' split) <;> exact ⟨_, rfl⟩
  obtain ⟨z, hz⟩ := hl 12 (k + 18) 3 (by omega) (by omega) (by omega)
  rw [hz]
  repeat' first | exact ⟨_, rfl⟩ | refine ite_some ?_ ?_
theorem decode_enc {kd d a b i w : Int} (h : Enc kd d a b i w) (k : Nat) : arm_Decode.f (k + 20) w = some (kd, d, a, b, i, 0) := by
  have hr := h.range
  unfold arm_Decode.f
  rw [if_pos (by omega), guess_enc h, Option.bind_some, arm_word.f, Option.bind_some]
  simp only
  rw [if_pos ((isW_armW kd d a b i).of_enc h)]
theorem decode_none {w : Int} (h : ∀ kd d a b i, ¬ Enc kd d a b i w) (k : Nat) : arm_Decode.f (k + 20) w = some (0, 0, 0, 0, 0, 30) := by
  unfold arm_Decode.f
  by_cases c : w / 4294967296 = 0
  · rw [if_pos c]
    obtain ⟨⟨kd, d, a, b, i⟩, e⟩ := guess_some w (by omega) k
    rw [e, Option.bind_some, arm_word.f, Option.bind_some]
    simp only
    rw [if_neg]
    intro e
    exact h kd d a b i (by rw [← e]; exact (isW_armW kd d a b i).of_nonneg (by omega))
  · rw [if_neg c]
end Go.Proofs.Ythkbncoklgpobaa
