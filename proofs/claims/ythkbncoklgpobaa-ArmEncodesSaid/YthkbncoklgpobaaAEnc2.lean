/- The program's word is the relation's, both ways; no condition. -/
import Derived.Test.YthkbncoklgpobaaAEnc
set_option linter.unusedVariables false
set_option linter.unusedSimpArgs false
namespace Go.Proofs.Ythkbncoklgpobaa
open Go.RowKit
open Go.Proofs.YthkbncoklgpobaaW.PrintWords Go.Proofs.YthkbncoklgpobaaW.PrintLast Go.Proofs.YthkbncoklgpobaaW.PrintMore

/-- w is the instruction's word, or -1 and there is none. -/
def IsW (kd d a b i w : Int) : Prop := Enc kd d a b i w ∨ (w < 0 ∧ ∀ v, ¬ Enc kd d a b i v)
theorem Enc.kd {kd d a b i w : Int} (h : Enc kd d a b i w) : 1 ≤ kd ∧ kd ≤ 26 := by
  cases h with
  | three _ _ _ _ h3 => rcases t3_cases kd h3 with h | h | h | h | h | h | h | h | h | h | h <;> omega
  | _ => omega
theorem isW_three (kd d a b i : Int) (h : t3 kd ≠ 0) : IsW kd d a b i (if i ≠ 0 then -1 else armAll (t3 kd) d a b) := by
  by_cases hi : i = 0
  · rw [if_neg (by simpa using hi)]
    subst hi
    have hc : (0 ≤ t3 kd) ∧ (t3 kd < 4294967296 - 65536 * 32) ∧ t3 kd % 32 = 0 ∧ t3 kd / 32 % 32 = 0 ∧ t3 kd / 65536 % 32 = 0 := by
      rcases t3_cases kd h with h | h | h | h | h | h | h | h | h | h | h <;> (rw [h.2]; decide)
    rcases armAll_cases (t3 kd) d a b hc.1 hc.2.1 hc.2.2.1 hc.2.2.2.1 hc.2.2.2.2 with ⟨h1, h2, h3, e⟩ | ⟨h1, e⟩
    · rw [e]; exact .inl (.three kd d a b h h1 h2 h3)
    · rw [e]
      refine .inr ⟨by omega, fun v hv => h1 ?_⟩
      generalize hz : (0 : Int) = z at hv
      cases hv with
      | three _ _ _ _ h3 hd ha hb => exact ⟨hd, ha, hb⟩
      | mov _ _ _ _ hk => rcases hk with rfl | rfl <;> exact absurd rfl h
      | msub => exact absurd rfl h
      | xt _ _ _ _ hk => rcases hk with rfl | rfl <;> exact absurd rfl h
      | rev => exact absurd rfl h
      | move _ _ _ _ _ _ hk => rcases hk with rfl | rfl | rfl <;> exact absurd rfl h
      | cmp _ _ _ hk => rcases hk with rfl | rfl <;> exact absurd rfl h
      | jump => exact absurd rfl h
      | jumps => exact absurd rfl h
      | svc => exact absurd rfl h
      | ret => exact absurd rfl h
  · rw [if_pos (by simpa using hi)]
    refine .inr ⟨by omega, fun v hv => ?_⟩
    cases hv with
    | three => exact hi rfl
    | mov _ _ _ _ hk => rcases hk with rfl | rfl <;> exact absurd rfl h
    | msub => exact absurd rfl h
    | xt _ _ _ _ hk => rcases hk with rfl | rfl <;> exact absurd rfl h
    | rev => exact absurd rfl h
    | move _ _ _ _ _ _ hk => rcases hk with rfl | rfl | rfl <;> exact absurd rfl h
    | cmp _ _ _ hk => exact hi rfl
    | jump => exact absurd rfl h
    | jumps => exact absurd rfl h
    | svc => exact absurd rfl h
    | ret => exact absurd rfl h
theorem enc_mov {kd d a b i v : Int} (hk : kd = 1 ∨ kd = 2) (h : Enc kd d a b i v) : b = 0 ∧ 0 ≤ d ∧ d ≤ 30 ∧ 0 ≤ a ∧ a ≤ 3 ∧ 0 ≤ i ∧ i ≤ 65535 := by
  cases h with
  | three _ _ _ _ h3 => rcases hk with rfl | rfl <;> exact absurd rfl h3
  | mov _ _ _ _ hk => omega
  | xt _ _ _ _ hk => omega
  | move _ _ _ _ _ _ hk => omega
  | cmp _ _ _ hk => omega
  | _ => omega
theorem isW_mov (kd d a b i : Int) (hk : kd = 1 ∨ kd = 2) : IsW kd d a b i (armMov kd d a b i) := by
  unfold armMov
  by_cases c : b ≠ 0 ∨ a < 0 ∨ 3 < a ∨ i < 0 ∨ 65535 < i
  · rw [if_pos c]
    exact .inr ⟨by omega, fun v hv => by have := enc_mov hk hv; omega⟩
  rw [if_neg c]
  obtain rfl : b = 0 := by omega
  by_cases hd : 0 ≤ d ∧ d ≤ 30
  · refine .inl ?_
    rw [lay_named _ _ _ _ (by omega) (by omega) (by omega) (by simp; omega) hd.1 hd.2, lay_size _ _ 5 16 _ (by omega) (by simp; omega) (by simp; omega) (by simp; omega) (by omega) (by simp; omega), lay_size _ _ 21 2 _ (by omega) (by simp; omega) (by simp; omega) (by simp; omega) (by omega) (by simp; omega)]
    refine (Enc.mov kd d a i hk hd.1 hd.2 (by omega) (by omega) (by omega) (by omega)).cast ?_
    simp [layW]
  · rw [lay_bad _ _ _ (by simp [PL.bad]; omega)]
    exact .inr ⟨by omega, fun v hv => by have := enc_mov hk hv; omega⟩
theorem enc_msub {d a b i v : Int} (h : Enc 9 d a b i v) : Reg d ∧ Reg a ∧ Reg b ∧ Reg i := by
  cases h with
  | three _ _ _ _ h3 => exact absurd rfl h3
  | msub _ _ _ _ h1 h2 h3 h4 => exact ⟨h1, h2, h3, h4⟩
  | mov _ _ _ _ hk => omega
  | xt _ _ _ _ hk => omega
  | move _ _ _ _ _ _ hk => omega
  | cmp _ _ _ hk => omega
theorem isW_msub (d a b i : Int) : IsW 9 d a b i (armMsub d a b i) := by
  unfold armMsub
  rcases armAll_cases 2600501248 d a b (by omega) (by omega) (by omega) (by omega) (by omega) with ⟨h1, h2, h3, e⟩ | ⟨h1, e⟩
  · rw [e, if_neg (by unfold Reg at *; omega)]
    by_cases hi : Reg i
    · refine .inl ((Enc.msub d a b i h1 h2 h3 hi).cast ?_)
      unfold Reg at *
      rw [lay_reg _ _ _ _ (by omega) (by omega) (by omega) (by simp; omega) hi.1 hi.2]
      simp [layW]
    · rw [lay_bad _ _ _ (by unfold Reg at hi; simp [PL.bad]; omega)]
      exact .inr ⟨by omega, fun v hv => hi (enc_msub hv).2.2.2⟩
  · rw [e, if_pos (by omega)]
    exact .inr ⟨by omega, fun v hv => h1 ⟨(enc_msub hv).1, (enc_msub hv).2.1, (enc_msub hv).2.2.1⟩⟩
theorem enc_xt {kd d a b i v : Int} (hk : kd = 15 ∨ kd = 16) (h : Enc kd d a b i v) : b = 0 ∧ Reg d ∧ Reg a ∧ (i = 8 ∨ i = 16 ∨ i = 32) := by
  cases h with
  | three _ _ _ _ h3 => rcases hk with rfl | rfl <;> exact absurd rfl h3
  | xt _ _ _ _ hk hi hd ha => exact ⟨rfl, hd, ha, hi⟩
  | mov _ _ _ _ hk => omega
  | move _ _ _ _ _ _ hk => omega
  | cmp _ _ _ hk => omega
  | _ => omega
theorem isW_xt (kd d a b i : Int) (hk : kd = 15 ∨ kd = 16) : IsW kd d a b i (armXt kd d a b i) := by
  unfold armXt
  rw [bit3]
  by_cases c : (if 8 = i then 0 else if 16 = i then 1 else if 32 = i then 2 else (-1 : Int)) < 0 ∨ b ≠ 0
  · rw [if_pos c]
    refine .inr ⟨by omega, fun v hv => ?_⟩
    obtain ⟨hb, _, _, hi⟩ := enc_xt hk hv
    rcases c with c | c
    · rcases hi with rfl | rfl | rfl <;> simp at c
    · exact c hb
  rw [if_neg c]
  obtain rfl : b = 0 := by omega
  have hi : i = 8 ∨ i = 16 ∨ i = 32 := by
    have c' := fun h => c (.inl h)
    revert c'; (repeat' split) <;> intro c' <;> omega
  rcases armAll_cases (2470445056 + (kd - 15) * 1073741824 + (i - 1) * 1024) d a 0 (by omega) (by omega) (by omega) (by omega) (by omega) with ⟨h1, h2, h3, e⟩ | ⟨h1, e⟩
  · rw [e]; exact .inl ((Enc.xt kd d a i hk hi h1 h2).cast (by omega))
  · rw [e]
    exact .inr ⟨by omega, fun v hv => h1 ⟨(enc_xt hk hv).2.1, (enc_xt hk hv).2.2.1, by unfold Reg; omega⟩⟩
theorem enc_rev {d a b i v : Int} (h : Enc 17 d a b i v) : b = 0 ∧ Reg d ∧ Reg a ∧ (i = 16 ∨ i = 32 ∨ i = 64) := by
  cases h with
  | three _ _ _ _ h3 => exact absurd rfl h3
  | rev _ _ _ _ hi hd ha => exact ⟨rfl, hd, ha, by omega⟩
  | mov _ _ _ _ hk => omega
  | xt _ _ _ _ hk => omega
  | move _ _ _ _ _ _ hk => omega
  | cmp _ _ _ hk => omega
theorem isW_rev (d a b i : Int) : IsW 17 d a b i (armRev d a b i) := by
  unfold armRev
  rw [bit3]
  by_cases hb : b = 0
  rotate_left
  · rw [if_pos (.inr hb)]
    exact .inr ⟨by omega, fun v hv => hb (enc_rev hv).1⟩
  subst hb
  have main : ∀ k, (i = 16 ∧ k = 0) ∨ (i = 32 ∧ k = 1) ∨ (i = 64 ∧ k = 2) → IsW 17 d a 0 i (armAll (3670017024 + k * 1024) d a 0) := by
    intro k hk
    rcases armAll_cases (3670017024 + k * 1024) d a 0 (by omega) (by omega) (by omega) (by omega) (by omega) with ⟨h1, h2, h3, e⟩ | ⟨h1, e⟩
    · rw [e]; exact .inl ((Enc.rev d a i k hk h1 h2).cast (by omega))
    · rw [e]
      exact .inr ⟨by omega, fun v hv => h1 ⟨(enc_rev hv).2.1, (enc_rev hv).2.2.1, by unfold Reg; omega⟩⟩
  by_cases c1 : i = 16
  · subst c1; simpa using main 0 (by omega)
  by_cases c2 : i = 32
  · subst c2; simpa using main 1 (by omega)
  by_cases c3 : i = 64
  · subst c3; simpa using main 2 (by omega)
  rw [if_neg (show ¬ 16 = i by omega), if_neg (show ¬ 32 = i by omega), if_neg (show ¬ 64 = i by omega), if_pos (.inl (by omega))]
  exact .inr ⟨by omega, fun v hv => by have := (enc_rev hv).2.2.2; omega⟩
theorem enc_move {kd d a b i v : Int} (hk : kd = 18 ∨ kd = 19 ∨ kd = 20) (h : Enc kd d a b i v) : Reg d ∧ 0 ≤ a ∧ a ≤ 30 ∧ Reg b ∧ (i = 1 ∨ i = 2 ∨ i = 4 ∨ (i = 8 ∧ kd ≠ 19)) := by
  cases h with
  | three _ _ _ _ h3 => rcases hk with rfl | rfl | rfl <;> exact absurd rfl h3
  | move _ _ _ _ _ _ hk hi hd ha1 ha2 hb => exact ⟨hd, ha1, ha2, hb, by omega⟩
  | mov _ _ _ _ hk => omega
  | xt _ _ _ _ hk => omega
  | cmp _ _ _ hk => omega
  | _ => omega
theorem mvBase_cases (kd : Int) (hk : kd = 18 ∨ kd = 19 ∨ kd = 20) : (kd = 18 ∧ mvBase kd = 945842176) ∨ (kd = 19 ∧ mvBase kd = 950036480) ∨ (kd = 20 ∧ mvBase kd = 941647872) := by
  rcases hk with rfl | rfl | rfl <;> decide
theorem isW_move (kd d a b i : Int) (hk : kd = 18 ∨ kd = 19 ∨ kd = 20) : IsW kd d a b i (armMoves kd d a b i) := by
  unfold armMoves
  have hm := mvBase_cases kd hk
  by_cases hd : Reg d
  rotate_left
  · rw [lay_bad _ _ _ (by unfold Reg at hd; simp [PL.bad]; omega)]
    exact .inr ⟨by omega, fun v hv => hd (enc_move hk hv).1⟩
  rw [lay_reg _ _ _ _ (by omega) (by omega) (by omega) (by simp; omega) hd.1 hd.2]
  unfold Reg at hd
  by_cases ha : 0 ≤ a ∧ a ≤ 30
  rotate_left
  · rw [lay_bad _ _ _ (by simp [PL.bad]; omega)]
    exact .inr ⟨by omega, fun v hv => ha ⟨(enc_move hk hv).2.1, (enc_move hk hv).2.2.1⟩⟩
  rw [lay_named _ _ _ _ (by omega) (by simp; omega) (by simp; omega) (by simp; omega) ha.1 ha.2]
  by_cases hb : Reg b
  rotate_left
  · rw [lay_bad _ _ _ (by unfold Reg at hb; simp [PL.bad]; omega)]
    exact .inr ⟨by omega, fun v hv => hb (enc_move hk hv).2.2.2.1⟩
  unfold Reg at hb
  rw [lay_reg _ _ _ _ (by omega) (by simp; omega) (by simp; omega) (by simp; omega) hb.1 hb.2]
  have main : ∀ k, (i = 1 ∧ k = 0) ∨ (i = 2 ∧ k = 1) ∨ (i = 4 ∧ k = 2) ∨ (i = 8 ∧ k = 3 ∧ kd ≠ 19) → mvK kd i = k → IsW kd d a b i (layW (mvBase kd + d * 2 ^ 0 + a * 2 ^ 5 + b * 2 ^ 16) [⟨2, mvK kd i, 30⟩]) := by
    intro k hki he
    rw [he, lay_size _ _ 30 2 _ (by omega) (by simp; omega) (by simp; omega) (by simp; omega) (by omega) (by simp; omega)]
    refine .inl ((Enc.move kd d a b i k hk hki hd ha.1 ha.2 hb).cast ?_)
    simp [layW]
  have hmk : mvK kd i = if kd = 19 ∧ i = 8 then -1 else if i = 1 then 0 else if i = 2 then 1 else if i = 4 then 2 else if i = 8 then 3 else -1 := by
    unfold mvK
    rw [bit4]
    by_cases c1 : i = 1
    · subst c1; simp
    by_cases c2 : i = 2
    · subst c2; simp
    by_cases c3 : i = 4
    · subst c3; simp
    by_cases c4 : i = 8
    · subst c4; simp
    rw [if_neg (show ¬ 1 = i by omega), if_neg (show ¬ 2 = i by omega), if_neg (show ¬ 4 = i by omega), if_neg (show ¬ 8 = i by omega)]
    simp [c1, c2, c3, c4]
  by_cases c0 : kd = 19 ∧ i = 8
  · have e : mvK kd i = -1 := by rw [hmk, if_pos c0]
    rw [e, lay_bad _ _ _ (by simp [PL.bad])]
    exact .inr ⟨by omega, fun v hv => by have := (enc_move hk hv).2.2.2.2; omega⟩
  by_cases c1 : i = 1
  · exact main 0 (by omega) (by rw [hmk, if_neg c0, if_pos c1])
  by_cases c2 : i = 2
  · exact main 1 (by omega) (by rw [hmk, if_neg c0, if_neg c1, if_pos c2])
  by_cases c3 : i = 4
  · exact main 2 (by omega) (by rw [hmk, if_neg c0, if_neg c1, if_neg c2, if_pos c3])
  by_cases c4 : i = 8
  · exact main 3 (by omega) (by rw [hmk, if_neg c0, if_neg c1, if_neg c2, if_neg c3, if_pos c4])
  have e : mvK kd i = -1 := by rw [hmk, if_neg c0, if_neg c1, if_neg c2, if_neg c3, if_neg c4]
  rw [e, lay_bad _ _ _ (by simp [PL.bad])]
  exact .inr ⟨by omega, fun v hv => by have := (enc_move hk hv).2.2.2.2; omega⟩
theorem enc_cmp {kd d a b i v : Int} (hk : kd = 21 ∨ kd = 22) (h : Enc kd d a b i v) : d = 0 ∧ i = 0 ∧ Reg a ∧ Reg b := by
  cases h with
  | three _ _ _ _ h3 => rcases hk with rfl | rfl <;> exact absurd rfl h3
  | cmp _ _ _ hk ha hb => exact ⟨rfl, rfl, ha, hb⟩
  | mov _ _ _ _ hk => omega
  | xt _ _ _ _ hk => omega
  | move _ _ _ _ _ _ hk => omega
  | _ => omega
theorem isW_cmp (kd d a b i : Int) (hk : kd = 21 ∨ kd = 22) : IsW kd d a b i (armCmp kd d a b i) := by
  unfold armCmp
  by_cases c : d ≠ 0 ∨ i ≠ 0
  · rw [if_pos c]
    exact .inr ⟨by omega, fun v hv => by have := enc_cmp hk hv; omega⟩
  rw [if_neg c]
  obtain rfl : d = 0 := by omega
  obtain rfl : i = 0 := by omega
  rcases armAll_zero (3942645791 - (kd - 21) * 16777216) a b (by omega) (by omega) (by omega) (by omega) with ⟨h1, h2, e⟩ | ⟨h1, e⟩
  · rw [e]; exact .inl (Enc.cmp kd a b hk h1 h2)
  · rw [e]
    exact .inr ⟨by omega, fun v hv => h1 ⟨(enc_cmp hk hv).2.2.1, (enc_cmp hk hv).2.2.2⟩⟩
end Go.Proofs.Ythkbncoklgpobaa
