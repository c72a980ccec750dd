/- The words of instructions as a relation, and that the program's word follows it; no condition. -/
import Derived.Test.YthkbncoklgpobaaABits
set_option linter.unusedVariables false
set_option linter.unusedSimpArgs false
namespace Go.Proofs.Ythkbncoklgpobaa
open Go.RowKit
open Go.Proofs.YthkbncoklgpobaaW.PrintWords Go.Proofs.YthkbncoklgpobaaW.PrintLast Go.Proofs.YthkbncoklgpobaaW.PrintMore

def Reg (n : Int) : Prop := 0 ≤ n ∧ n ≤ 31
def t3 (kd : Int) : Int :=
  if kd = 3 then 2332033024 else if kd = 4 then 3405774848 else if kd = 5 then 2315255808 else if kd = 6 then 2852126720 else if kd = 7 then 3388997632
  else if kd = 8 then 2600500224 else if kd = 10 then 2596276224 else if kd = 11 then 2596277248 else if kd = 12 then 2596282368 else if kd = 13 then 2596283392
  else if kd = 14 then 2596284416 else 0
theorem armThree_eq (kd : Int) : armThree kd = t3 kd := by
  unfold armThree PArmEncodes.arm_three.f t3
  (repeat' split) <;> rfl
/-- An instruction and its word. -/
inductive Enc : Int → Int → Int → Int → Int → Int → Prop
  | three (kd d a b : Int) : t3 kd ≠ 0 → Reg d → Reg a → Reg b → Enc kd d a b 0 (t3 kd + d + a * 32 + b * 65536)
  | mov (kd d a i : Int) : kd = 1 ∨ kd = 2 → 0 ≤ d → d ≤ 30 → 0 ≤ a → a ≤ 3 → 0 ≤ i → i ≤ 65535 → Enc kd d a 0 i (3531603968 + (kd - 1) * 536870912 + d + i * 32 + a * 2097152)
  | msub (d a b i : Int) : Reg d → Reg a → Reg b → Reg i → Enc 9 d a b i (2600501248 + d + a * 32 + b * 65536 + i * 1024)
  | xt (kd d a i : Int) : kd = 15 ∨ kd = 16 → i = 8 ∨ i = 16 ∨ i = 32 → Reg d → Reg a → Enc kd d a 0 i (2470445056 + (kd - 15) * 1073741824 + (i - 1) * 1024 + d + a * 32)
  | rev (d a i k : Int) : (i = 16 ∧ k = 0) ∨ (i = 32 ∧ k = 1) ∨ (i = 64 ∧ k = 2) → Reg d → Reg a → Enc 17 d a 0 i (3670017024 + k * 1024 + d + a * 32)
  | move (kd d a b i k : Int) : kd = 18 ∨ kd = 19 ∨ kd = 20 → (i = 1 ∧ k = 0) ∨ (i = 2 ∧ k = 1) ∨ (i = 4 ∧ k = 2) ∨ (i = 8 ∧ k = 3 ∧ kd ≠ 19) → Reg d → 0 ≤ a → a ≤ 30 → Reg b →
      Enc kd d a b i (mvBase kd + d + a * 32 + b * 65536 + k * 1073741824)
  | cmp (kd a b : Int) : kd = 21 ∨ kd = 22 → Reg a → Reg b → Enc kd 0 a b 0 (3942645791 - (kd - 21) * 16777216 + a * 32 + b * 65536)
  | jump (i : Int) : -33554432 ≤ i → i < 33554432 → Enc 23 0 0 0 i (335544320 + i % 67108864)
  | jumps (d i : Int) : -262144 ≤ i → i < 262144 → ((0 ≤ d ∧ d ≤ 3) ∨ (8 ≤ d ∧ d ≤ 13)) → Enc 24 d 0 0 i (1409286144 + i % 524288 * 32 + d)
  | svc (i : Int) : 0 ≤ i → i < 65536 → Enc 25 0 0 0 i (3556769793 + i * 32)
  | ret : Enc 26 0 0 0 0 3596551104
theorem Enc.cast {kd d a b i w w' : Int} (h : Enc kd d a b i w) (e : w = w') : Enc kd d a b i w' := e ▸ h
theorem t3_cases (kd : Int) (h : t3 kd ≠ 0) : (kd = 3 ∧ t3 kd = 2332033024) ∨ (kd = 4 ∧ t3 kd = 3405774848) ∨ (kd = 5 ∧ t3 kd = 2315255808) ∨ (kd = 6 ∧ t3 kd = 2852126720) ∨ (kd = 7 ∧ t3 kd = 3388997632) ∨ (kd = 8 ∧ t3 kd = 2600500224) ∨ (kd = 10 ∧ t3 kd = 2596276224) ∨ (kd = 11 ∧ t3 kd = 2596277248) ∨ (kd = 12 ∧ t3 kd = 2596282368) ∨ (kd = 13 ∧ t3 kd = 2596283392) ∨ (kd = 14 ∧ t3 kd = 2596284416) := by
  by_cases c : kd = 3
  · subst c; decide
  have c3 := c
  clear c
  by_cases c : kd = 4
  · subst c; decide
  have c4 := c
  clear c
  by_cases c : kd = 5
  · subst c; decide
  have c5 := c
  clear c
  by_cases c : kd = 6
  · subst c; decide
  have c6 := c
  clear c
  by_cases c : kd = 7
  · subst c; decide
  have c7 := c
  clear c
  by_cases c : kd = 8
  · subst c; decide
  have c8 := c
  clear c
  by_cases c : kd = 10
  · subst c; decide
  have c10 := c
  clear c
  by_cases c : kd = 11
  · subst c; decide
  have c11 := c
  clear c
  by_cases c : kd = 12
  · subst c; decide
  have c12 := c
  clear c
  by_cases c : kd = 13
  · subst c; decide
  have c13 := c
  clear c
  by_cases c : kd = 14
  · subst c; decide
  have c14 := c
  clear c
  exfalso; apply h; unfold t3; simp only [c3, c4, c5, c6, c7, c8, c10, c11, c12, c13, c14, if_false]
theorem Enc.range {kd d a b i w : Int} (h : Enc kd d a b i w) : 0 ≤ w ∧ w < 4294967296 := by
  cases h with
  | three _ _ _ _ h3 hd ha hb => unfold Reg at *; rcases t3_cases kd h3 with h | h | h | h | h | h | h | h | h | h | h <;> (rw [h.2]; omega)
  | mov => omega
  | msub => unfold Reg at *; omega
  | xt => unfold Reg at *; omega
  | rev => unfold Reg at *; omega
  | move _ _ _ _ _ hk => unfold Reg mvBase at *; (repeat' split) <;> omega
  | cmp => unfold Reg at *; omega
  | jump => omega
  | jumps => omega
  | svc => omega
  | ret => omega

/-! ### The program's word -/
theorem armAll_ok (w0 d a b : Int) (h0 : 0 ≤ w0) (h1 : w0 < 4294967296 - 65536 * 32) (z0 : w0 % 32 = 0) (z1 : w0 / 32 % 32 = 0) (z2 : w0 / 65536 % 32 = 0) (hd : Reg d) (ha : Reg a) (hb : Reg b) :
    armAll w0 d a b = w0 + d + a * 32 + b * 65536 := by
  unfold Reg at *
  unfold armAll
  rw [lay_reg _ _ _ _ (by omega) h0 (by omega) (by simpa using z0) hd.1 hd.2, lay_reg _ _ _ _ (by omega) (by simp; omega) (by simp; omega) (by simp; omega) ha.1 ha.2, lay_reg _ _ _ _ (by omega) (by simp; omega) (by simp; omega) (by simp; omega) hb.1 hb.2]
  simp [layW]
theorem layW_bad1 (w d a b : Int) (h : ¬ (Reg d ∧ Reg a ∧ Reg b)) : armAll w d a b = -1 := by
  unfold Reg at h
  unfold armAll
  by_cases c : 0 ≤ d ∧ d ≤ 31
  · rw [layW, if_neg (by simp [PL.bad]; omega)]
    by_cases c2 : 0 ≤ a ∧ a ≤ 31
    · rw [layW, if_neg (by simp [PL.bad]; omega)]
      exact lay_bad _ _ _ (by simp [PL.bad]; omega)
    · exact lay_bad _ _ _ (by simp [PL.bad]; omega)
  · exact lay_bad _ _ _ (by simp [PL.bad]; omega)
theorem armAll_cases (w0 d a b : Int) (h0 : 0 ≤ w0) (h1 : w0 < 4294967296 - 65536 * 32) (z0 : w0 % 32 = 0) (z1 : w0 / 32 % 32 = 0) (z2 : w0 / 65536 % 32 = 0) :
    (Reg d ∧ Reg a ∧ Reg b ∧ armAll w0 d a b = w0 + d + a * 32 + b * 65536) ∨ (¬ (Reg d ∧ Reg a ∧ Reg b) ∧ armAll w0 d a b = -1) := by
  by_cases c : Reg d ∧ Reg a ∧ Reg b
  · exact .inl ⟨c.1, c.2.1, c.2.2, armAll_ok w0 d a b h0 h1 z0 z1 z2 c.1 c.2.1 c.2.2⟩
  · exact .inr ⟨c, layW_bad1 _ _ _ _ c⟩
theorem or_zero (w : Int) (h0 : 0 ≤ w) (h1 : w < 4294967296) : bits BinOp.or IntKind.i64 w (wrap64 (0 * 2 ^ 0)) = w := by
  have := or_at w 0 0 0 (by omega) h0 (by omega) (by simp) (by omega) (by simp)
  simpa using this
theorem armAll_zero (w0 a b : Int) (h0 : 0 ≤ w0) (h1 : w0 < 4294967296 - 65536 * 32) (z1 : w0 / 32 % 32 = 0) (z2 : w0 / 65536 % 32 = 0) :
    (Reg a ∧ Reg b ∧ armAll w0 0 a b = w0 + a * 32 + b * 65536) ∨ (¬ (Reg a ∧ Reg b) ∧ armAll w0 0 a b = -1) := by
  by_cases c : Reg a ∧ Reg b
  · refine .inl ⟨c.1, c.2, ?_⟩
    obtain ⟨ha, hb⟩ := c
    unfold Reg at *
    unfold armAll
    rw [layW, if_neg (by simp [PL.bad])]
    simp only
    rw [or_zero w0 h0 (by omega), lay_reg _ _ _ _ (by omega) (by omega) (by omega) (by simpa using z1) ha.1 ha.2, lay_reg _ _ _ _ (by omega) (by simp; omega) (by simp; omega) (by simp; omega) hb.1 hb.2]
    simp [layW]
  · exact .inr ⟨c, layW_bad1 _ _ _ _ (fun h => c h.2)⟩
theorem bit3 (i x y z : Int) : armBit i [x, y, z] 0 = if x = i then 0 else if y = i then 1 else if z = i then 2 else -1 := by simp [armBit]
theorem bit4 (i x y z u : Int) : armBit i [x, y, z, u] 0 = if x = i then 0 else if y = i then 1 else if z = i then 2 else if u = i then 3 else -1 := by simp [armBit]
theorem within26_iff (n : Int) : withinB n 26 = true ↔ -33554432 ≤ n ∧ n < 33554432 := by
  unfold withinB
  have : shr .i64 n (wrap64 (26 - 1)) = n / 33554432 := by
    have : wrap64 (26 - 1) = 25 := by unfold wrap64; omega
    rw [this]; rfl
  rw [this, beq_iff_eq]
  omega
theorem within19_iff (n : Int) : withinB n 19 = true ↔ -262144 ≤ n ∧ n < 262144 := by
  unfold withinB
  have : shr .i64 n (wrap64 (19 - 1)) = n / 262144 := by
    have : wrap64 (19 - 1) = 18 := by unfold wrap64; omega
    rw [this]; rfl
  rw [this, beq_iff_eq]
  omega
end Go.Proofs.Ythkbncoklgpobaa
