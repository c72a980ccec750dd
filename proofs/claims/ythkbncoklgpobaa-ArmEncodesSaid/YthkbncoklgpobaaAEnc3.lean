/- The program's word is the relation's at every kind; no condition. -/
import Derived.Test.YthkbncoklgpobaaAEnc2
set_option linter.unusedVariables false
set_option linter.unusedSimpArgs false
namespace Go.Proofs.Ythkbncoklgpobaa
open Go.RowKit
open Go.Proofs.YthkbncoklgpobaaW.PrintWords Go.Proofs.YthkbncoklgpobaaW.PrintLast Go.Proofs.YthkbncoklgpobaaW.PrintMore

theorem or_low (x v : Int) (m : Nat) (hm : m ≤ 62) (hx0 : 0 ≤ x) (hx1 : x < 4611686018427387904) (hz : x % 2 ^ m = 0) (hv0 : 0 ≤ v) (hv : v < 2 ^ m) (hv1 : v < 4611686018427387904) :
    bits BinOp.or IntKind.i64 x v = x + v := by
  have := or_at x v 0 m (by omega) hx0 hx1 (by simpa using hz) hv0 hv
  have e : wrap64 (v * 2 ^ 0) = v := by unfold wrap64; simp; omega
  rw [e] at this
  simpa using this
def armRestSpec (kd d a b i : Int) : Int :=
  if a ≠ 0 ∨ b ≠ 0 ∨ (kd ≠ 24 ∧ d ≠ 0) then -1
  else if kd = 23 ∧ -33554432 ≤ i ∧ i < 33554432 then 335544320 + i % 67108864
  else if kd = 24 ∧ -262144 ≤ i ∧ i < 262144 ∧ ((0 ≤ d ∧ d ≤ 3) ∨ (8 ≤ d ∧ d ≤ 13)) then 1409286144 + i % 524288 * 32 + d
  else if kd = 25 ∧ 0 ≤ i ∧ i < 65536 then 3556769793 + i * 32
  else if kd = 26 ∧ i = 0 then 3596551104
  else -1
theorem armBit_mem (d : Int) : 0 ≤ armBit d [0, 1, 2, 3, 8, 9, 10, 11, 12, 13] 0 ↔ ((0 ≤ d ∧ d ≤ 3) ∨ (8 ≤ d ∧ d ≤ 13)) := by
  simp only [armBit]
  (repeat' split) <;> omega
theorem arm_rest_j3 (k : Nat) (y : Bool) (kd d a b i : Int) (h0 : y = true → 0 ≤ i ∧ i < 65536) : PArmEncodes.arm_rest.j3 (k + 1) y kd d a b i = some (if y = true then 3556769793 + i * 32 else if kd = 26 ∧ i = 0 then 3596551104 else -1) := by
  rw [PArmEncodes.arm_rest.j3]
  by_cases c : y = true
  · rw [if_pos c, if_pos c]
    exact congrArg some (or_at 3556769793 i 5 16 (by omega) (by omega) (by omega) (by omega) (h0 c).1 (by have := (h0 c).2; simpa using this))
  rw [if_neg c, if_neg c]
  by_cases c2 : kd = 26
  · rw [if_pos c2]
    by_cases c3 : i = 0
    · rw [if_pos c3, if_pos ⟨c2, c3⟩]
    · rw [if_neg c3, if_neg (fun h => c3 h.2)]
  · rw [if_neg c2, if_neg (fun h => c2 h.1)]
theorem arm_rest_j2 (k : Nat) (y : Bool) (kd d a b i : Int) (h0 : y = true → (0 ≤ d ∧ d < 32)) : PArmEncodes.arm_rest.j2 (k + 2) y kd d a b i = some (if y = true then 1409286144 + i % 524288 * 32 + d else if kd = 25 ∧ 0 ≤ i ∧ i < 65536 then 3556769793 + i * 32 else if kd = 26 ∧ i = 0 then 3596551104 else -1) := by
  rw [PArmEncodes.arm_rest.j2]
  by_cases c : y = true
  · have hd := h0 c
    have e1 : bits BinOp.or IntKind.i64 1409286144 (wrap64 (i % 524288 * 32)) = 1409286144 + i % 524288 * 32 := or_at 1409286144 (i % 524288) 5 19 (by omega) (by omega) (by omega) (by omega) (by omega) (by simp; omega)
    rw [if_pos c, if_pos c, and19, e1, or_low _ d 5 (by omega) (by omega) (by omega) (by omega) hd.1 (by simp; omega) (by omega)]
  rw [if_neg c, if_neg c]
  by_cases c2 : kd = 25
  · rw [if_pos c2, arm_rest_j3 k _ _ _ _ _ _ (by rw [beq_iff_eq]; omega)]
    congr 1
    by_cases c3 : 0 ≤ i ∧ i < 65536
    · rw [if_pos (by rw [beq_iff_eq]; omega), if_pos ⟨c2, c3⟩]
    · rw [if_neg (by rw [beq_iff_eq]; omega), if_neg (show ¬ (kd = 25 ∧ 0 ≤ i ∧ i < 65536) from fun h => c3 h.2)]
  · rw [if_neg c2, arm_rest_j3 k _ _ _ _ _ _ (fun h => by cases h), if_neg (by simp), if_neg (show ¬ (kd = 25 ∧ 0 ≤ i ∧ i < 65536) from fun h => c2 h.1)]
theorem arm_rest_j1 (y : Bool) (kd d a b i : Int) : PArmEncodes.arm_rest.j1 201 y kd d a b i = some (if y = true then 335544320 + i % 67108864 else if kd = 24 ∧ -262144 ≤ i ∧ i < 262144 ∧ ((0 ≤ d ∧ d ≤ 3) ∨ (8 ≤ d ∧ d ≤ 13)) then 1409286144 + i % 524288 * 32 + d else if kd = 25 ∧ 0 ≤ i ∧ i < 65536 then 3556769793 + i * 32 else if kd = 26 ∧ i = 0 then 3596551104 else -1) := by
  rw [PArmEncodes.arm_rest.j1]
  by_cases c : y = true
  · rw [if_pos c, if_pos c, and26, or_low _ _ 26 (by omega) (by omega) (by omega) (by omega) (by omega) (by simp; omega) (by omega)]
  rw [if_neg c, if_neg c]
  by_cases c2 : kd = 24
  · rw [if_pos c2, within19, Option.bind_some]
    by_cases c3 : -262144 ≤ i ∧ i < 262144
    · rw [if_pos ((within19_iff i).2 c3), bit_f _ _ (by decide), Option.bind_some, arm_rest_j2 198 _ _ _ _ _ _ (by rw [decide_eq_true_iff]; intro h; have := (armBit_mem d).1 h; omega)]
      congr 1
      by_cases c4 : ((0 ≤ d ∧ d ≤ 3) ∨ (8 ≤ d ∧ d ≤ 13))
      · rw [if_pos (by rw [decide_eq_true_iff]; exact (armBit_mem d).2 c4), if_pos ⟨c2, c3.1, c3.2, c4⟩]
      · rw [if_neg (by rw [decide_eq_true_iff]; exact fun h => c4 ((armBit_mem d).1 h)), if_neg (show ¬ (kd = 24 ∧ -262144 ≤ i ∧ i < 262144 ∧ ((0 ≤ d ∧ d ≤ 3) ∨ (8 ≤ d ∧ d ≤ 13))) from fun h => c4 h.2.2.2)]
    · rw [if_neg (fun h => c3 ((within19_iff i).1 h)), arm_rest_j2 198 _ _ _ _ _ _ (fun h => by cases h), if_neg (by simp), if_neg (show ¬ (kd = 24 ∧ -262144 ≤ i ∧ i < 262144 ∧ ((0 ≤ d ∧ d ≤ 3) ∨ (8 ≤ d ∧ d ≤ 13))) from fun h => c3 ⟨h.2.1, h.2.2.1⟩)]
  · rw [if_neg c2, arm_rest_j2 198 _ _ _ _ _ _ (fun h => by cases h), if_neg (by simp), if_neg (show ¬ (kd = 24 ∧ -262144 ≤ i ∧ i < 262144 ∧ ((0 ≤ d ∧ d ≤ 3) ∨ (8 ≤ d ∧ d ≤ 13))) from fun h => c2 h.1)]
theorem arm_rest_j0 (y : Bool) (kd d a b i : Int) : PArmEncodes.arm_rest.j0 202 y kd d a b i = some (if y = true then -1 else if kd = 23 ∧ -33554432 ≤ i ∧ i < 33554432 then 335544320 + i % 67108864 else if kd = 24 ∧ -262144 ≤ i ∧ i < 262144 ∧ ((0 ≤ d ∧ d ≤ 3) ∨ (8 ≤ d ∧ d ≤ 13)) then 1409286144 + i % 524288 * 32 + d else if kd = 25 ∧ 0 ≤ i ∧ i < 65536 then 3556769793 + i * 32 else if kd = 26 ∧ i = 0 then 3596551104 else -1) := by
  rw [PArmEncodes.arm_rest.j0]
  by_cases c : y = true
  · rw [if_pos c, if_pos c]
  rw [if_neg c, if_neg c]
  by_cases c2 : kd = 23
  · rw [if_pos c2, within26, Option.bind_some, arm_rest_j1]
    congr 1
    by_cases c3 : -33554432 ≤ i ∧ i < 33554432
    · rw [if_pos ((within26_iff i).2 c3), if_pos ⟨c2, c3⟩]
    · rw [if_neg (fun h => c3 ((within26_iff i).1 h)), if_neg (show ¬ (kd = 23 ∧ -33554432 ≤ i ∧ i < 33554432) from fun h => c3 h.2)]
  · rw [if_neg c2, arm_rest_j1, if_neg (by simp), if_neg (show ¬ (kd = 23 ∧ -33554432 ≤ i ∧ i < 33554432) from fun h => c2 h.1)]
theorem armRest_eq (kd d a b i : Int) : armRest kd d a b i = armRestSpec kd d a b i := by
  have h : PArmEncodes.arm_rest.f 202 kd d a b i = some (armRestSpec kd d a b i) := by
    unfold PArmEncodes.arm_rest.f armRestSpec
    simp only [arm_rest_j0]
    by_cases ca : a = 0
    · rw [if_pos ca]
      by_cases cb : b = 0
      · rw [if_pos cb]
        by_cases ck : kd = 24
        · rw [if_pos ck, if_neg (show ¬ (a ≠ 0 ∨ b ≠ 0 ∨ (kd ≠ 24 ∧ d ≠ 0)) by omega), if_neg (by simp)]
        · rw [if_neg ck]
          by_cases cd : d = 0
          · rw [if_neg (by simp [cd]), if_neg (show ¬ (a ≠ 0 ∨ b ≠ 0 ∨ (kd ≠ 24 ∧ d ≠ 0)) by omega)]
          · rw [if_pos (by simp [cd]), if_pos (show (a ≠ 0 ∨ b ≠ 0 ∨ (kd ≠ 24 ∧ d ≠ 0)) by omega)]
      · rw [if_neg cb, if_pos trivial, if_pos (show (a ≠ 0 ∨ b ≠ 0 ∨ (kd ≠ 24 ∧ d ≠ 0)) by omega)]
    · rw [if_neg ca, if_pos trivial, if_pos (show (a ≠ 0 ∨ b ≠ 0 ∨ (kd ≠ 24 ∧ d ≠ 0)) by omega)]
  unfold armRest
  rw [h]; rfl
theorem enc_rest {kd d a b i v : Int} (hk : ¬ (1 ≤ kd ∧ kd ≤ 22)) (h : Enc kd d a b i v) : a = 0 ∧ b = 0 ∧
    ((kd = 23 ∧ d = 0 ∧ -33554432 ≤ i ∧ i < 33554432) ∨ (kd = 24 ∧ -262144 ≤ i ∧ i < 262144 ∧ ((0 ≤ d ∧ d ≤ 3) ∨ (8 ≤ d ∧ d ≤ 13))) ∨ (kd = 25 ∧ d = 0 ∧ 0 ≤ i ∧ i < 65536) ∨ (kd = 26 ∧ d = 0 ∧ i = 0)) := by
  cases h with
  | three _ _ _ _ h3 => have := t3_cases kd h3; omega
  | _ => omega
theorem isW_rest (kd d a b i : Int) (hk : ¬ (1 ≤ kd ∧ kd ≤ 22)) : IsW kd d a b i (armRest kd d a b i) := by
  rw [armRest_eq]
  unfold armRestSpec
  by_cases c0 : a ≠ 0 ∨ b ≠ 0 ∨ (kd ≠ 24 ∧ d ≠ 0)
  · rw [if_pos c0]; exact .inr ⟨by omega, fun v hv => by have := enc_rest hk hv; omega⟩
  rw [if_neg c0]
  obtain rfl : a = 0 := by omega
  obtain rfl : b = 0 := by omega
  by_cases c1 : kd = 23 ∧ -33554432 ≤ i ∧ i < 33554432
  · rw [if_pos c1]
    obtain ⟨rfl, h1, h2⟩ := c1
    obtain rfl : d = 0 := by omega
    exact .inl (.jump i h1 h2)
  rw [if_neg c1]
  by_cases c2 : kd = 24 ∧ -262144 ≤ i ∧ i < 262144 ∧ ((0 ≤ d ∧ d ≤ 3) ∨ (8 ≤ d ∧ d ≤ 13))
  · rw [if_pos c2]
    obtain ⟨rfl, h1, h2, h3⟩ := c2
    exact .inl (.jumps d i h1 h2 h3)
  rw [if_neg c2]
  by_cases c3 : kd = 25 ∧ 0 ≤ i ∧ i < 65536
  · rw [if_pos c3]
    obtain ⟨rfl, h1, h2⟩ := c3
    obtain rfl : d = 0 := by omega
    exact .inl (.svc i h1 h2)
  rw [if_neg c3]
  by_cases c4 : kd = 26 ∧ i = 0
  · rw [if_pos c4]
    obtain ⟨rfl, rfl⟩ := c4
    obtain rfl : d = 0 := by omega
    exact .inl .ret
  rw [if_neg c4]
  exact .inr ⟨by omega, fun v hv => by have := enc_rest hk hv; omega⟩
theorem isW_armW (kd d a b i : Int) : IsW kd d a b i (armW kd d a b i) := by
  unfold armW
  rw [armThree_eq]
  by_cases h3 : t3 kd ≠ 0
  · rw [if_pos h3]; exact isW_three kd d a b i h3
  rw [if_neg h3]
  have h3' : t3 kd = 0 := by omega
  by_cases c1 : kd = 1 ∨ kd = 2
  · rw [if_pos c1]; exact isW_mov _ _ _ _ _ c1
  rw [if_neg c1]
  by_cases c2 : kd = 9
  · rw [if_pos c2]; subst c2; exact isW_msub _ _ _ _
  rw [if_neg c2]
  by_cases c3 : kd = 15 ∨ kd = 16
  · rw [if_pos c3]; exact isW_xt _ _ _ _ _ c3
  rw [if_neg c3]
  by_cases c4 : kd = 17
  · rw [if_pos c4]; subst c4; exact isW_rev _ _ _ _
  rw [if_neg c4]
  by_cases c5 : kd = 18 ∨ kd = 19 ∨ kd = 20
  · rw [if_pos c5]; exact isW_move _ _ _ _ _ c5
  rw [if_neg c5]
  by_cases c6 : kd = 21 ∨ kd = 22
  · rw [if_pos c6]; exact isW_cmp _ _ _ _ _ c6
  rw [if_neg c6]
  refine isW_rest _ _ _ _ _ fun h => ?_
  have : kd = 3 ∨ kd = 4 ∨ kd = 5 ∨ kd = 6 ∨ kd = 7 ∨ kd = 8 ∨ kd = 10 ∨ kd = 11 ∨ kd = 12 ∨ kd = 13 ∨ kd = 14 := by omega
  rcases this with rfl | rfl | rfl | rfl | rfl | rfl | rfl | rfl | rfl | rfl | rfl <;> exact absurd h3' (by decide)
theorem Enc.fun {kd d a b i v w : Int} (h : Enc kd d a b i v) (k : Enc kd d a b i w) : v = w := by
  cases h with
  | three _ _ _ _ h3 =>
    generalize hz : (0 : Int) = z at k
    cases k with
    | three => rfl
    | mov _ _ _ _ hk => rcases hk with rfl | rfl <;> exact absurd rfl h3
    | xt _ _ _ _ hk => rcases hk with rfl | rfl <;> exact absurd rfl h3
    | move _ _ _ _ _ _ hk => rcases hk with rfl | rfl | rfl <;> exact absurd rfl h3
    | cmp _ _ _ hk => rcases hk with rfl | rfl <;> exact absurd rfl h3
    | _ => exact absurd rfl h3
  | mov _ _ _ _ hk =>
    cases k with
    | three _ _ _ _ h3 => rcases hk with rfl | rfl <;> exact absurd rfl h3
    | _ => omega
  | msub =>
    cases k with
    | three _ _ _ _ h3 => exact absurd rfl h3
    | _ => omega
  | xt _ _ _ _ hk =>
    cases k with
    | three _ _ _ _ h3 => rcases hk with rfl | rfl <;> exact absurd rfl h3
    | _ => omega
  | rev =>
    cases k with
    | three _ _ _ _ h3 => exact absurd rfl h3
    | _ => omega
  | move _ _ _ _ _ _ hk =>
    cases k with
    | three _ _ _ _ h3 => rcases hk with rfl | rfl | rfl <;> exact absurd rfl h3
    | _ => omega
  | cmp _ _ _ hk =>
    generalize hz : (0 : Int) = z at k
    cases k with
    | three _ _ _ _ h3 => rcases hk with rfl | rfl <;> exact absurd rfl h3
    | _ => omega
  | jump =>
    generalize hz : (0 : Int) = z at k
    cases k with
    | three _ _ _ _ h3 => exact absurd rfl h3
    | _ => omega
  | jumps =>
    generalize hz : (0 : Int) = z at k
    cases k with
    | three _ _ _ _ h3 => exact absurd rfl h3
    | _ => omega
  | svc =>
    generalize hz : (0 : Int) = z at k
    cases k with
    | three _ _ _ _ h3 => exact absurd rfl h3
    | _ => omega
  | ret =>
    generalize hz : (0 : Int) = z at k
    cases k with
    | three _ _ _ _ h3 => exact absurd rfl h3
    | _ => omega
theorem IsW.of_enc {kd d a b i w v : Int} (h : IsW kd d a b i w) (e : Enc kd d a b i v) : w = v := by
  rcases h with h | ⟨_, h⟩
  · exact h.fun e
  · exact absurd e (h v)
theorem IsW.of_nonneg {kd d a b i w : Int} (h : IsW kd d a b i w) (e : 0 ≤ w) : Enc kd d a b i w := by
  rcases h with h | ⟨h, _⟩
  · exact h
  · omega
end Go.Proofs.Ythkbncoklgpobaa
