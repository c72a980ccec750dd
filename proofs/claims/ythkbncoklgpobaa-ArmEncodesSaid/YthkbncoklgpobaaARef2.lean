/- The reference's word is the relation's, both ways, at every kind; no condition. -/
import Derived.Test.YthkbncoklgpobaaARef
set_option linter.unusedVariables false
set_option linter.unusedSimpArgs false
namespace Go.Proofs.Ythkbncoklgpobaa
open Go.RowKit
open Go.Proofs.YthkbncoklgpobaaW.PrintWords Go.Proofs.YthkbncoklgpobaaW.PrintLast Go.Proofs.YthkbncoklgpobaaW.PrintMore
open QArmDecodes

theorem word_isW (k : Nat) (kd d a b i : Int) (hk : kd < 1 ∨ (2 < kd ∧ kd < 23) ∨ 26 < kd) (hi : bareSpec kd d a b i = (kd, d, a, b, i)) (hd : Reg d) (ha : Reg a) (hb : Reg b) :
    ∃ r, portcullisref25_word.f (k + 30) kd d a b i = some r ∧ IsW kd d a b i r := by
  unfold bareSpec at hi
  by_cases h3 : t3 kd ≠ 0
  · have hkd := t3_cases kd h3
    rw [if_neg (by omega), if_neg (by omega), if_neg (by omega), if_neg (by omega), if_neg (by omega), if_neg (by omega)] at hi
    simp only [Prod.mk.injEq, true_and] at hi
    subst hi
    exact ⟨_, word_three' k kd d a b 0 h3 hd ha hb, .inl (.three kd d a b h3 hd ha hb)⟩
  have h3' : t3 kd = 0 := by omega
  by_cases c9 : kd = 9
  · subst c9
    refine ⟨_, word_msub' k d a b i hd ha hb, ?_⟩
    by_cases hri : Reg i
    · rw [if_pos hri]; exact .inl (.msub d a b i hd ha hb hri)
    · rw [if_neg hri]; exact .inr ⟨by omega, fun v hv => hri (enc_msub hv).2.2.2⟩
  by_cases c15 : kd = 15 ∨ kd = 16
  · rw [if_pos (by omega)] at hi
    simp only [Prod.mk.injEq, true_and, and_true] at hi
    subst hi
    refine ⟨_, word_xt' k kd d a 0 i c15 hd ha, ?_⟩
    by_cases hri : i = 8 ∨ i = 16 ∨ i = 32
    · rw [if_pos hri]; exact .inl (.xt kd d a i c15 hri hd ha)
    · rw [if_neg hri]; exact .inr ⟨by omega, fun v hv => hri (enc_xt c15 hv).2.2.2⟩
  by_cases c17 : kd = 17
  · subst c17
    rw [if_pos (by omega)] at hi
    simp only [Prod.mk.injEq, true_and, and_true] at hi
    subst hi
    refine ⟨_, word_rev' k d a 0 i hd ha, ?_⟩
    by_cases h1 : i = 16
    · subst h1; exact .inl ((Enc.rev d a 16 0 (by omega) hd ha).cast (by simp))
    by_cases h2 : i = 32
    · subst h2; exact .inl ((Enc.rev d a 32 1 (by omega) hd ha).cast (by simp))
    by_cases h3 : i = 64
    · subst h3; exact .inl ((Enc.rev d a 64 2 (by omega) hd ha).cast (by simp))
    rw [if_neg h1, if_neg h2, if_neg h3]
    exact .inr ⟨by omega, fun v hv => by have := (enc_rev hv).2.2.2; omega⟩
  by_cases c18 : kd = 18 ∨ kd = 19 ∨ kd = 20
  · refine ⟨_, word_move' k kd d a b i c18 hd ha hb, ?_⟩
    have hmk : mvK kd i = if kd = 19 ∧ i = 8 then -1 else if i = 1 then 0 else if i = 2 then 1 else if i = 4 then 2 else if i = 8 then 3 else -1 := by
      unfold mvK
      rw [bit4]
      by_cases c1 : i = 1
      · subst c1; simp
      by_cases c2 : i = 2
      · subst c2; simp
      by_cases c3 : i = 4
      · subst c3; simp
      by_cases c4 : i = 8
      · subst c4; simp
      rw [if_neg (show ¬ 1 = i by omega), if_neg (show ¬ 2 = i by omega), if_neg (show ¬ 4 = i by omega), if_neg (show ¬ 8 = i by omega)]
      simp [c1, c2, c3, c4]
    unfold Reg at hd ha hb
    by_cases hc : a = 31 ∨ mvK kd i = -1
    · rw [if_pos hc]
      refine .inr ⟨by omega, fun v hv => ?_⟩
      obtain ⟨h1, h2, h3, h4, h5⟩ := enc_move c18 hv
      rcases hc with hc | hc
      · omega
      · revert hc; rw [hmk]; (repeat' split) <;> intro hc <;> omega
    · rw [if_neg hc]
      have hki : (i = 1 ∧ mvK kd i = 0) ∨ (i = 2 ∧ mvK kd i = 1) ∨ (i = 4 ∧ mvK kd i = 2) ∨ (i = 8 ∧ mvK kd i = 3 ∧ kd ≠ 19) := by
        have hc2 : ¬ mvK kd i = -1 := fun h => hc (.inr h)
        revert hc2; rw [hmk]; (repeat' split) <;> intro hc2 <;> omega
      exact .inl (.move kd d a b i _ c18 hki hd ha.1 (by omega) hb)
  by_cases c21 : kd = 21 ∨ kd = 22
  · rw [if_neg (by omega), if_pos c21] at hi
    simp only [Prod.mk.injEq, true_and] at hi
    obtain ⟨h1, h2⟩ := hi
    subst h1 h2
    exact ⟨_, word_cmp' k kd 0 a b 0 c21 ha hb, .inl (.cmp kd a b c21 ha hb)⟩
  refine ⟨-1, word_other' k kd d a b i ?_, .inr ⟨by omega, fun v hv => ?_⟩⟩
  · rcases hk with h | ⟨h1, h2⟩ | h
    · omega
    · have : kd = 3 ∨ kd = 4 ∨ kd = 5 ∨ kd = 6 ∨ kd = 7 ∨ kd = 8 ∨ kd = 10 ∨ kd = 11 ∨ kd = 12 ∨ kd = 13 ∨ kd = 14 := by omega
      rcases this with rfl | rfl | rfl | rfl | rfl | rfl | rfl | rfl | rfl | rfl | rfl <;> exact absurd h3' (by decide)
    · omega
  · have := hv.kd
    have : kd = 3 ∨ kd = 4 ∨ kd = 5 ∨ kd = 6 ∨ kd = 7 ∨ kd = 8 ∨ kd = 10 ∨ kd = 11 ∨ kd = 12 ∨ kd = 13 ∨ kd = 14 := by omega
    rcases this with rfl | rfl | rfl | rfl | rfl | rfl | rfl | rfl | rfl | rfl | rfl <;> exact absurd h3' (by decide)
theorem enc_regs {kd d a b i v : Int} (hk : 2 < kd ∧ kd < 23) (h : Enc kd d a b i v) : Reg d ∧ Reg a ∧ Reg b := by
  unfold Reg
  cases h with
  | three _ _ _ _ h3 hd ha hb => exact ⟨hd, ha, hb⟩
  | mov _ _ _ _ hk => omega
  | msub _ _ _ _ h1 h2 h3 => exact ⟨h1, h2, h3⟩
  | xt _ _ _ _ _ _ h1 h2 => exact ⟨h1, h2, by omega⟩
  | rev _ _ _ _ _ h1 h2 => exact ⟨h1, h2, by omega⟩
  | move _ _ _ _ _ _ _ _ h1 h2 h3 h4 => exact ⟨h1, by omega, h4⟩
  | cmp _ _ _ _ h1 h2 => exact ⟨by omega, h1, h2⟩
  | _ => omega
theorem enc_bare {kd d a b i v : Int} (h : Enc kd d a b i v) : bareSpec kd d a b i = (kd, d, a, b, i) := by
  unfold bareSpec
  generalize hz : (0 : Int) = z at h
  cases h with
  | three _ _ _ _ h3 hd ha hb =>
    subst hz
    have := t3_cases kd h3
    rw [if_neg (by omega), if_neg (by omega), if_neg (by omega), if_neg (by omega), if_neg (by omega), if_neg (by omega)]
  | mov _ _ _ _ hk => subst hz; rw [if_pos (by omega)]
  | msub => subst hz; rw [if_neg (by omega), if_neg (by omega), if_neg (by omega), if_neg (by omega), if_pos (by omega)]
  | xt _ _ _ _ hk => subst hz; rw [if_pos (by omega)]
  | rev => subst hz; rw [if_pos (by omega)]
  | move _ _ _ _ _ _ hk => subst hz; rw [if_neg (by omega), if_neg (by omega), if_neg (by omega), if_neg (by omega), if_pos (by omega)]
  | cmp _ _ _ hk => subst hz; rw [if_neg (by omega), if_pos (by omega)]
  | jump => subst hz; rw [if_neg (by omega), if_neg (by omega), if_pos (by omega)]
  | jumps => subst hz; rw [if_neg (by omega), if_neg (by omega), if_neg (by omega), if_pos (by omega)]
  | svc => subst hz; rw [if_neg (by omega), if_neg (by omega), if_pos (by omega)]
  | ret => subst hz; rw [if_neg (by omega), if_neg (by omega), if_neg (by omega), if_neg (by omega), if_neg (by omega), if_pos (by omega)]
theorem Word_isW (k : Nat) (kd d a b i : Int) : ∃ r, portcullisref25_Word.f (k + 40) kd d a b i = some r ∧ IsW kd d a b i r := by
  unfold portcullisref25_Word.f
  rw [bare_eq (k + 30), Option.bind_some]
  by_cases hb : bareSpec kd d a b i = (kd, d, a, b, i)
  rotate_left
  · refine ⟨-1, ?_, .inr ⟨by omega, fun v hv => hb (enc_bare hv)⟩⟩
    rw [if_pos]
    obtain ⟨e1, e2, e3, e4, e5⟩ : ∃ e1 e2 e3 e4, bareSpec kd d a b i = (e1, e2, e3, e4, (bareSpec kd d a b i).2.2.2.2) := ⟨_, _, _, _, rfl⟩
    generalize bareSpec kd d a b i = p at *
    obtain ⟨p1, p2, p3, p4, p5⟩ := p
    simp only [Prod.mk.injEq] at hb
    simp only [Bool.or_eq_true, Bool.not_eq_true', beq_eq_false_iff_ne]
    by_cases c1 : kd = p1
    · by_cases c2 : d = p2
      · by_cases c3 : a = p3
        · by_cases c4 : b = p4
          · exact .inr (.inr (.inr (.inr fun c5 => hb ⟨c1.symm, c2.symm, c3.symm, c4.symm, c5.symm⟩)))
          · exact .inr (.inr (.inr (.inl c4)))
        · exact .inr (.inr (.inl c3))
      · exact .inr (.inl c2)
    · exact .inl c1
  rw [hb]
  simp only [beq_self_eq_true, Bool.not_true, Bool.or_self, Bool.false_eq_true, if_false]
  have hj : ∀ y : Bool, y = decide (kd = 1 ∨ kd = 2) → ∃ r, portcullisref25_Word.j0 (k + 40) kd y kd d a b i = some r ∧ IsW kd d a b i r := by
    intro y hy
    rw [portcullisref25_Word.j0]
    by_cases c12 : kd = 1 ∨ kd = 2
    · rw [if_pos (by rw [hy, decide_eq_true_iff]; exact c12)]
      have no : ∀ h : ¬ (b = 0 ∧ 0 ≤ d ∧ d ≤ 30 ∧ 0 ≤ a ∧ a ≤ 3 ∧ 0 ≤ i ∧ i ≤ 65535), IsW kd d a b i (-1) := fun h => .inr ⟨by omega, fun v hv => h (enc_mov c12 hv)⟩
      by_cases h1 : d < 0
      · rw [if_pos h1]; exact ⟨_, rfl, no (by omega)⟩
      rw [if_neg h1]
      by_cases h2 : d > 30
      · rw [if_pos h2]; exact ⟨_, rfl, no (by omega)⟩
      rw [if_neg h2]
      by_cases h3 : a < 0
      · rw [if_pos h3]; exact ⟨_, rfl, no (by omega)⟩
      rw [if_neg h3]
      by_cases h4 : a > 3
      · rw [if_pos h4]; exact ⟨_, rfl, no (by omega)⟩
      rw [if_neg h4]
      by_cases h5 : i < 0
      · rw [if_pos h5]; exact ⟨_, rfl, no (by omega)⟩
      rw [if_neg h5]
      by_cases h6 : i > 65535
      · rw [if_pos h6]; exact ⟨_, rfl, no (by omega)⟩
      rw [if_neg h6]
      unfold bareSpec at hb
      rw [if_pos (by omega)] at hb
      simp only [Prod.mk.injEq, true_and, and_true] at hb
      subst hb
      refine ⟨3531603968 + (kd - 1) * 536870912 + d + i * 32 + a * 2097152, ?_, .inl (.mov kd d a i c12 (by omega) (by omega) (by omega) (by omega) (by omega) (by omega))⟩
      rcases c12 with rfl | rfl <;> simp [wrap64, rd] <;> omega
    rw [if_neg (by rw [hy, decide_eq_true_iff]; exact c12)]
    by_cases c23 : kd = 23
    · rw [if_pos c23]
      subst c23
      simp [bareSpec] at hb
      obtain ⟨rfl, rfl, rfl⟩ := hb
      by_cases h1 : i < -33554432
      · rw [if_pos h1]; exact ⟨_, rfl, .inr ⟨by omega, fun v hv => by have := enc_rest (by omega) hv; omega⟩⟩
      rw [if_neg h1]
      by_cases h2 : i ≥ 33554432
      · rw [if_pos h2]; exact ⟨_, rfl, .inr ⟨by omega, fun v hv => by have := enc_rest (by omega) hv; omega⟩⟩
      rw [if_neg h2, and26]
      exact ⟨_, rfl, .inl ((Enc.jump i (by omega) (by omega)).cast (by unfold wrap64; omega))⟩
    rw [if_neg c23]
    by_cases c24 : kd = 24
    · rw [if_pos c24]
      subst c24
      simp [bareSpec] at hb
      obtain ⟨rfl, rfl⟩ := hb
      by_cases h1 : i < -262144
      · rw [if_pos h1]; exact ⟨_, rfl, .inr ⟨by omega, fun v hv => by have := enc_rest (by omega) hv; omega⟩⟩
      rw [if_neg h1]
      by_cases h2 : i ≥ 262144
      · rw [if_pos h2]; exact ⟨_, rfl, .inr ⟨by omega, fun v hv => by have := enc_rest (by omega) hv; omega⟩⟩
      rw [if_neg h2, index_f _ _ _ (by simp) (by simp), Option.bind_some, and19]
      have hm := armBit_mem d
      by_cases h3 : armBit d [0, 1, 2, 3, 8, 9, 10, 11, 12, 13] 0 < 0
      · rw [if_pos h3]
        exact ⟨_, rfl, .inr ⟨by omega, fun v hv => by have := enc_rest (by omega) hv; omega⟩⟩
      · rw [if_neg h3]
        have hm' := hm.1 (by omega)
        exact ⟨_, rfl, .inl ((Enc.jumps d i (by omega) (by omega) hm').cast (by unfold wrap64; omega))⟩
    rw [if_neg c24]
    by_cases c25 : kd = 25
    · rw [if_pos c25]
      subst c25
      simp [bareSpec] at hb
      obtain ⟨rfl, rfl, rfl⟩ := hb
      by_cases h1 : i < 0
      · rw [if_pos h1]; exact ⟨_, rfl, .inr ⟨by omega, fun v hv => by have := enc_rest (by omega) hv; omega⟩⟩
      rw [if_neg h1]
      by_cases h2 : i > 65535
      · rw [if_pos h2]; exact ⟨_, rfl, .inr ⟨by omega, fun v hv => by have := enc_rest (by omega) hv; omega⟩⟩
      rw [if_neg h2]
      exact ⟨_, rfl, .inl ((Enc.svc i (by omega) (by omega)).cast (by unfold wrap64; omega))⟩
    rw [if_neg c25]
    by_cases c26 : kd = 26
    · rw [if_pos c26]
      subst c26
      simp [bareSpec] at hb
      obtain ⟨rfl, rfl, rfl, rfl⟩ := hb
      exact ⟨_, rfl, .inl .ret⟩
    rw [if_neg c26, reg3 (k + 35), Option.bind_some]
    by_cases hr : Reg d ∧ Reg a ∧ Reg b
    · rw [if_pos (by rw [decide_eq_true_iff]; exact hr)]
      obtain ⟨r, h1, h2⟩ := word_isW (k + 9) kd d a b i (by omega) hb hr.1 hr.2.1 hr.2.2
      exact ⟨r, by rw [h1]; rfl, h2⟩
    · rw [if_neg (by rw [decide_eq_true_iff]; exact hr)]
      refine ⟨_, rfl, .inr ⟨by omega, fun v hv => hr (enc_regs ?_ hv)⟩⟩
      have := hv.kd
      omega
  by_cases c1 : kd = 1
  · rw [if_pos c1]; exact hj _ (by rw [Bool.eq_iff_iff]; simp; omega)
  · rw [if_neg c1]; exact hj _ (by rw [Bool.eq_iff_iff]; simp; omega)
end Go.Proofs.Ythkbncoklgpobaa
