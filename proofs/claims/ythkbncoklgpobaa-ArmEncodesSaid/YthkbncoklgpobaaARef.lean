/- The reference's word is the relation's, both ways; no condition. -/
import Derived.Test.YthkbncoklgpobaaAEnc3
import Derived.Test.YthkbncoklgpobaaQArmDecodesx8
set_option linter.unusedVariables false
set_option linter.unusedSimpArgs false
namespace Go.Proofs.Ythkbncoklgpobaa
open Go.RowKit
open Go.Proofs.YthkbncoklgpobaaW.PrintWords Go.Proofs.YthkbncoklgpobaaW.PrintLast Go.Proofs.YthkbncoklgpobaaW.PrintMore
open QArmDecodes

def bareSpec (kd d a b i : Int) : Int × Int × Int × Int × Int :=
  if kd = 1 ∨ kd = 2 ∨ kd = 15 ∨ kd = 16 ∨ kd = 17 then (kd, d, a, 0, i)
  else if kd = 21 ∨ kd = 22 then (kd, 0, a, b, 0)
  else if kd = 23 ∨ kd = 25 then (kd, 0, 0, 0, i)
  else if kd = 24 then (kd, d, 0, 0, i)
  else if kd = 9 ∨ kd = 18 ∨ kd = 19 ∨ kd = 20 then (kd, d, a, b, i)
  else if kd = 26 then (kd, 0, 0, 0, 0)
  else (kd, d, a, b, 0)
theorem bare_eq (k : Nat) (kd d a b i : Int) : portcullisref25_bare.f (k + 10) kd d a b i = some (bareSpec kd d a b i) := by
  have key : ∀ c : Int, (kd == c) = decide (kd = c) := fun c => by rw [Bool.eq_iff_iff]; simp
  unfold portcullisref25_bare.f bareSpec
  simp only [portcullisref25_bare.j0, portcullisref25_bare.j1, portcullisref25_bare.j2, portcullisref25_bare.j3, key, decide_eq_true_iff]
  by_cases c1 : kd = 1
  · simp [c1]
  by_cases c2 : kd = 2
  · simp [c2]
  by_cases c15 : kd = 15
  · simp [c15]
  by_cases c16 : kd = 16
  · simp [c16]
  by_cases c17 : kd = 17
  · simp [c17]
  by_cases c21 : kd = 21
  · simp [c21]
  by_cases c22 : kd = 22
  · simp [c22]
  by_cases c23 : kd = 23
  · simp [c23]
  by_cases c25 : kd = 25
  · simp [c25]
  by_cases c24 : kd = 24
  · simp [c24]
  by_cases c9 : kd = 9
  · simp [c9]
  by_cases c18 : kd = 18
  · simp [c18]
  by_cases c19 : kd = 19
  · simp [c19]
  by_cases c20 : kd = 20
  · simp [c20]
  by_cases c26 : kd = 26
  · simp [c26]
  simp [c1, c2, c15, c16, c17, c21, c22, c23, c24, c25, c26, c9, c18, c19, c20]
theorem index_eq (n : Int) (l : List Int) (hl : l.length ≤ 100) : ∀ (k i : Nat), i ≤ l.length → l.length < i + k → portcullisref25_index.l0 k n l i = some (armBit n (l.drop i) i) := by
  intro k
  induction k with
  | zero => intro i hi hk; omega
  | succ k ih =>
    intro i hi hk
    rw [portcullisref25_index.l0]
    by_cases h : i < l.length
    · rw [if_pos (by omega), if_pos (by omega)]
      have e : rd l i = l[i] := by simp [rd, h]
      rw [List.drop_eq_getElem_cons h, armBit, e]
      by_cases hx : l[i] = n
      · rw [if_pos hx, if_pos hx]
      · rw [if_neg hx, if_neg hx]
        have hw : wrap64 ((i : Int) + 1) = ((i + 1 : Nat) : Int) := by unfold wrap64; omega
        rw [hw, ih (i + 1) (by omega) (by omega)]
        rfl
    · rw [if_neg (by omega)]
      rw [List.drop_eq_nil_of_le (by omega)]
      rfl
theorem index_f (k : Nat) (n : Int) (l : List Int) (hl : l.length < k) (hl2 : l.length ≤ 100) : portcullisref25_index.f k n l = some (armBit n l 0) := by
  have := index_eq n l hl2 k 0 (by omega) (by omega)
  simpa [portcullisref25_index.f] using this
instance (n : Int) : Decidable (Reg n) := by unfold Reg; infer_instance
theorem reg_eq (l : List Int) (hl : l.length ≤ 100) : ∀ (k i : Nat), i ≤ l.length → l.length < i + k → portcullisref25_reg.l0 k l i = some (decide (∀ x ∈ l.drop i, Reg x)) := by
  intro k
  induction k with
  | zero => intro i hi hk; omega
  | succ k ih =>
    intro i hi hk
    rw [portcullisref25_reg.l0]
    by_cases h : i < l.length
    · rw [if_pos (by omega), if_pos (by omega)]
      have e : rd l i = l[i] := by simp [rd, h]
      rw [List.drop_eq_getElem_cons h, e]
      have hw : wrap64 ((i : Int) + 1) = ((i + 1 : Nat) : Int) := by unfold wrap64; omega
      rw [hw, ih (i + 1) (by omega) (by omega)]
      by_cases h1 : l[i] < 0
      · rw [if_pos h1]
        congr 1
        rw [eq_comm, decide_eq_false_iff_not]
        intro hx
        have := hx l[i] List.mem_cons_self
        unfold Reg at this; omega
      rw [if_neg h1]
      by_cases h2 : l[i] > 31
      · rw [if_pos h2]
        congr 1
        rw [eq_comm, decide_eq_false_iff_not]
        intro hx
        have := hx l[i] List.mem_cons_self
        unfold Reg at this; omega
      rw [if_neg h2]
      congr 1
      rw [Bool.eq_iff_iff, decide_eq_true_iff, decide_eq_true_iff]
      simp only [List.mem_cons, forall_eq_or_imp]
      exact ⟨fun h => ⟨⟨by omega, by omega⟩, h⟩, fun h => h.2⟩
    · rw [if_neg (by omega)]
      rw [List.drop_eq_nil_of_le (by omega)]
      simp
theorem reg_f (k : Nat) (l : List Int) (hl : l.length < k) (hl2 : l.length ≤ 100) : portcullisref25_reg.f k l = some (decide (∀ x ∈ l, Reg x)) := by
  have := reg_eq l hl2 k 0 (by omega) (by omega)
  simpa [portcullisref25_reg.f] using this
theorem rthree (t kd d a b i : Int) (h0 : 0 ≤ t) (h1 : t < 4611686018427387904) (hd : Reg d) (ha : Reg a) (hb : Reg b) : portcullisref25_three.f t kd d a b i = some (t + d + a * 32 + b * 65536) := by
  unfold portcullisref25_three.f Reg at *
  congr 1
  unfold wrap64
  omega
theorem reg3 (k : Nat) (d a b : Int) : portcullisref25_reg.f (k + 4) [d, a, b] = some (decide (Reg d ∧ Reg a ∧ Reg b)) := by
  rw [reg_f _ _ (by simp) (by simp)]; simp
theorem reg1 (k : Nat) (d : Int) : portcullisref25_reg.f (k + 4) [d] = some (decide (Reg d)) := by
  rw [reg_f _ _ (by simp) (by simp)]; simp
theorem word_three' (k : Nat) (kd d a b i : Int) (h3 : t3 kd ≠ 0) (hd : Reg d) (ha : Reg a) (hb : Reg b) : portcullisref25_word.f (k + 30) kd d a b i = some (t3 kd + d + a * 32 + b * 65536) := by
  unfold portcullisref25_word.f
  simp only [portcullisref25_word.j0, portcullisref25_word.j1]
  rcases t3_cases kd h3 with ⟨rfl, e⟩ | ⟨rfl, e⟩ | ⟨rfl, e⟩ | ⟨rfl, e⟩ | ⟨rfl, e⟩ | ⟨rfl, e⟩ | ⟨rfl, e⟩ | ⟨rfl, e⟩ | ⟨rfl, e⟩ | ⟨rfl, e⟩ | ⟨rfl, e⟩
  all_goals rw [e]
  all_goals simp [wrap64, rd]
  all_goals rw [rthree _ _ _ _ _ _ (by omega) (by omega) hd ha hb]
theorem word_msub' (k : Nat) (d a b i : Int) (hd : Reg d) (ha : Reg a) (hb : Reg b) : portcullisref25_word.f (k + 30) 9 d a b i = some (if Reg i then 2600501248 + d + a * 32 + b * 65536 + i * 1024 else -1) := by
  unfold portcullisref25_word.f
  simp only [portcullisref25_word.j0, reg1]
  simp
  by_cases hi : Reg i
  · rw [if_pos hi, if_pos hi, rthree _ _ _ _ _ _ (by omega) (by omega) hd ha hb, Option.bind_some]
    unfold Reg wrap64 at *
    congr 1
    omega
  · rw [if_neg hi, if_neg hi]
theorem word_xt' (k : Nat) (kd d a b i : Int) (hk : kd = 15 ∨ kd = 16) (hd : Reg d) (ha : Reg a) : portcullisref25_word.f (k + 30) kd d a b i = some (if i = 8 ∨ i = 16 ∨ i = 32 then 2470445056 + (kd - 15) * 1073741824 + (i - 1) * 1024 + d + a * 32 else -1) := by
  unfold portcullisref25_word.f
  simp only [portcullisref25_word.j0, portcullisref25_word.j1, portcullisref25_word.j2]
  have hix : portcullisref25_index.f (k + 27) i [8, 16, 32] = some (armBit i [8, 16, 32] 0) := index_f _ _ _ (by simp) (by simp)
  unfold Reg at *
  by_cases hi : i = 8 ∨ i = 16 ∨ i = 32
  · rw [if_pos hi]
    rcases hk with rfl | rfl <;> rcases hi with rfl | rfl | rfl <;> simp [hix, bit3, wrap64, rd] <;> omega
  · rw [if_neg hi]
    have e : armBit i [8, 16, 32] 0 = -1 := by rw [bit3, if_neg (by omega), if_neg (by omega), if_neg (by omega)]
    rw [e] at hix
    rcases hk with rfl | rfl <;> simp [hix]
theorem word_rev' (k : Nat) (d a b i : Int) (hd : Reg d) (ha : Reg a) : portcullisref25_word.f (k + 30) 17 d a b i = some (if i = 16 then 3670017024 + d + a * 32 else if i = 32 then 3670018048 + d + a * 32 else if i = 64 then 3670019072 + d + a * 32 else -1) := by
  unfold portcullisref25_word.f
  simp only [portcullisref25_word.j0, portcullisref25_word.j1, portcullisref25_word.j2]
  have hix : portcullisref25_index.f (k + 27) i [16, 32, 64] = some (armBit i [16, 32, 64] 0) := index_f _ _ _ (by simp) (by simp)
  unfold Reg at *
  by_cases c1 : i = 16
  · subst c1; simp [hix, bit3, wrap64]; omega
  by_cases c2 : i = 32
  · subst c2; simp [hix, bit3, wrap64]; omega
  by_cases c3 : i = 64
  · subst c3; simp [hix, bit3, wrap64]; omega
  have e : armBit i [16, 32, 64] 0 = -1 := by rw [bit3, if_neg (by omega), if_neg (by omega), if_neg (by omega)]
  rw [e] at hix
  simp [hix, c1, c2, c3]
theorem word_move' (k : Nat) (kd d a b i : Int) (hk : kd = 18 ∨ kd = 19 ∨ kd = 20) (hd : Reg d) (ha : Reg a) (hb : Reg b) : portcullisref25_word.f (k + 30) kd d a b i =
    some (if a = 31 ∨ mvK kd i = -1 then -1 else mvBase kd + d + a * 32 + b * 65536 + mvK kd i * 1073741824) := by
  have hix : portcullisref25_index.f (k + 26) i [1, 2, 4, 8] = some (armBit i [1, 2, 4, 8] 0) := index_f _ _ _ (by simp) (by simp)
  have hb4 := bit4 i 1 2 4 8
  have hr : armBit i [1, 2, 4, 8] 0 = -1 ∨ (0 ≤ armBit i [1, 2, 4, 8] 0 ∧ armBit i [1, 2, 4, 8] 0 ≤ 3) := by rw [hb4]; (repeat' split) <;> omega
  unfold mvK
  generalize armBit i [1, 2, 4, 8] 0 = q at *
  have hw : ∀ t : Int, 0 ≤ t → t < 1000000000 → ∀ q : Int, 0 ≤ q → q ≤ 3 → portcullisref25_three.f (wrap64 (t + wrap64 (q * 1073741824))) kd d a b i = some (t + d + a * 32 + b * 65536 + q * 1073741824) := by
    intro t h0 h1 q h2 h3
    have : wrap64 (t + wrap64 (q * 1073741824)) = t + q * 1073741824 := by unfold wrap64; omega
    rw [this, rthree _ _ _ _ _ _ (by omega) (by omega) hd ha hb]
    congr 1
    omega
  unfold portcullisref25_word.f
  simp only [portcullisref25_word.j0, portcullisref25_word.j1, portcullisref25_word.j2, portcullisref25_word.j3, portcullisref25_word.j4]
  by_cases ha31 : a = 31
  · rcases hk with rfl | rfl | rfl <;> simp [hix, ha31]
  by_cases hq : q = -1
  · rcases hk with rfl | rfl | rfl <;> simp [hix, hq, ha31]
  have hq0 : 0 ≤ q ∧ q ≤ 3 := by omega
  have hqn : ¬ q < 0 := by omega
  rcases hk with rfl | rfl | rfl
  · have := hw 945842176 (by omega) (by omega) q hq0.1 hq0.2
    simp [hix, ha31, hqn, hq, mvBase, this]
  · by_cases h3 : q = 3
    · subst h3
      simp [hix, ha31]
    · have := hw 950036480 (by omega) (by omega) q hq0.1 hq0.2
      simp [hix, ha31, hqn, hq, h3, mvBase, this]
  · have := hw 941647872 (by omega) (by omega) q hq0.1 hq0.2
    simp [hix, ha31, hqn, hq, mvBase, this]
theorem word_cmp' (k : Nat) (kd d a b i : Int) (hk : kd = 21 ∨ kd = 22) (ha : Reg a) (hb : Reg b) : portcullisref25_word.f (k + 30) kd d a b i = some (3942645791 - (kd - 21) * 16777216 + a * 32 + b * 65536) := by
  unfold portcullisref25_word.f
  simp only [portcullisref25_word.j0, portcullisref25_word.j1, portcullisref25_word.j2, portcullisref25_word.j3]
  unfold Reg at *
  rcases hk with rfl | rfl <;> simp [wrap64] <;> omega
theorem word_other' (k : Nat) (kd d a b i : Int) (hk : kd < 1 ∨ 26 < kd) : portcullisref25_word.f (k + 30) kd d a b i = some (-1) := by
  have key : ∀ c : Int, (kd == c) = decide (kd = c) := fun c => by rw [Bool.eq_iff_iff]; simp
  have n : ∀ c : Int, 1 ≤ c → c ≤ 26 → ¬ kd = c := fun c _ _ => by omega
  unfold portcullisref25_word.f
  simp only [portcullisref25_word.j0, portcullisref25_word.j1, portcullisref25_word.j2, portcullisref25_word.j3, key, decide_eq_true_iff]
  rw [if_neg (n 3 (by omega) (by omega)), if_neg (n 4 (by omega) (by omega)), if_neg (n 5 (by omega) (by omega)), if_neg (n 6 (by omega) (by omega)), if_neg (n 7 (by omega) (by omega))]
  simp [n 8 (by omega) (by omega), n 9 (by omega) (by omega), n 10 (by omega) (by omega), n 11 (by omega) (by omega), n 12 (by omega) (by omega), n 13 (by omega) (by omega), n 14 (by omega) (by omega), n 15 (by omega) (by omega), n 16 (by omega) (by omega), n 17 (by omega) (by omega), n 18 (by omega) (by omega), n 19 (by omega) (by omega), n 20 (by omega) (by omega), n 21 (by omega) (by omega), n 22 (by omega) (by omega)]
end Go.Proofs.Ythkbncoklgpobaa
