/- What the reference decodes a word to; no condition. -/
import Derived.Test.YthkbncoklgpobaaARef2
import Derived.Test.YthkbncoklgpobaaAGuess2
import Derived.Test.YthkbncoklgpobaaQArmDecodesx9
set_option linter.unusedVariables false
set_option linter.unusedSimpArgs false
namespace Go.Proofs.Ythkbncoklgpobaa
open Go.RowKit
open Go.Proofs.YthkbncoklgpobaaW.PrintWords Go.Proofs.YthkbncoklgpobaaW.PrintLast Go.Proofs.YthkbncoklgpobaaW.PrintMore
open QArmDecodes

def immsOf (q w : Int) : List Int :=
  if q = 1 ∨ q = 2 ∨ q = 25 then [w / 32 % 65536]
  else if q = 9 then [w / 1024 % 32]
  else if q = 15 ∨ q = 16 ∨ q = 17 then [8, 16, 32, 64]
  else if q = 18 ∨ q = 19 ∨ q = 20 then [1, 2, 4, 8]
  else if q = 23 then [w % 67108864, wrap64 (w % 67108864 - 67108864)]
  else if q = 24 then [w / 32 % 524288, wrap64 (w / 32 % 524288 - 524288)]
  else [0]
def candOf (q w m : Int) : Int × Int × Int × Int × Int :=
  bareSpec q (if q = 24 then w % 16 else w % 32) (if q = 1 ∨ q = 2 then w / 2097152 % 4 else w / 32 % 32) (w / 65536 % 32) m
def decL1 (k : Nat) (w q : Int) (l : List Int) (j : Int) := portcullisref25_Decode.l1 k w (w % 32) (w / 32 % 32) (w / 65536 % 32) q l j
def decL0 (k : Nat) (w q : Int) := portcullisref25_Decode.l0 k w (w % 32) (w / 32 % 32) (w / 65536 % 32) q
theorem l0_unf (k : Nat) (w q : Int) (hq : q ≤ 26) : ∃ k', k ≤ k' ∧ decL0 (k + 7) w q = decL1 k' w q (immsOf q w) 0 := by
  have key : ∀ c : Int, (q == c) = decide (q = c) := fun c => by rw [Bool.eq_iff_iff]; simp
  unfold decL0 decL1 immsOf
  simp only [portcullisref25_Decode.l0, portcullisref25_Decode.j2, portcullisref25_Decode.j3, portcullisref25_Decode.j4, portcullisref25_Decode.j5, key, decide_eq_true_iff, and16, and31, and26, and19]
  rw [if_pos hq]
  by_cases c1 : q = 1
  · exact ⟨k + 4, by omega, by simp [c1]⟩
  by_cases c2 : q = 2
  · exact ⟨k + 4, by omega, by simp [c2]⟩
  by_cases c25 : q = 25
  · exact ⟨k + 4, by omega, by simp [c25]⟩
  by_cases c9 : q = 9
  · exact ⟨k + 4, by omega, by simp [c9]⟩
  by_cases c15 : q = 15
  · exact ⟨k + 3, by omega, by simp [c15]⟩
  by_cases c16 : q = 16
  · exact ⟨k + 3, by omega, by simp [c16]⟩
  by_cases c17 : q = 17
  · exact ⟨k + 3, by omega, by simp [c17]⟩
  by_cases c18 : q = 18
  · exact ⟨k + 2, by omega, by simp [c18]⟩
  by_cases c19 : q = 19
  · exact ⟨k + 2, by omega, by simp [c19]⟩
  by_cases c20 : q = 20
  · exact ⟨k + 2, by omega, by simp [c20]⟩
  by_cases c23 : q = 23
  · exact ⟨k + 2, by omega, by simp [c23]⟩
  by_cases c24 : q = 24
  · exact ⟨k + 2, by omega, by simp [c24]⟩
  exact ⟨k + 2, by omega, by simp [c1, c2, c25, c9, c15, c16, c17, c18, c19, c20, c23, c24]⟩
theorem l1_unf (k : Nat) (w q : Int) (l : List Int) (j : Nat) (hj : j < l.length) (hl : l.length ≤ 100) : ∃ r, portcullisref25_Word.f (k + 40) (candOf q w l[j]).1 (candOf q w l[j]).2.1 (candOf q w l[j]).2.2.1 (candOf q w l[j]).2.2.2.1 (candOf q w l[j]).2.2.2.2 = some r ∧
    decL1 (k + 44) w q l j = if r = w then some ((candOf q w l[j]).1, (candOf q w l[j]).2.1, (candOf q w l[j]).2.2.1, (candOf q w l[j]).2.2.2.1, (candOf q w l[j]).2.2.2.2, 0) else decL1 (k + 40) w q l ((j + 1 : Nat) : Int) := by
  obtain ⟨r, hr, _⟩ := Word_isW k (candOf q w l[j]).1 (candOf q w l[j]).2.1 (candOf q w l[j]).2.2.1 (candOf q w l[j]).2.2.2.1 (candOf q w l[j]).2.2.2.2
  refine ⟨r, hr, ?_⟩
  unfold decL1
  have key : ∀ c : Int, (q == c) = decide (q = c) := fun c => by rw [Bool.eq_iff_iff]; simp
  have e : rd l j = l[j] := by simp [rd, hj]
  have hw : wrap64 ((j : Int) + 1) = ((j + 1 : Nat) : Int) := by unfold wrap64; omega
  rw [portcullisref25_Decode.l1, if_pos (by omega), if_pos (by omega), e]
  simp only [portcullisref25_Decode.j7, portcullisref25_Decode.j8, portcullisref25_Decode.j9, key, decide_eq_true_iff, and15, and3, hw]
  have hc : ∀ dd aa, dd = (if q = 24 then w % 16 else w % 32) → aa = (if q = 1 ∨ q = 2 then w / 2097152 % 4 else w / 32 % 32) →
      (portcullisref25_bare.f (k + 40) q dd aa (w / 65536 % 32) l[j]).bind (fun bt238 => (portcullisref25_Word.f (k + 40) bt238.1 bt238.2.1 bt238.2.2.1 bt238.2.2.2.1 bt238.2.2.2.2).bind fun t243 => (if t243 = w then (some (bt238.1, bt238.2.1, bt238.2.2.1, bt238.2.2.2.1, bt238.2.2.2.2, (0 : Int))) else (portcullisref25_Decode.l1 (k + 40) w (w % 32) (w / 32 % 32) (w / 65536 % 32) q l ((j + 1 : Nat) : Int)))) =
      if r = w then some ((candOf q w l[j]).1, (candOf q w l[j]).2.1, (candOf q w l[j]).2.2.1, (candOf q w l[j]).2.2.2.1, (candOf q w l[j]).2.2.2.2, 0) else portcullisref25_Decode.l1 (k + 40) w (w % 32) (w / 32 % 32) (w / 65536 % 32) q l ((j + 1 : Nat) : Int) := by
    intro dd aa h1 h2
    subst h1 h2
    rw [bare_eq (k + 30), Option.bind_some]
    show (portcullisref25_Word.f (k + 40) (candOf q w l[j]).1 (candOf q w l[j]).2.1 (candOf q w l[j]).2.2.1 (candOf q w l[j]).2.2.2.1 (candOf q w l[j]).2.2.2.2).bind _ = _
    rw [hr, Option.bind_some]
    rfl
  by_cases c1 : q = 1
  · have := hc (w % 32) (w / 2097152 % 4) (by rw [if_neg (by omega)]) (by rw [if_pos (by omega)])
    subst c1
    simpa using this
  by_cases c2 : q = 2
  · have := hc (w % 32) (w / 2097152 % 4) (by rw [if_neg (by omega)]) (by rw [if_pos (by omega)])
    subst c2
    simpa using this
  rw [if_neg c1, if_neg c2]
  by_cases c24 : q = 24
  · have := hc (w % 16) (w / 32 % 32) (by rw [if_pos c24]) (by rw [if_neg (by omega)])
    rw [if_pos c24]
    exact this
  · have := hc (w % 32) (w / 32 % 32) (by rw [if_neg c24]) (by rw [if_neg (by omega)])
    rw [if_neg c24]
    exact this
abbrev Six := Int × Int × Int × Int × Int × Int
def six (p : Int × Int × Int × Int × Int) : Six := (p.1, p.2.1, p.2.2.1, p.2.2.2.1, p.2.2.2.2, 0)
def EncP (p : Int × Int × Int × Int × Int) (w : Int) : Prop := Enc p.1 p.2.1 p.2.2.1 p.2.2.2.1 p.2.2.2.2 w
theorem enc_inj {p q : Int × Int × Int × Int × Int} {w : Int} (hp : EncP p w) (hq : EncP q w) : p = q := by
  have h1 := guess_enc hp 0
  have h2 := guess_enc hq 0
  rw [h1] at h2
  exact Option.some.inj h2
theorem l1_go (w q : Int) (l : List Int) (hl : l.length ≤ 100) (hw : 0 ≤ w) (R : Six) (F : Nat) (hn : ∀ k, F ≤ k → decL0 k w (wrap64 (q + 1)) = some R) (hm : ∀ m ∈ l, EncP (candOf q w m) w → six (candOf q w m) = R) :
    ∀ (n j k : Nat), j + n = l.length → F + 44 + 4 * n ≤ k → decL1 k w q l j = some R := by
  intro n
  induction n with
  | zero =>
    intro j k hj hk
    obtain ⟨k, rfl⟩ : ∃ m, k = m + 1 := ⟨k - 1, by omega⟩
    unfold decL1
    rw [portcullisref25_Decode.l1, if_neg (by omega)]
    exact hn k (by omega)
  | succ n ih =>
    intro j k hj hk
    obtain ⟨k, rfl⟩ : ∃ m, k = m + 44 := ⟨k - 44, by omega⟩
    obtain ⟨r, h1, h2⟩ := l1_unf k w q l j (by omega) hl
    rw [h2]
    by_cases c : r = w
    · rw [if_pos c]
      subst c
      have := hm l[j] (List.getElem_mem _) (by
        obtain ⟨r', h3, h4⟩ := Word_isW k (candOf q r l[j]).1 (candOf q r l[j]).2.1 (candOf q r l[j]).2.2.1 (candOf q r l[j]).2.2.2.1 (candOf q r l[j]).2.2.2.2
        rw [h1] at h3
        obtain rfl := Option.some.inj h3
        exact h4.of_nonneg hw)
      rw [← this]; rfl
    · rw [if_neg c]
      exact ih (j + 1) (k + 40) (by omega) (by omega)
theorem l1_hit (w q : Int) (l : List Int) (hl : l.length ≤ 100) (hw : 0 ≤ w) (p : Int × Int × Int × Int × Int) (hp : EncP p w) :
    ∀ (n j k : Nat), j + n = l.length → 44 + 4 * n ≤ k → (∃ m ∈ l.drop j, candOf q w m = p) → decL1 k w q l j = some (six p) := by
  intro n
  induction n with
  | zero =>
    intro j k hj hk ⟨m, hm, _⟩
    rw [List.drop_eq_nil_of_le (by omega)] at hm
    simp at hm
  | succ n ih =>
    intro j k hj hk ⟨m, hm, he⟩
    obtain ⟨k, rfl⟩ : ∃ m, k = m + 44 := ⟨k - 44, by omega⟩
    obtain ⟨r, h1, h2⟩ := l1_unf k w q l j (by omega) hl
    obtain ⟨r', h3, h4⟩ := Word_isW k (candOf q w l[j]).1 (candOf q w l[j]).2.1 (candOf q w l[j]).2.2.1 (candOf q w l[j]).2.2.2.1 (candOf q w l[j]).2.2.2.2
    rw [h1] at h3
    obtain rfl := Option.some.inj h3
    rw [h2]
    by_cases c : r = w
    · rw [if_pos c]
      have e : candOf q w l[j] = p := enc_inj (by rw [← c] at hw; have := h4.of_nonneg hw; rw [c] at this; exact this) hp
      rw [e]; rfl
    · rw [if_neg c]
      refine ih (j + 1) (k + 40) (by omega) (by omega) ⟨m, ?_, he⟩
      rw [List.drop_eq_getElem_cons (by omega)] at hm
      rcases List.mem_cons.1 hm with rfl | hm
      · refine absurd (h4.of_enc ?_) c
        rw [he]; exact hp
      · exact hm
theorem imms_len (q w : Int) : (immsOf q w).length ≤ 4 := by
  unfold immsOf
  (repeat' split) <;> simp
/-- An instruction is among those that are tried for its word. -/
theorem enc_cand {kd d a b i w : Int} (h : Enc kd d a b i w) : ∃ m ∈ immsOf kd w, candOf kd w m = (kd, d, a, b, i) := by
  have hb := enc_bare h
  have hr := h.range
  suffices hs : i ∈ immsOf kd w ∧ candOf kd w i = bareSpec kd d a b i from ⟨i, hs.1, by rw [hs.2, hb]⟩
  unfold candOf
  generalize hz : (0 : Int) = z at h
  cases h with
  | three _ _ _ _ h3 hd ha hb =>
    have hc := t3_cases kd h3
    subst hz
    unfold Reg at *
    refine ⟨by unfold immsOf; rw [if_neg (by omega), if_neg (by omega), if_neg (by omega), if_neg (by omega), if_neg (by omega), if_neg (by omega)]; simp, ?_⟩
    rw [if_neg (by omega), if_neg (by omega)]
    congr 1 <;> omega
  | mov _ _ _ _ hk =>
    subst hz
    refine ⟨by unfold immsOf; rw [if_pos (by omega)]; simp; omega, ?_⟩
    rw [if_neg (by omega), if_pos (by omega)]
    unfold bareSpec
    rw [if_pos (by omega), if_pos (by omega)]
    simp only [Prod.mk.injEq, true_and, and_true]
    omega
  | msub _ _ _ _ h1 h2 h3 h4 =>
    unfold Reg at *
    refine ⟨by unfold immsOf; rw [if_neg (by omega), if_pos rfl]; simp; omega, ?_⟩
    rw [if_neg (by omega), if_neg (by omega)]
    congr 1 <;> omega
  | xt _ _ _ _ hk hi h1 h2 =>
    subst hz
    unfold Reg at *
    refine ⟨by unfold immsOf; rw [if_neg (by omega), if_neg (by omega), if_pos (by omega)]; simp; omega, ?_⟩
    rw [if_neg (by omega), if_neg (by omega)]
    unfold bareSpec
    rw [if_pos (by omega), if_pos (by omega)]
    simp only [Prod.mk.injEq, true_and, and_true]
    omega
  | rev _ _ _ k' hi h1 h2 =>
    subst hz
    unfold Reg at *
    refine ⟨by unfold immsOf; rw [if_neg (by omega), if_neg (by omega), if_pos (by omega)]; simp; omega, ?_⟩
    rw [if_neg (by omega), if_neg (by omega)]
    unfold bareSpec
    rw [if_pos (by omega), if_pos (by omega)]
    simp only [Prod.mk.injEq, true_and, and_true]
    omega
  | move _ _ _ _ _ k' hk hi h1 h2 h3 h4 =>
    have hm := mvBase_cases kd hk
    unfold Reg at *
    refine ⟨by unfold immsOf; rw [if_neg (by omega), if_neg (by omega), if_neg (by omega), if_pos (by omega)]; simp; omega, ?_⟩
    rw [if_neg (by omega), if_neg (by omega)]
    congr 1 <;> omega
  | cmp _ _ _ hk h1 h2 =>
    subst hz
    unfold Reg at *
    refine ⟨by unfold immsOf; rw [if_neg (by omega), if_neg (by omega), if_neg (by omega), if_neg (by omega), if_neg (by omega), if_neg (by omega)]; simp, ?_⟩
    rw [if_neg (by omega), if_neg (by omega)]
    unfold bareSpec
    rw [if_neg (by omega), if_pos (by omega), if_neg (by omega), if_pos (by omega)]
    simp only [Prod.mk.injEq, true_and, and_true]
    omega
  | jump =>
    subst hz
    refine ⟨by unfold immsOf; rw [if_neg (by omega), if_neg (by omega), if_neg (by omega), if_neg (by omega), if_pos (by omega)]; simp [wrap64]; omega, ?_⟩
    rw [if_neg (by omega), if_neg (by omega)]
    rfl
  | jumps =>
    subst hz
    refine ⟨by unfold immsOf; rw [if_neg (by omega), if_neg (by omega), if_neg (by omega), if_neg (by omega), if_neg (by omega), if_pos (by omega)]; simp [wrap64]; omega, ?_⟩
    rw [if_pos (by omega), if_neg (by omega)]
    unfold bareSpec
    simp
    omega
  | svc =>
    subst hz
    refine ⟨by unfold immsOf; rw [if_pos (by omega)]; simp; omega, ?_⟩
    rw [if_neg (by omega), if_neg (by omega)]
    rfl
  | ret =>
    subst hz
    refine ⟨by decide, by decide⟩
theorem l0_found {p : Int × Int × Int × Int × Int} {w : Int} (h : EncP p w) : ∀ (n : Nat) (q : Int) (k : Nat), 1 ≤ q → q + n = p.1 → 80 + 80 * n ≤ k → decL0 k w q = some (six p) := by
  have hk26 := Enc.kd h
  have hr := Enc.range h
  intro n
  induction n with
  | zero =>
    intro q k hq he hk
    obtain ⟨k, rfl⟩ : ∃ m, k = m + 7 := ⟨k - 7, by omega⟩
    obtain rfl : q = p.1 := by omega
    obtain ⟨k', hk', e⟩ := l0_unf k w p.1 hk26.2
    rw [e]
    have hl := imms_len p.1 w
    exact l1_hit w p.1 _ (by omega) hr.1 p h (immsOf p.1 w).length 0 k' (by omega) (by omega) (enc_cand h)
  | succ n ih =>
    intro q k hq he hk
    obtain ⟨k, rfl⟩ : ∃ m, k = m + 7 := ⟨k - 7, by omega⟩
    obtain ⟨k', hk', e⟩ := l0_unf k w q (by omega)
    rw [e]
    have hl := imms_len q w
    refine l1_go w q _ (by omega) hr.1 (six p) (80 + 80 * n) (fun k hk => ?_) (fun m _ hc => ?_) (immsOf q w).length 0 k' (by omega) (by omega)
    · rw [wrap_succ q (by omega) (by omega)]
      exact ih (q + 1) k (by omega) (by omega) hk
    · rw [enc_inj hc h]
theorem l0_none {w : Int} (hw : 0 ≤ w) (h : ∀ p, ¬ EncP p w) : ∀ (n : Nat) (q : Int) (k : Nat), 1 ≤ q → q + n = 27 → 80 + 80 * n ≤ k → decL0 k w q = some (0, 0, 0, 0, 0, 30) := by
  intro n
  induction n with
  | zero =>
    intro q k hq he hk
    obtain ⟨k, rfl⟩ : ∃ m, k = m + 1 := ⟨k - 1, by omega⟩
    unfold decL0
    rw [portcullisref25_Decode.l0, if_neg (by omega)]
  | succ n ih =>
    intro q k hq he hk
    obtain ⟨k, rfl⟩ : ∃ m, k = m + 7 := ⟨k - 7, by omega⟩
    obtain ⟨k', hk', e⟩ := l0_unf k w q (by omega)
    rw [e]
    have hl := imms_len q w
    refine l1_go w q _ (by omega) hw _ (80 + 80 * n) (fun k hk => ?_) (fun m _ hc => absurd hc (h _)) (immsOf q w).length 0 k' (by omega) (by omega)
    rw [wrap_succ q (by omega) (by omega)]
    exact ih (q + 1) k (by omega) (by omega) hk
theorem refDecode_unf (k : Nat) (w : Int) : portcullisref25_Decode.f (k + 1) w = if 0 ≤ w ∧ w < 4294967296 then decL0 k w 1 else some (0, 0, 0, 0, 0, 30) := by
  unfold portcullisref25_Decode.f decL0
  by_cases c : w < 0
  · rw [if_pos c, portcullisref25_Decode.j0, if_pos rfl, if_neg (by omega)]
  rw [if_neg c, portcullisref25_Decode.j0]
  by_cases c2 : w ≥ 4294967296
  · rw [if_pos (by rw [decide_eq_true_iff]; exact c2), if_neg (by omega)]
  · rw [if_neg (by rw [decide_eq_true_iff]; exact c2), if_pos (by omega), and31, and31, and31]
theorem refDecode_enc {p : Int × Int × Int × Int × Int} {w : Int} (h : EncP p w) (k : Nat) : portcullisref25_Decode.f (k + 3000) w = some (six p) := by
  have hr := Enc.range h
  have hk := Enc.kd h
  rw [refDecode_unf (k + 2999), if_pos hr]
  exact l0_found h (p.1 - 1).toNat 1 _ (by omega) (by omega) (by omega)
theorem refDecode_none {w : Int} (h : ∀ p, ¬ EncP p w) (k : Nat) : portcullisref25_Decode.f (k + 3000) w = some (0, 0, 0, 0, 0, 30) := by
  rw [refDecode_unf (k + 2999)]
  by_cases c : 0 ≤ w ∧ w < 4294967296
  · rw [if_pos c]
    exact l0_none c.1 h 26 1 _ (by omega) (by omega) (by omega)
  · rw [if_neg c]
end Go.Proofs.Ythkbncoklgpobaa
