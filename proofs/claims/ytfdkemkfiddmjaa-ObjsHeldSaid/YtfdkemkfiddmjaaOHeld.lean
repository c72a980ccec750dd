/- Plain laws of a table with one object that so many fds, pins and holds hold; conditions at each. -/
import Derived.Test.YtfdkemkfiddmjaaOAwake
import Derived.Laws.BytesArg
set_option linter.unusedVariables false
set_option linter.unusedSimpArgs false
namespace Go.Proofs.Ytfdkemkfiddmjaa
open Go.RowKit Go.MapKept Go.Maps

def pth (i : Nat) : ByteArray := ⟨#[47]⟩ ++ strOfNums [(97 : Int) + i]
theorem pth_ok : ∀ i : Nat, i < 10 → opath (pth i) = true := by decide +kernel
theorem pth_ne : ∀ i : Nat, i < 10 → ∀ j : Nat, j < 10 → i ≠ j → sk (pth i) ≠ sk (pth j) := by
  have h : ∀ i : Nat, i < 10 → ∀ j : Nat, j < 10 → i ≠ j → (pth i).data.toList ≠ (pth j).data.toList := by decide +kernel
  intro i hi j hj hij e
  exact h i hi j hj hij (by simpa [sk] using e)
structure HI (s : OSt) (a b c : Nat) : Prop where
  fd : ∀ j : Nat, j < 64 → s.fds (ik j) = if j < a then some 1 else none
  pn : ∀ j : Nat, j < 10 → s.pins (sk (pth j)) = if j < b then some 1 else none
  hd : at0 s.holds 1 = c
  n1 : at0 s.n 1 = ((a + b + c : Nat) : Int)
  ns : (s.n (ik 1)).isSome = decide (0 < a + b + c)
  n0 : ∀ x : Int, x ≠ 1 → s.n (ik x) = none
theorem HI.start (x : Int) : (oempty.add x).1 = (0, 1, 0) ∧ HI (oempty.add x).2 1 0 0 := by
  have ho := open_at (s := oempty) (k := 0) (by omega) rfl (fun j hj => by omega) ((oempty.made : Int) + 1)
  unfold OSt.add
  rw [ho]
  simp only [if_true]
  refine ⟨rfl, ⟨fun j hj => ?_, fun j hj => rfl, rfl, ?_, ?_, fun x hx => ?_⟩⟩
  · show upd (fun _ => none) (ik ((0 : Nat) : Int)) (some (0 + 1 : Int)) (ik j) = _
    by_cases e : j = 0
    · subst e; rw [upd_same]; rfl
    · rw [upd_other _ _ (ik_ne (by omega)), if_neg (by omega)]
  · show (upd (fun _ => none) (ik (0 + 1 : Int)) (some (0 + 1 : Int)) (ik 1)).getD 0 = _
    rw [show (0 + 1 : Int) = 1 by rfl, upd_same]; rfl
  · show (upd (fun _ => none) (ik (0 + 1 : Int)) (some (0 + 1 : Int)) (ik 1)).isSome = _
    rw [show (0 + 1 : Int) = 1 by rfl, upd_same]; rfl
  · show upd (fun _ => none) (ik (0 + 1 : Int)) (some (0 + 1 : Int)) (ik x) = _
    rw [upd_other _ _ (ik_ne (by omega))]
theorem HI.more_n {s : OSt} {a b c : Nat} (h : HI s a b c) : at0 (s.more 1).n 1 = ((a + b + c + 1 : Nat) : Int) ∧ ((s.more 1).n (ik 1)).isSome = true ∧ ∀ x : Int, x ≠ 1 → (s.more 1).n (ik x) = none := by
  refine ⟨?_, ?_, fun x hx => ?_⟩
  · show (upd s.n (ik 1) (some (at0 s.n 1 + 1)) (ik 1)).getD 0 = _
    rw [upd_same, h.n1]
    simp
  · show (upd s.n (ik 1) (some (at0 s.n 1 + 1)) (ik 1)).isSome = _
    rw [upd_same]; rfl
  · show upd s.n (ik 1) (some (at0 s.n 1 + 1)) (ik x) = _
    rw [upd_other _ _ (ik_ne hx)]
    exact h.n0 x hx
theorem HI.less_n {s : OSt} {a b c : Nat} (h : HI s a b c) (h0 : 0 < a + b + c) : at0 (s.less 1).n 1 = ((a + b + c - 1 : Nat) : Int) ∧ ((s.less 1).n (ik 1)).isSome = decide (0 < a + b + c - 1) ∧ (∀ x : Int, x ≠ 1 → (s.less 1).n (ik x) = none) ∧ s.dead 1 = if 0 < a + b + c - 1 then [] else [1] := by
  have hn := h.n1
  by_cases hc : 0 < a + b + c - 1
  · have hc2 : 0 < at0 s.n 1 - 1 := by rw [hn]; omega
    refine ⟨?_, ?_, fun x hx => ?_, ?_⟩
    · show (upd s.n (ik 1) (if 0 < at0 s.n 1 - 1 then some (at0 s.n 1 - 1) else none) (ik 1)).getD 0 = _
      rw [upd_same, if_pos hc2, hn]
      simp only [Option.getD_some]
      omega
    · show (upd s.n (ik 1) (if 0 < at0 s.n 1 - 1 then some (at0 s.n 1 - 1) else none) (ik 1)).isSome = _
      rw [upd_same, if_pos hc2, decide_eq_true hc]; rfl
    · show upd s.n (ik 1) (if 0 < at0 s.n 1 - 1 then some (at0 s.n 1 - 1) else none) (ik x) = _
      rw [upd_other _ _ (ik_ne hx)]
      exact h.n0 x hx
    · unfold OSt.dead
      rw [if_pos hc2, if_pos hc]
  · have hc2 : ¬ 0 < at0 s.n 1 - 1 := by rw [hn]; omega
    refine ⟨?_, ?_, fun x hx => ?_, ?_⟩
    · show (upd s.n (ik 1) (if 0 < at0 s.n 1 - 1 then some (at0 s.n 1 - 1) else none) (ik 1)).getD 0 = _
      rw [upd_same, if_neg hc2]
      simp only [Option.getD_none]
      omega
    · show (upd s.n (ik 1) (if 0 < at0 s.n 1 - 1 then some (at0 s.n 1 - 1) else none) (ik 1)).isSome = _
      rw [upd_same, if_neg hc2, decide_eq_false hc]; rfl
    · show upd s.n (ik 1) (if 0 < at0 s.n 1 - 1 then some (at0 s.n 1 - 1) else none) (ik x) = _
      rw [upd_other _ _ (ik_ne hx)]
      exact h.n0 x hx
    · unfold OSt.dead
      rw [if_neg hc2, if_neg hc]
theorem HI.get {s : OSt} {a b c : Nat} (h : HI s a b c) {j : Nat} (hj : j < a) (hj64 : j < 64) : s.get j = (at0 s.kinds 1, 1, 0) := by
  unfold OSt.get
  rw [h.fd j hj64, if_pos hj]
theorem HI.dup {s : OSt} {a b c : Nat} (h : HI s a b c) (h1 : 1 ≤ a) (ha : a < 64) : (s.dup 0).1 = ((a : Int), 0) ∧ HI (s.dup 0).2 (a + 1) b c := by
  have hg := h.get (j := 0) (by omega) (by omega)
  have ho := open_at (s := s) ha (by rw [h.fd a ha, if_neg (by omega)]) (fun j hj => by rw [h.fd j (by omega), if_pos hj]; simp) 1
  obtain ⟨m1, m2, m3⟩ := h.more_n
  unfold OSt.dup
  rw [show (0 : Int) = ((0 : Nat) : Int) from rfl, hg]
  simp only [if_true]
  rw [ho]
  refine ⟨rfl, ⟨fun j hj => ?_, h.pn, h.hd, ?_, ?_, m3⟩⟩
  · show upd s.fds (ik a) (some 1) (ik j) = _
    by_cases e : j = a
    · subst e; rw [upd_same, if_pos (by omega)]
    · rw [upd_other _ _ (ik_ne (by omega)), h.fd j hj]
      by_cases hl : j < a
      · rw [if_pos hl, if_pos (by omega)]
      · rw [if_neg hl, if_neg (by omega)]
  · refine Eq.trans m1 ?_
    congr 1; omega
  · refine Eq.trans m2 ?_
    rw [decide_eq_true (by omega)]
theorem HI.pin {s : OSt} {a b c : Nat} (h : HI s a b c) (h1 : 1 ≤ a) (hb : b < 10) : (s.pin (pth b) 0).1 = 0 ∧ HI (s.pin (pth b) 0).2 a (b + 1) c := by
  have hg := h.get (j := 0) (by omega) (by omega)
  obtain ⟨m1, m2, m3⟩ := h.more_n
  unfold OSt.pin
  rw [if_neg (by rw [pth_ok b hb]; decide), show (0 : Int) = ((0 : Nat) : Int) from rfl, hg, if_neg (by simp), h.pn b hb, if_neg (Nat.lt_irrefl _), if_neg (by simp)]
  refine ⟨rfl, ⟨h.fd, fun j hj => ?_, h.hd, ?_, ?_, m3⟩⟩
  · show upd s.pins (sk (pth b)) (some 1) (sk (pth j)) = _
    by_cases e : j = b
    · subst e; rw [upd_same, if_pos (by omega)]
    · rw [upd_other _ _ (pth_ne j hj b hb e), h.pn j hj]
      by_cases hl : j < b
      · rw [if_pos hl, if_pos (by omega)]
      · rw [if_neg hl, if_neg (by omega)]
  · refine Eq.trans m1 ?_
    congr 1; omega
  · refine Eq.trans m2 ?_
    rw [decide_eq_true (by omega)]
theorem HI.hold {s : OSt} {a b c : Nat} (h : HI s a b c) (h1 : 1 ≤ a) : (s.hold 1).1 = 0 ∧ HI (s.hold 1).2 a b (c + 1) := by
  obtain ⟨m1, m2, m3⟩ := h.more_n
  unfold OSt.hold
  rw [if_pos (by rw [h.n1]; omega)]
  refine ⟨rfl, ⟨h.fd, h.pn, ?_, ?_, ?_, m3⟩⟩
  · show (upd s.holds (ik 1) (some (at0 s.holds 1 + 1)) (ik 1)).getD 0 = _
    rw [upd_same, h.hd]; rfl
  · refine Eq.trans m1 ?_
    congr 1
  · refine Eq.trans m2 ?_
    rw [decide_eq_true (by omega)]
def dead1 (n : Nat) : List Int := if 0 < n then [] else [1]
theorem HI.close {s : OSt} {a b c : Nat} (h : HI s (a + 1) b c) (ha : a < 64) : (s.close a).1 = (dead1 (a + b + c), 0) ∧ HI (s.close a).2 a b c := by
  have hg := h.get (j := a) (by omega) ha
  have e0 : a + 1 + b + c - 1 = a + b + c := by omega
  obtain ⟨m1, m2, m3, m4⟩ := h.less_n (by omega)
  rw [e0] at m1 m2 m4
  have m4' : (s.unfd a).dead 1 = dead1 (a + b + c) := m4
  unfold OSt.close
  rw [hg]
  simp only [if_true]
  refine ⟨by rw [m4'], ⟨fun j hj => ?_, h.pn, h.hd, m1, m2, m3⟩⟩
  show upd s.fds (ik a) none (ik j) = _
  by_cases e : j = a
  · subst e; rw [upd_same, if_neg (by omega)]
  · rw [upd_other _ _ (ik_ne (by omega)), h.fd j hj]
    by_cases hl : j < a
    · rw [if_pos hl, if_pos (by omega)]
    · rw [if_neg hl, if_neg (by omega)]
theorem HI.unpin {s : OSt} {a b c : Nat} (h : HI s a (b + 1) c) (hb : b < 10) : (s.unpin (pth b)).1 = (dead1 (a + b + c), 0) ∧ HI (s.unpin (pth b)).2 a b c := by
  have e0 : a + (b + 1) + c - 1 = a + b + c := by omega
  obtain ⟨m1, m2, m3, m4⟩ := h.less_n (by omega)
  rw [e0] at m1 m2 m4
  have m4' : (s.unpinned (pth b)).dead 1 = dead1 (a + b + c) := m4
  unfold OSt.unpin
  have hp : s.pins (sk (pth b)) = some 1 := by rw [h.pn b hb, if_pos (by omega)]
  rw [if_neg (by rw [pth_ok b hb]; decide), hp, if_neg (by simp)]
  simp only [Option.getD_some]
  refine ⟨by rw [m4'], ⟨h.fd, fun j hj => ?_, h.hd, m1, m2, m3⟩⟩
  show upd s.pins (sk (pth b)) none (sk (pth j)) = _
  by_cases e : j = b
  · subst e; rw [upd_same, if_neg (by omega)]
  · rw [upd_other _ _ (pth_ne j hj b hb e), h.pn j hj]
    by_cases hl : j < b
    · rw [if_pos hl, if_pos (by omega)]
    · rw [if_neg hl, if_neg (by omega)]
theorem HI.drop {s : OSt} {a b c : Nat} (h : HI s a b (c + 1)) : (s.drop 1).1 = (dead1 (a + b + c), 0) ∧ HI (s.drop 1).2 a b c := by
  have e0 : a + b + (c + 1) - 1 = a + b + c := by omega
  obtain ⟨m1, m2, m3, m4⟩ := h.less_n (by omega)
  rw [e0] at m1 m2 m4
  have m4' : (s.unhold 1).dead 1 = dead1 (a + b + c) := m4
  unfold OSt.drop
  rw [if_pos ⟨by rw [h.n1]; omega, by rw [h.hd]; omega⟩]
  refine ⟨by rw [m4'], ⟨h.fd, h.pn, ?_, m1, m2, m3⟩⟩
  show (upd s.holds (ik 1) (some (at0 s.holds 1 - 1)) (ik 1)).getD 0 = _
  rw [upd_same, h.hd]
  simp only [Option.getD_some]
  omega
theorem HI.live {s : OSt} {a b c : Nat} (h : HI s a b c) {l : List Int} (hp : l.Pairwise (· < ·)) (hl : ∀ x, x ∈ l ↔ (s.n (ik x)).isSome = true) : (l.length = 0 ↔ a + b + c = 0) := by
  have h1 : ∀ x ∈ l, x = 1 := fun x hx => Decidable.byContradiction fun hne => by
    have := (hl x).1 hx
    rw [h.n0 x hne] at this
    cases this
  constructor
  · intro e
    have : l = [] := List.eq_nil_of_length_eq_zero e
    subst this
    refine Decidable.byContradiction fun hne => ?_
    have := (hl 1).2 (by rw [h.ns]; simp; omega)
    simp at this
  · intro e
    cases l with
    | nil => rfl
    | cons x l =>
      have hx := h1 x (by simp)
      subst hx
      have := (hl 1).1 (by simp)
      rw [h.ns, decide_eq_false (by omega)] at this
      cases this
end Go.Proofs.Ytfdkemkfiddmjaa
