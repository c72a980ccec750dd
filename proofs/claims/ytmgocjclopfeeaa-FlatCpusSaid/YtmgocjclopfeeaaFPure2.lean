/- Plain facts about reading and writing within a live region; conditions at each. -/
import Derived.Test.YtmgocjclopfeeaaFPure
set_option linter.unusedVariables false
set_option linter.unusedSimpArgs false
namespace Go.Proofs.Ytmgocjclopfeeaa

theorem kspan_ok (k : KA) (g r : Nat) (n : Int) (p : Nat) (R : RA) (hg : k.get g = some R) (h1 : 1 ≤ g) (h2 : g ≤ k.made) (hr : r < 4294967296) (hp : R.perm &&& p = p) (hb : (r : Int) + n ≤ R.bytes.length) :
    k.span (g * 4294967296 + r) n p = .ok R := by
  have e1 : hi32 (g * 4294967296 + r) = g := by unfold hi32; omega
  have e2 : lo32 (g * 4294967296 + r) = r := by unfold lo32; omega
  unfold KA.span
  rw [e1, e2, hg, if_neg (by omega)]
  simp only [hp, ne_eq, not_true_eq_false, if_false]
  rw [if_neg (by omega)]
theorem bytes_ok (k : KA) (g r n : Nat) (R : RA) (hg : k.get g = some R) (h1 : 1 ≤ g) (h2 : g ≤ k.made) (hr : r < 4294967296) (hn : n ≤ 1048576) (hb : r + n ≤ R.bytes.length) :
    k.bytes (g * 4294967296 + r) n = ((R.bytes.drop r).take n, 0) := by
  have e2 : lo32 (g * 4294967296 + r) = r := by unfold lo32; omega
  unfold KA.bytes
  rw [if_neg (by omega), kspan_ok k g r n 0 R hg h1 h2 hr (by simp) (by omega)]
  simp only [e2, Int.toNat_natCast]
theorem put_ok (k : KA) (g r : Nat) (s : List Nat) (R : RA) (hg : k.get g = some R) (h1 : 1 ≤ g) (h2 : g ≤ k.made) (hr : r < 4294967296) (hn : s.length ≤ 1048576) (hb : r + s.length ≤ R.bytes.length) :
    k.put (g * 4294967296 + r) s = (0, k.upd g fun R => { R with bytes := splice R.bytes r s }) := by
  have e1 : hi32 (g * 4294967296 + r) = g := by unfold hi32; omega
  have e2 : lo32 (g * 4294967296 + r) = r := by unfold lo32; omega
  unfold KA.put
  rw [if_neg (by omega), kspan_ok k g r s.length 0 R hg h1 h2 hr (by simp) (by omega)]
  simp only [e1, e2]
theorem splice_same (l : List Nat) (o : Nat) (s : List Nat) (h : o + s.length ≤ l.length) : ((splice l o s).drop o).take s.length = s := by
  unfold splice
  have e1 : (l.take o).length = o := by rw [List.length_take]; omega
  rw [List.append_assoc, List.drop_append_of_le_length (by omega), List.drop_of_length_le (by omega), List.nil_append, List.take_left']
  rfl
theorem getD_splice (l : List Nat) (o : Nat) (s : List Nat) (i : Nat) (h : o + s.length ≤ l.length) (hi : i < o ∨ o + s.length ≤ i) : (splice l o s).getD i 0 = l.getD i 0 := by
  unfold splice
  have e1 : (l.take o).length = o := by rw [List.length_take]; omega
  rcases hi with hi | hi
  · rw [List.append_assoc, List.getD_eq_getElem?_getD, List.getElem?_append_left (by omega)]
    simp [List.getD_eq_getElem?_getD, List.getElem?_take, hi]
  · rw [List.getD_eq_getElem?_getD, List.getElem?_append_right (by rw [List.length_append]; omega)]
    simp only [List.getD_eq_getElem?_getD, List.getElem?_drop, List.length_append, e1]
    rw [show o + s.length + (i - (o + s.length)) = i by omega]
theorem splice_other (l : List Nat) (o : Nat) (s : List Nat) (q n : Nat) (h : o + s.length ≤ l.length) (hq : q + n ≤ l.length) (hd : q + n ≤ o ∨ o + s.length ≤ q) : ((splice l o s).drop q).take n = (l.drop q).take n := by
  apply List.ext_getElem?
  intro i
  by_cases hi : i < n
  · rw [List.getElem?_take_of_lt hi, List.getElem?_take_of_lt hi, List.getElem?_drop, List.getElem?_drop]
    have hl := length_splice l o s h
    have := getD_splice l o s (q + i) h (by omega)
    rw [List.getD_eq_getElem?_getD, List.getD_eq_getElem?_getD, List.getElem?_eq_getElem (by omega), List.getElem?_eq_getElem (by omega)] at this
    rw [List.getElem?_eq_getElem (by omega), List.getElem?_eq_getElem (by omega)]
    simpa using this
  · rw [List.getElem?_eq_none (by rw [List.length_take]; omega), List.getElem?_eq_none (by rw [List.length_take]; omega)]
theorem zeros_part (N q n : Nat) (h : q + n ≤ N) : ((List.replicate N 0).drop q).take n = List.replicate n 0 := by
  rw [List.drop_replicate, List.take_replicate]; congr 1; omega
def KA1 (d : List Nat) : KA := ⟨1, 0, [(1, ⟨d, 3, false⟩)]⟩
theorem apart_put (N r : Nat) (s : List Nat) (hN : N ≤ 1048576) (h : r + s.length ≤ N) : ((KA1 (List.replicate N 0)).put (4294967296 + r) s).2 = KA1 (splice (List.replicate N 0) r s) := by
  have := put_ok (KA1 (List.replicate N 0)) 1 r s ⟨List.replicate N 0, 3, false⟩ rfl (by omega) (Nat.le_refl 1) (by omega) (by omega) (by simpa using h)
  rw [show (4294967296 + r) = 1 * 4294967296 + r by omega, this]
  rfl
theorem apart_same (N r : Nat) (s : List Nat) (hN : N ≤ 1048576) (h : r + s.length ≤ N) : (KA1 (splice (List.replicate N 0) r s)).bytes (4294967296 + r) s.length = (s, 0) := by
  have hl := length_splice (List.replicate N 0) r s (by simpa using h)
  rw [List.length_replicate] at hl
  have := bytes_ok (KA1 (splice (List.replicate N 0) r s)) 1 r s.length ⟨splice (List.replicate N 0) r s, 3, false⟩ rfl (by omega) (Nat.le_refl 1) (by omega) (by omega) (by simp only [hl]; exact h)
  rw [show (4294967296 + r) = 1 * 4294967296 + r by omega, this]
  simp only [splice_same (List.replicate N 0) r s (by simpa using h)]
theorem apart_other (N r q : Nat) (s : List Nat) (hN : N ≤ 1048576) (h : r + s.length ≤ N) (hq : q + s.length ≤ N) (hd : q + s.length ≤ r ∨ r + s.length ≤ q) : (KA1 (splice (List.replicate N 0) r s)).bytes (4294967296 + q) s.length = (List.replicate s.length 0, 0) := by
  have hl := length_splice (List.replicate N 0) r s (by simpa using h)
  rw [List.length_replicate] at hl
  have := bytes_ok (KA1 (splice (List.replicate N 0) r s)) 1 q s.length ⟨splice (List.replicate N 0) r s, 3, false⟩ rfl (by omega) (Nat.le_refl 1) (by omega) (by omega) (by simp only [hl]; exact hq)
  rw [show (4294967296 + q) = 1 * 4294967296 + q by omega, this]
  simp only [splice_other (List.replicate N 0) r s q s.length (by simpa using h) (by simpa using hq) hd, zeros_part _ _ _ hq]
theorem slots_apart (i j f n : Nat) (h : n ≤ f) (hij : i ≠ j) : j * f + n ≤ i * f ∨ i * f + n ≤ j * f := by
  rcases Nat.lt_or_gt_of_ne hij with h1 | h1
  · right
    have := Nat.mul_le_mul_right f (show i + 1 ≤ j by omega)
    rw [Nat.add_mul] at this; omega
  · left
    have := Nat.mul_le_mul_right f (show j + 1 ≤ i by omega)
    rw [Nat.add_mul] at this; omega
theorem slot_within (i M f n : Nat) (h : n ≤ f) (hi : i < M) : i * f + n ≤ M * f := by
  have := Nat.mul_le_mul_right f (show i + 1 ≤ M by omega)
  rw [Nat.add_mul] at this; omega
theorem le_fwide (v : Nat) : v ≤ fwide v := by unfold fwide; omega
end Go.Proofs.Ytmgocjclopfeeaa
