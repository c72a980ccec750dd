/- Plain laws of prefixes as keys; no condition. -/
import Derived.Test.YtopdgpmeccdogaaTAwake
import Derived.Laws.BitsAllLaws
set_option linter.unusedVariables false
set_option linter.unusedSimpArgs false
namespace Go.Proofs.Ytopdgpmeccdogaa
open Go.RowKit Go.MapKept

def sbit (l : List Nat) (i : Nat) : Nat := l.getD (i / 8) 0 / 2 ^ (7 - i % 8) % 2
def spath (n : Nat) (l : List Nat) : List Bool := (List.range n).map fun i => decide (sbit l i = 1)
theorem tlen_key (n : Nat) (hn : n ≤ 32) (s : ByteArray) : tlen (tkey n s) = n := by
  unfold tlen
  rw [tkey_nats, List.take_append_of_le_length (by rw [length_leBytes]; exact Nat.le_refl _), List.take_of_length_le (by rw [length_leBytes]; exact Nat.le_refl _), leNum_leBytes]
  omega
theorem tbit_key (n : Nat) (s : ByteArray) (i : Nat) : tbit (tkey n s) i = sbit (nats s) i := by
  unfold tbit sbit
  rw [tkey_nats]
  simp only [List.getD_eq_getElem?_getD]
  rw [List.getElem?_append_right (by rw [length_leBytes]; omega), length_leBytes, show 4 + i / 8 - 4 = i / 8 by omega]
theorem tpath_key (n : Nat) (hn : n ≤ 32) (s : ByteArray) : tpath (tkey n s) = spath n (nats s) := by
  unfold tpath spath
  rw [tlen_key n hn]
  apply List.map_congr_left
  intro i _
  rw [tbit_key]
theorem spath_length (n : Nat) (l : List Nat) : (spath n l).length = n := by simp [spath]
theorem spath_congr {n : Nat} {l r : List Nat} (h : ∀ j, j < n → sbit l j = sbit r j) : spath n l = spath n r := by
  unfold spath
  apply List.map_congr_left
  intro i hi
  rw [h i (List.mem_range.1 hi)]
theorem ok_key (v mx : Nat) (n : Nat) (hn : n ≤ 32) (s : ByteArray) (hs : s.size = 4) : (TSpec.mk 8 v mx).ok (tkey n s) = true := by
  simp [TSpec.ok, tkey_size, hs, tlen_key n hn]
  exact hn
theorem sbit_test (x i : Nat) : x / 2 ^ i % 2 = (x.testBit i).toNat := by
  rw [Nat.testBit_eq_decide_div_mod_eq]
  have : x / 2 ^ i % 2 < 2 := Nat.mod_lt _ (by decide)
  by_cases h : x / 2 ^ i % 2 = 1
  · simp [h]
  · have : x / 2 ^ i % 2 = 0 := by omega
    simp [this]
/-- A bit that is turned behind another leaves it. -/
theorem sbit_turn (l : List Nat) (k j : Nat) (hj : j ≠ k) : sbit (l.set (k / 8) (l.getD (k / 8) 0 ^^^ (128 / 2 ^ (k % 8)))) j = sbit l j := by
  unfold sbit
  simp only [List.getD_eq_getElem?_getD]
  rw [List.getElem?_set]
  by_cases h : k / 8 = j / 8
  · rw [if_pos h]
    by_cases hl : k / 8 < l.length
    · rw [if_pos hl, h]
      simp only [Option.getD_some]
      rw [sbit_test, sbit_test, Nat.testBit_xor]
      have h1 : 128 / 2 ^ (k % 8) = 2 ^ (7 - k % 8) := by
        have : k % 8 < 8 := Nat.mod_lt _ (by decide)
        generalize k % 8 = r at *
        obtain rfl | rfl | rfl | rfl | rfl | rfl | rfl | rfl : r = 0 ∨ r = 1 ∨ r = 2 ∨ r = 3 ∨ r = 4 ∨ r = 5 ∨ r = 6 ∨ r = 7 := by omega
        all_goals rfl
      rw [h1, Nat.testBit_two_pow_of_ne (by omega)]
      simp
    · rw [if_neg hl, List.getElem?_eq_none (by omega)]
  · rw [if_neg h]
end Go.Proofs.Ytopdgpmeccdogaa
