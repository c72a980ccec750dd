/- Plain facts about the keys of an array and about its first region; conditions at each. -/
import Derived.Test.YtmgocjclopfeeaaFWalk6
import Derived.Test.YtmgocjclopfeeaaRLe
set_option linter.unusedVariables false
set_option linter.unusedSimpArgs false
namespace Go.Proofs.Ytmgocjclopfeeaa

theorem findex_le (i : Nat) (h : i < 4294967296) : findex (bstr (leBytes i 4)) = i := by
  unfold findex
  rw [if_pos (by rw [size_bstr, length_leBytes]), nats_bstr _ (leBytes_lt _ _), leNum_leBytes]
  norm_cast
  omega
def fkeyOf (k : Nat) : ByteArray := if k = 0 then ⟨#[]⟩ else bstr (leBytes (k - 1) 4)
theorem findex_fkeyOf (k : Nat) (h : k < 4294967296) : findex (fkeyOf k) + 1 = k := by
  unfold fkeyOf
  split
  · subst k; decide +kernel
  · rw [findex_le _ (by omega)]; omega
theorem fnext_some (s : FSpec) (a k : Nat) (h : k < s.max) (h2 : s.max ≤ 4096) : fnext s (.shared a) (fkeyOf k) = (leBytes k 4, 0) := by
  unfold fnext
  simp only [findex_fkeyOf k (by omega)]
  have e : (if (s.max : Int) < (k : Int) then 0 else ((k : Int)).toNat) = k := by rw [if_neg (by omega)]; omega
  rw [e, if_neg (by omega)]
theorem fnext_none (s : FSpec) (a : Nat) (h2 : s.max ≤ 4096) : fnext s (.shared a) (fkeyOf s.max) = ([], 4) := by
  unfold fnext
  simp only [findex_fkeyOf s.max (by omega)]
  have e : (if (s.max : Int) < (s.max : Int) then 0 else ((s.max : Int)).toNat) = s.max := by rw [if_neg (by omega)]; omega
  rw [e, if_pos rfl]
theorem alloc0 (n : Nat) (h1 : 1 ≤ n) (h2 : n ≤ 1048576) : KA.alloc n 3 ⟨0, 0, []⟩ = (4294967296, 0, ⟨1, 0, [(1, ⟨List.replicate n 0, 3, false⟩)]⟩) := by
  unfold KA.alloc
  rw [if_neg (by omega)]
  rfl
end Go.Proofs.Ytmgocjclopfeeaa
