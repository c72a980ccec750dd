/- ArmDecodes as a statement over numbers: the program and the reference decode every word alike. -/
import Derived.Test.YthkbncoklgpobaaQArmDecodesx10
import Derived.Test.YthkbncoklgpobaaARef3
import Derived.Test.YthkbncoklgpobaaAAwake
set_option linter.unusedVariables false
namespace Go.Proofs.Ythkbncoklgpobaa.Pure
open Go.RowKit Go.Proofs.Ythkbncoklgpobaa.QArmDecodes Go.Proofs.YthkbncoklgpobaaW.PrintWords Go.Proofs.YthkbncoklgpobaaW.PrintLast

theorem both (w : Int) (k : Nat) : ∃ r : Six, arm_Decode.f (k + 3000) w = some r ∧ portcullisref25_Decode.f (k + 3000) w = some r := by
  by_cases h : ∃ p, EncP p w
  · obtain ⟨p, hp⟩ := h
    exact ⟨six p, decode_enc hp (k + 2980), refDecode_enc hp k⟩
  · exact ⟨(0, 0, 0, 0, 0, 30), decode_none (fun kd d a b i h' => h ⟨(kd, d, a, b, i), h'⟩) (k + 2980), refDecode_none (fun p hp => h ⟨p, hp⟩) k⟩
theorem go (l : List Int) (hl : l.length ≤ maxLen) : ∀ (n i k : Nat), i + n = l.length → portcullislaw25_ArmDecodes.l0 (k + 3001 + n) l i = some true := by
  unfold maxLen at hl
  intro n
  induction n with
  | zero =>
    intro i k hi
    rw [show k + 3001 + 0 = (k + 3000) + 1 by omega, portcullislaw25_ArmDecodes.l0, if_neg (by omega), awake_true (k + 2900)]
    rfl
  | succ n ih =>
    intro i k hi
    rw [show k + 3001 + (n + 1) = (k + 3001 + n) + 1 by omega, portcullislaw25_ArmDecodes.l0, if_pos (by omega), if_pos (by omega)]
    obtain ⟨r, h1, h2⟩ := both (rd l i) (k + 1 + n)
    rw [show k + 3001 + n = (k + 1 + n) + 3000 by omega, h1, Option.bind_some, h2, Option.bind_some]
    rw [show wrap64 ((i : Int) + 1) = ((i + 1 : Nat) : Int) by unfold wrap64; omega]
    simp only [beq_self_eq_true, Bool.not_true, Bool.or_self, Bool.false_eq_true, if_false, if_true]
    have := ih (i + 1) k (by omega)
    rw [show k + 3001 + n = (k + 1 + n) + 3000 by omega] at this
    exact this
theorem ArmDecodes : portcullislaw25_ArmDecodes.Pure := by
  intro l hl _ _
  exact ⟨_, go l hl l.length 0 0 (by omega)⟩
end Go.Proofs.Ythkbncoklgpobaa.Pure
