/- The order of strings as the model compares them: a whole order; no condition. -/
import Derived.WalkKit
import Derived.Lib.Strings
set_option linter.unusedVariables false
set_option linter.unusedSimpArgs false
namespace Go.Proofs.Ytgkbiknokpmjmaa
open Go.RowKit

theorem bytesLess_eq : ∀ (x y : List UInt8), Op.bytesLess x y = decide (x < y)
  | [], [] => by simp [Op.bytesLess]
  | _ :: _, [] => by simp [Op.bytesLess]
  | [], _ :: _ => by simp [Op.bytesLess]
  | a :: x, b :: y => by
    rw [Op.bytesLess, bytesLess_eq x y]
    simp only [List.cons_lt_cons_iff]
    by_cases h1 : a < b <;> by_cases h2 : a = b <;> by_cases h3 : x < y <;> simp [h1, h2, h3]
/-- One string lies before the other. -/
def kl (a b : ByteArray) : Bool := Op.bytesLess a.toList b.toList
theorem kl_lt (a b : ByteArray) : kl a b = true ↔ a.toList < b.toList := by unfold kl; rw [bytesLess_eq]; simp
theorem toList_inj {a b : ByteArray} (h : a.toList = b.toList) : a = b := by
  rw [Lib.toList_data, Lib.toList_data] at h
  exact ByteArray.ext (Array.toList_inj.1 h)
theorem kl_irrefl (a : ByteArray) : kl a a = false := by
  cases h : kl a a with
  | false => rfl
  | true => exact absurd ((kl_lt a a).1 h) (List.lt_irrefl _)
theorem kl_trans {a b c : ByteArray} (h : kl a b = true) (g : kl b c = true) : kl a c = true := by
  rw [kl_lt] at *; exact List.lt_trans h g
theorem kl_tri {a b : ByteArray} (h : kl a b = false) (g : kl b a = false) : a = b := by
  have h1 : ¬ a.toList < b.toList := fun e => by rw [(kl_lt a b).2 e] at h; cases h
  have h2 : ¬ b.toList < a.toList := fun e => by rw [(kl_lt b a).2 e] at g; cases g
  exact toList_inj (List.le_antisymm (List.not_lt.1 h2) (List.not_lt.1 h1))
theorem kl_asymm {a b : ByteArray} (h : kl a b = true) : kl b a = false := by
  cases g : kl b a with
  | false => rfl
  | true => rw [← kl_irrefl a, ← kl_trans h g]
theorem run_lss_str {P : Program} (t : TypeId) (a b : ByteArray) (w : World) : (binOp .lss t (.string a) (.string b)).run P w = .ok (.bool (kl a b)) w := by
  simp [binOp, Op.stringOp, kl, Sem.run]
theorem run_gtr_str {P : Program} (t : TypeId) (a b : ByteArray) (w : World) : (binOp .gtr t (.string a) (.string b)).run P w = .ok (.bool (kl b a)) w := by
  have e : (!(Op.bytesLess a.toList b.toList || a.toList == b.toList)) = kl b a := by
    show (!(kl a b || a.toList == b.toList)) = kl b a
    cases h : kl a b with
    | true => simp [kl_asymm h]
    | false =>
      cases g : kl b a with
      | true =>
        have : (a.toList == b.toList) = false := by
          rw [beq_eq_false_iff_ne]
          intro e
          have := toList_inj e
          subst this
          rw [kl_irrefl] at g
          cases g
        simp [this]
      | false =>
        have := kl_tri h g
        subst this
        simp
  rw [← e]
  simp [binOp, Op.stringOp, Sem.run]
theorem run_leq_str {P : Program} (t : TypeId) (a b : ByteArray) (w : World) : (binOp .leq t (.string a) (.string b)).run P w = .ok (.bool (!kl b a)) w := by
  have e : (Op.bytesLess a.toList b.toList || a.toList == b.toList) = !kl b a := by
    show (kl a b || a.toList == b.toList) = !kl b a
    cases h : kl a b with
    | true => simp [kl_asymm h]
    | false =>
      cases g : kl b a with
      | true =>
        have : (a.toList == b.toList) = false := by
          rw [beq_eq_false_iff_ne]
          intro e
          have := toList_inj e
          subst this
          rw [kl_irrefl] at g
          cases g
        simp [this]
      | false =>
        have := kl_tri h g
        subst this
        simp
  rw [← e]
  simp [binOp, Op.stringOp, Sem.run]
end Go.Proofs.Ytgkbiknokpmjmaa
