/- Several texts of this claim in one: each is told where it begins. -/
import Derived.Test.YthkbncoklgpobaaWTab
import Derived.Test.YthkbncoklgpobaaWEqStruct
import Derived.Test.YthkbncoklgpobaaWWords
import Derived.Test.YthkbncoklgpobaaWN
-- written by a program of this session out of what print.sh had written: the declarations that this claim uses
/-! ### 57. A region of open order by ONE relation over what is listed so far: each operation is shown once, whatever came up before it -/
namespace Go.Proofs.YthkbncoklgpobaaW.PrintLast
section
variable {P : Program} {ops : Array Oper} {Q : Exit → Act → World → Prop} {md : Region.Mode} {T : Bool × List (List Nat × List Nat)} {B : List Nat} {O : List Nat} {b : Nat → Bool} {i j n : Nat}
/-! The frame: what is listed has its destination filled. -/
end
end Go.Proofs.YthkbncoklgpobaaW.PrintLast

-- written by a program of this session out of what print.sh had written: the declarations that this claim uses
namespace Go.Proofs.YthkbncoklgpobaaW.PrintWords
open Go.RowKit
end Go.Proofs.YthkbncoklgpobaaW.PrintWords
namespace Go.Proofs.YthkbncoklgpobaaW.PrintLast
section
variable {ops : Array Oper} {a : Act} {o og : Oper} {g : Nat} {t : Tmp} {u : Bool}
end
end Go.Proofs.YthkbncoklgpobaaW.PrintLast

-- written by a program of this session out of what print.sh had written: the declarations that this claim uses
/-! ### 58. A guarded operation whose guard is known to want it: the same goal without the guard -/
namespace Go.Proofs.YthkbncoklgpobaaW.PrintWords
open Go.RowKit
section
variable {P : Program} {ops : Array Oper} {rest : List Oper} {o : Oper} {a : Act} {Q : Exit → Act → World → Prop} {W : World}
/-- The gate takes the guard off (hw: 'by rfl', 'by kernel_rfl': the guard's slot holds what is wanted). -/
theorem gate_guard (hw : Region.wanted o (yielded ops a.tmps) = true) (h : wpList P ops Q ({ o with guard := none } :: rest) a W) : wpList P ops Q (o :: rest) a W := by
  have h1 : Region.wanted { o with guard := none } (yielded ops a.tmps) = true := rfl
  unfold wpList at h ⊢
  rw [if_pos h1] at h
  rw [if_pos hw]
  exact h
end
end Go.Proofs.YthkbncoklgpobaaW.PrintWords

-- written by a program of this session out of what print.sh had written: the declarations that this claim uses
/-! ### 48. N's events: append, a whole row appended, zeros appended, literals, make, stores, cuts, an element taken out -/
namespace Go.Proofs.YthkbncoklgpobaaW.PrintWords
open Go.RowKit
namespace Kd
section
variable {α : Type} {d : Kd α} {e base n cap g : Nat} {ok ok' okp : Nat → Prop} {w w1 W : World} {v v1 : Value} {xs ys : List α}
end
section
variable {P : Program} {ops : Array Oper} {rest : List Oper} {o : Oper} {a : Act} {Q : Exit → Act → World → Prop} {Kc : Act → World → Prop} {α : Type}
end
end Kd
end Go.Proofs.YthkbncoklgpobaaW.PrintWords
