/-
  No cell of these rows narrows 'for every input' (looked for: loops, veiled, ifaces, maps, wideKeys, modest, calm, conditions, laid).
  DERIVED. THE GIVEN ROWS OF THIS SEAT. 5 by the template 'for every input the law returns true; each argument reads behind the call as it read before'; 0 by the template 'total and deterministic' (their statements: YteglgmdmnhkmgaaTotals.lean).
  GIVEN WITH THE SEED: the statements are not yours to turn. If you find one false, say at which input.
  Laid BY PROGRAM, IN A SANDBOX (cutbox-rows.mjs): the forced cells as the released guide's own fill.sh prints them over the translation ad3dd6e5a8ddaa3e… (all of the seat's roots in one cut). By AI agents, Wed Nov 11 2026. No macro, syntax, notation, axiom, sorry.
-/
import Derived.Test.YteglgmdmnhkmgaaChecked
import GoSem.Claim
import GoSem.ClaimJoined
import GoSem.ClaimMapViews
import Derived.JoinedTies
import Derived.KernelRfl
namespace Go.Proofs.Yteglgmdmnhkmgaa
/- THE CELL 'sum', in the pinned program and in every row, IS THE sha256 OF THE DUMP (.gsa) THAT YteglgmdmnhkmgaaProg.lean LOADS. Nothing in Lean hashes anything: it is a label: what it is worth is what the hold of that sum in a sandbox is worth. -/
noncomputable def Try.pinned : Pinned := { name := "yteglgmdmnhkmgaa", sum := "ad3dd6e5a8ddaa3e2ba30d1eae679264b8f7f2fcdf44ed66a0b04e5483c43cbc", checked := Try.checked }
namespace Rows
def none {H : Type} : Left H := { results := [], args := [] }

/-- 'portcullislaw02.KmemHolds': WHATEVER THE INPUT: true; the input reads as it did. -/
def kmemHoldsSpec : ChangeSpec := { name := "kmemHolds", fn := fun _ => fun
  | [d1, d2, d3] => { results := [.lit (.bool true)], args := [d1, d2, d3] }
  | _ => none }
def kmemHoldsRow : OpenClaim := { program := "yteglgmdmnhkmgaa", sum := "ad3dd6e5a8ddaa3e2ba30d1eae679264b8f7f2fcdf44ed66a0b04e5483c43cbc", func := "portcullis/portcullislaw02.KmemHolds", spec := "kmemHolds", apart := false }
def KmemHoldsSaid : Prop := kmemHoldsRow.holds Try.pinned (OpenSpec.ofChange kmemHoldsSpec)

/-- ITS FALSE NEIGHBOUR: 'it returns false'. Refute it at one input. -/
def kmemHoldsWrong : ChangeSpec := { name := "kmemHolds", fn := fun _ => fun
  | [d1, d2, d3] => { results := [.lit (.bool false)], args := [d1, d2, d3] }
  | _ => none }
def KmemHoldsWrongFalsely : Prop := kmemHoldsRow.holds Try.pinned (OpenSpec.ofChange kmemHoldsWrong)

/-- 'portcullislaw02.KmemGrace': WHATEVER THE INPUT: true; the input reads as it did. -/
def kmemGraceSpec : ChangeSpec := { name := "kmemGrace", fn := fun _ => fun
  | [d] => { results := [.lit (.bool true)], args := [d] }
  | _ => none }
def kmemGraceRow : OpenClaim := { program := "yteglgmdmnhkmgaa", sum := "ad3dd6e5a8ddaa3e2ba30d1eae679264b8f7f2fcdf44ed66a0b04e5483c43cbc", func := "portcullis/portcullislaw02.KmemGrace", spec := "kmemGrace", apart := false }
def KmemGraceSaid : Prop := kmemGraceRow.holds Try.pinned (OpenSpec.ofChange kmemGraceSpec)

/-- ITS FALSE NEIGHBOUR: 'it returns false'. Refute it at one input. -/
def kmemGraceWrong : ChangeSpec := { name := "kmemGrace", fn := fun _ => fun
  | [d] => { results := [.lit (.bool false)], args := [d] }
  | _ => none }
def KmemGraceWrongFalsely : Prop := kmemGraceRow.holds Try.pinned (OpenSpec.ofChange kmemGraceWrong)

/-- 'portcullislaw02.KmemNever': WHATEVER THE INPUT: true; the input reads as it did. -/
def kmemNeverSpec : ChangeSpec := { name := "kmemNever", fn := fun _ => fun
  | [d] => { results := [.lit (.bool true)], args := [d] }
  | _ => none }
def kmemNeverRow : OpenClaim := { program := "yteglgmdmnhkmgaa", sum := "ad3dd6e5a8ddaa3e2ba30d1eae679264b8f7f2fcdf44ed66a0b04e5483c43cbc", func := "portcullis/portcullislaw02.KmemNever", spec := "kmemNever", unfollowed := true, recurses := true, apart := false }
def KmemNeverSaid : Prop := kmemNeverRow.holds Try.pinned (OpenSpec.ofChange kmemNeverSpec)

/-- ITS FALSE NEIGHBOUR: 'it returns false'. Refute it at one input. -/
def kmemNeverWrong : ChangeSpec := { name := "kmemNever", fn := fun _ => fun
  | [d] => { results := [.lit (.bool false)], args := [d] }
  | _ => none }
def KmemNeverWrongFalsely : Prop := kmemNeverRow.holds Try.pinned (OpenSpec.ofChange kmemNeverWrong)

/-- 'portcullislaw02.KmemPlays': WHATEVER THE INPUT: true; the input reads as it did. -/
def kmemPlaysSpec : ChangeSpec := { name := "kmemPlays", fn := fun _ => fun
  | [d] => { results := [.lit (.bool true)], args := [d] }
  | _ => none }
def kmemPlaysRow : OpenClaim := { program := "yteglgmdmnhkmgaa", sum := "ad3dd6e5a8ddaa3e2ba30d1eae679264b8f7f2fcdf44ed66a0b04e5483c43cbc", func := "portcullis/portcullislaw02.KmemPlays", spec := "kmemPlays", unfollowed := true, recurses := true, apart := false }
def KmemPlaysSaid : Prop := kmemPlaysRow.holds Try.pinned (OpenSpec.ofChange kmemPlaysSpec)

/-- ITS FALSE NEIGHBOUR: 'it returns false'. Refute it at one input. -/
def kmemPlaysWrong : ChangeSpec := { name := "kmemPlays", fn := fun _ => fun
  | [d] => { results := [.lit (.bool false)], args := [d] }
  | _ => none }
def KmemPlaysWrongFalsely : Prop := kmemPlaysRow.holds Try.pinned (OpenSpec.ofChange kmemPlaysWrong)

/-- 'portcullislaw02.KmemNone': WHATEVER THE INPUT: true; the input reads as it did. -/
def kmemNoneSpec : ChangeSpec := { name := "kmemNone", fn := fun _ => fun
  | [d] => { results := [.lit (.bool true)], args := [d] }
  | _ => none }
def kmemNoneRow : OpenClaim := { program := "yteglgmdmnhkmgaa", sum := "ad3dd6e5a8ddaa3e2ba30d1eae679264b8f7f2fcdf44ed66a0b04e5483c43cbc", func := "portcullis/portcullislaw02.KmemNone", spec := "kmemNone", unfollowed := true, recurses := true, apart := false }
def KmemNoneSaid : Prop := kmemNoneRow.holds Try.pinned (OpenSpec.ofChange kmemNoneSpec)

/-- ITS FALSE NEIGHBOUR: 'it returns false'. Refute it at one input. -/
def kmemNoneWrong : ChangeSpec := { name := "kmemNone", fn := fun _ => fun
  | [d] => { results := [.lit (.bool false)], args := [d] }
  | _ => none }
def KmemNoneWrongFalsely : Prop := kmemNoneRow.holds Try.pinned (OpenSpec.ofChange kmemNoneWrong)

/- THE SECOND FORM. 'bulk': how many values and letters a reading holds, each counted each time it is reached (what is shared counts as often as it is met; a slice's spare places count too). A statement '..UptoSaid' is the law's where the arguments, and the package variables that the reading takes, are together of bulk at most 1048576: NARROWER than '..Said'. Prove '..Said' where nothing that the law and all that it calls make is longer than what came in: it says more and counts as full. Else prove '..UptoSaid'. A law counts once. -/
mutual
def uptoBulk {H : Type} : DataW H → Nat
  | .lit (.string bytes) => bytes.length + 1
  | .lit _ => 1
  | .nil => 1
  | .ptr d => uptoBulk d + 1
  | .slice elems spare => uptoBulkAll elems + uptoBulkAll spare + 1
  | .agg parts => uptoBulkAll parts + 1
  | .iface _ d => uptoBulk d + 1
  | .map entries => uptoBulkEntries entries + 1
  | .held _ => 1
def uptoBulkAll {H : Type} : List (DataW H) → Nat
  | [] => 0
  | d :: r => uptoBulk d + uptoBulkAll r
def uptoBulkEntries {H : Type} : List (Lit × DataW H) → Nat
  | [] => 0
  | x :: r => uptoBulkEntry x + uptoBulkEntries r
def uptoBulkEntry {H : Type} : Lit × DataW H → Nat
  | (.string bytes, d) => bytes.length + uptoBulk d + 1
  | (_, d) => uptoBulk d + 1
 end
def uptoSmall : (H : Type) → List (DataW H) → Bool := fun _ ds => decide (uptoBulkAll ds ≤ 1048576)
def OpenSpec.upto (s : _root_.Go.ChangeSpec) : _root_.Go.OpenSpec := { _root_.Go.OpenSpec.ofChange s with cond := some uptoSmall }

/-- 'portcullislaw02.KmemHolds', WHERE WHAT IT READS IS OF BULK AT MOST 1048576: true; the input reads as it did. -/
def kmemHoldsUptoRow : OpenClaim := { program := "yteglgmdmnhkmgaa", sum := "ad3dd6e5a8ddaa3e2ba30d1eae679264b8f7f2fcdf44ed66a0b04e5483c43cbc", func := "portcullis/portcullislaw02.KmemHolds", spec := "kmemHolds", apart := false, narrowed := true }
def KmemHoldsUptoSaid : Prop := kmemHoldsUptoRow.holds Try.pinned (OpenSpec.upto kmemHoldsSpec)

/-- 'portcullislaw02.KmemGrace', WHERE WHAT IT READS IS OF BULK AT MOST 1048576: true; the input reads as it did. -/
def kmemGraceUptoRow : OpenClaim := { program := "yteglgmdmnhkmgaa", sum := "ad3dd6e5a8ddaa3e2ba30d1eae679264b8f7f2fcdf44ed66a0b04e5483c43cbc", func := "portcullis/portcullislaw02.KmemGrace", spec := "kmemGrace", apart := false, narrowed := true }
def KmemGraceUptoSaid : Prop := kmemGraceUptoRow.holds Try.pinned (OpenSpec.upto kmemGraceSpec)

/-- 'portcullislaw02.KmemNever', WHERE WHAT IT READS IS OF BULK AT MOST 1048576: true; the input reads as it did. -/
def kmemNeverUptoRow : OpenClaim := { program := "yteglgmdmnhkmgaa", sum := "ad3dd6e5a8ddaa3e2ba30d1eae679264b8f7f2fcdf44ed66a0b04e5483c43cbc", func := "portcullis/portcullislaw02.KmemNever", spec := "kmemNever", unfollowed := true, recurses := true, apart := false, narrowed := true }
def KmemNeverUptoSaid : Prop := kmemNeverUptoRow.holds Try.pinned (OpenSpec.upto kmemNeverSpec)

/-- 'portcullislaw02.KmemPlays', WHERE WHAT IT READS IS OF BULK AT MOST 1048576: true; the input reads as it did. -/
def kmemPlaysUptoRow : OpenClaim := { program := "yteglgmdmnhkmgaa", sum := "ad3dd6e5a8ddaa3e2ba30d1eae679264b8f7f2fcdf44ed66a0b04e5483c43cbc", func := "portcullis/portcullislaw02.KmemPlays", spec := "kmemPlays", unfollowed := true, recurses := true, apart := false, narrowed := true }
def KmemPlaysUptoSaid : Prop := kmemPlaysUptoRow.holds Try.pinned (OpenSpec.upto kmemPlaysSpec)

/-- 'portcullislaw02.KmemNone', WHERE WHAT IT READS IS OF BULK AT MOST 1048576: true; the input reads as it did. -/
def kmemNoneUptoRow : OpenClaim := { program := "yteglgmdmnhkmgaa", sum := "ad3dd6e5a8ddaa3e2ba30d1eae679264b8f7f2fcdf44ed66a0b04e5483c43cbc", func := "portcullis/portcullislaw02.KmemNone", spec := "kmemNone", unfollowed := true, recurses := true, apart := false, narrowed := true }
def KmemNoneUptoSaid : Prop := kmemNoneUptoRow.holds Try.pinned (OpenSpec.upto kmemNoneSpec)

end Rows
end Go.Proofs.Yteglgmdmnhkmgaa
