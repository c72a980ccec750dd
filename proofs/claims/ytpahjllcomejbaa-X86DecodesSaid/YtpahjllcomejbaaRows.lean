/-
  No cell of these rows narrows 'for every input' (looked for: loops, veiled, ifaces, maps, wideKeys, modest, calm, conditions, laid).
  DERIVED. THE GIVEN ROWS OF THIS SEAT. 3 by the template 'for every input the law returns true; each argument reads behind the call as it read before'; 0 by the template 'total and deterministic' (their statements: YtpahjllcomejbaaTotals.lean).
  GIVEN WITH THE SEED: the statements are not yours to turn. If you find one false, say at which input.
  Laid BY PROGRAM, IN A SANDBOX (cutbox-rows.mjs): the forced cells as the released guide's own fill.sh prints them over the translation 7a53dd17e55fa1dd… (all of the seat's roots in one cut). By AI agents, Wed Nov 11 2026. No macro, syntax, notation, axiom, sorry.
-/
import Derived.Test.YtpahjllcomejbaaChecked
import GoSem.Claim
import GoSem.ClaimJoined
import GoSem.ClaimMapViews
import Derived.JoinedTies
import Derived.KernelRfl
namespace Go.Proofs.Ytpahjllcomejbaa
/- THE CELL 'sum', in the pinned program and in every row, IS THE sha256 OF THE DUMP (.gsa) THAT YtpahjllcomejbaaProg.lean LOADS. Nothing in Lean hashes anything: it is a label: what it is worth is what the hold of that sum in a sandbox is worth. -/
noncomputable def Try.pinned : Pinned := { name := "ytpahjllcomejbaa", sum := "7a53dd17e55fa1dd5d80e66fab311e3bf6d88516c15e654dc493645872414ad3", checked := Try.checked }
namespace Rows
def none {H : Type} : Left H := { results := [], args := [] }

/-- 'portcullislaw24.X86Encodes': WHATEVER THE INPUT: true; the input reads as it did. -/
def x86EncodesSpec : ChangeSpec := { name := "x86Encodes", fn := fun _ => fun
  | [d] => { results := [.lit (.bool true)], args := [d] }
  | _ => none }
def x86EncodesRow : OpenClaim := { program := "ytpahjllcomejbaa", sum := "7a53dd17e55fa1dd5d80e66fab311e3bf6d88516c15e654dc493645872414ad3", func := "portcullis/portcullislaw24.X86Encodes", spec := "x86Encodes", unfollowed := true, recurses := true, apart := false }
def X86EncodesSaid : Prop := x86EncodesRow.holds Try.pinned (OpenSpec.ofChange x86EncodesSpec)

/-- ITS FALSE NEIGHBOUR: 'it returns false'. Refute it at one input. -/
def x86EncodesWrong : ChangeSpec := { name := "x86Encodes", fn := fun _ => fun
  | [d] => { results := [.lit (.bool false)], args := [d] }
  | _ => none }
def X86EncodesWrongFalsely : Prop := x86EncodesRow.holds Try.pinned (OpenSpec.ofChange x86EncodesWrong)

/-- 'portcullislaw24.X86Decodes': WHATEVER THE INPUT: true; the input reads as it did. -/
def x86DecodesSpec : ChangeSpec := { name := "x86Decodes", fn := fun _ => fun
  | [d] => { results := [.lit (.bool true)], args := [d] }
  | _ => none }
def x86DecodesRow : OpenClaim := { program := "ytpahjllcomejbaa", sum := "7a53dd17e55fa1dd5d80e66fab311e3bf6d88516c15e654dc493645872414ad3", func := "portcullis/portcullislaw24.X86Decodes", spec := "x86Decodes", unfollowed := true, recurses := true, apart := false }
def X86DecodesSaid : Prop := x86DecodesRow.holds Try.pinned (OpenSpec.ofChange x86DecodesSpec)

/-- ITS FALSE NEIGHBOUR: 'it returns false'. Refute it at one input. -/
def x86DecodesWrong : ChangeSpec := { name := "x86Decodes", fn := fun _ => fun
  | [d] => { results := [.lit (.bool false)], args := [d] }
  | _ => none }
def X86DecodesWrongFalsely : Prop := x86DecodesRow.holds Try.pinned (OpenSpec.ofChange x86DecodesWrong)

/-- 'portcullislaw24.X86Back': WHATEVER THE INPUT: true; the input reads as it did. -/
def x86BackSpec : ChangeSpec := { name := "x86Back", fn := fun _ => fun
  | [d] => { results := [.lit (.bool true)], args := [d] }
  | _ => none }
def x86BackRow : OpenClaim := { program := "ytpahjllcomejbaa", sum := "7a53dd17e55fa1dd5d80e66fab311e3bf6d88516c15e654dc493645872414ad3", func := "portcullis/portcullislaw24.X86Back", spec := "x86Back", unfollowed := true, recurses := true, apart := false }
def X86BackSaid : Prop := x86BackRow.holds Try.pinned (OpenSpec.ofChange x86BackSpec)

/-- ITS FALSE NEIGHBOUR: 'it returns false'. Refute it at one input. -/
def x86BackWrong : ChangeSpec := { name := "x86Back", fn := fun _ => fun
  | [d] => { results := [.lit (.bool false)], args := [d] }
  | _ => none }
def X86BackWrongFalsely : Prop := x86BackRow.holds Try.pinned (OpenSpec.ofChange x86BackWrong)

/- THE SECOND FORM. 'bulk': how many values and letters a reading holds, each counted each time it is reached (what is shared counts as often as it is met; a slice's spare places count too). A statement '..UptoSaid' is the law's where the arguments, and the package variables that the reading takes, are together of bulk at most 1048576: NARROWER than '..Said'. Prove '..Said' where nothing that the law and all that it calls make is longer than what came in: it says more and counts as full. Else prove '..UptoSaid'. A law counts once. -/
mutual
def uptoBulk {H : Type} : DataW H → Nat
  | .lit (.string bytes) => bytes.length + 1
  | .lit _ => 1
  | .nil => 1
  | .ptr d => uptoBulk d + 1
  | .slice elems spare => uptoBulkAll elems + uptoBulkAll spare + 1
  | .agg parts => uptoBulkAll parts + 1
  | .iface _ d => uptoBulk d + 1
  | .map entries => uptoBulkEntries entries + 1
  | .held _ => 1
def uptoBulkAll {H : Type} : List (DataW H) → Nat
  | [] => 0
  | d :: r => uptoBulk d + uptoBulkAll r
def uptoBulkEntries {H : Type} : List (Lit × DataW H) → Nat
  | [] => 0
  | x :: r => uptoBulkEntry x + uptoBulkEntries r
def uptoBulkEntry {H : Type} : Lit × DataW H → Nat
  | (.string bytes, d) => bytes.length + uptoBulk d + 1
  | (_, d) => uptoBulk d + 1
 end
def uptoSmall : (H : Type) → List (DataW H) → Bool := fun _ ds => decide (uptoBulkAll ds ≤ 1048576)
def OpenSpec.upto (s : _root_.Go.ChangeSpec) : _root_.Go.OpenSpec := { _root_.Go.OpenSpec.ofChange s with cond := some uptoSmall }

/-- 'portcullislaw24.X86Encodes', WHERE WHAT IT READS IS OF BULK AT MOST 1048576: true; the input reads as it did. -/
def x86EncodesUptoRow : OpenClaim := { program := "ytpahjllcomejbaa", sum := "7a53dd17e55fa1dd5d80e66fab311e3bf6d88516c15e654dc493645872414ad3", func := "portcullis/portcullislaw24.X86Encodes", spec := "x86Encodes", unfollowed := true, recurses := true, apart := false, narrowed := true }
def X86EncodesUptoSaid : Prop := x86EncodesUptoRow.holds Try.pinned (OpenSpec.upto x86EncodesSpec)

/-- 'portcullislaw24.X86Decodes', WHERE WHAT IT READS IS OF BULK AT MOST 1048576: true; the input reads as it did. -/
def x86DecodesUptoRow : OpenClaim := { program := "ytpahjllcomejbaa", sum := "7a53dd17e55fa1dd5d80e66fab311e3bf6d88516c15e654dc493645872414ad3", func := "portcullis/portcullislaw24.X86Decodes", spec := "x86Decodes", unfollowed := true, recurses := true, apart := false, narrowed := true }
def X86DecodesUptoSaid : Prop := x86DecodesUptoRow.holds Try.pinned (OpenSpec.upto x86DecodesSpec)

/-- 'portcullislaw24.X86Back', WHERE WHAT IT READS IS OF BULK AT MOST 1048576: true; the input reads as it did. -/
def x86BackUptoRow : OpenClaim := { program := "ytpahjllcomejbaa", sum := "7a53dd17e55fa1dd5d80e66fab311e3bf6d88516c15e654dc493645872414ad3", func := "portcullis/portcullislaw24.X86Back", spec := "x86Back", unfollowed := true, recurses := true, apart := false, narrowed := true }
def X86BackUptoSaid : Prop := x86BackUptoRow.holds Try.pinned (OpenSpec.upto x86BackSpec)

end Rows
end Go.Proofs.Ytpahjllcomejbaa
