/-
  No cell of these rows narrows 'for every input' (looked for: loops, veiled, ifaces, maps, wideKeys, modest, calm, conditions, laid).
  DERIVED. THE GIVEN ROWS OF THIS SEAT. 4 by the template 'for every input the law returns true; each argument reads behind the call as it read before'; 0 by the template 'total and deterministic' (their statements: YtfdkemkfiddmjaaTotals.lean).
  GIVEN WITH THE SEED: the statements are not yours to turn. If you find one false, say at which input.
  Laid BY PROGRAM, IN A SANDBOX (cutbox-rows.mjs): the forced cells as the released guide's own fill.sh prints them over the translation d4326e6fcbc10e02… (all of the seat's roots in one cut). By AI agents, Wed Nov 11 2026. No macro, syntax, notation, axiom, sorry.
-/
import Derived.Test.YtfdkemkfiddmjaaChecked
import GoSem.Claim
import GoSem.ClaimJoined
import GoSem.ClaimMapViews
import Derived.JoinedTies
import Derived.KernelRfl
namespace Go.Proofs.Ytfdkemkfiddmjaa
/- THE CELL 'sum', in the pinned program and in every row, IS THE sha256 OF THE DUMP (.gsa) THAT YtfdkemkfiddmjaaProg.lean LOADS. Nothing in Lean hashes anything: it is a label: what it is worth is what the hold of that sum in a sandbox is worth. -/
noncomputable def Try.pinned : Pinned := { name := "ytfdkemkfiddmjaa", sum := "d4326e6fcbc10e02bad294139a48819567bc82f77557fb088c07b4d46e6328f2", checked := Try.checked }
namespace Rows
def none {H : Type} : Left H := { results := [], args := [] }

/-- 'portcullislaw14.ObjsFds': WHATEVER THE INPUT: true; the input reads as it did. -/
def objsFdsSpec : ChangeSpec := { name := "objsFds", fn := fun _ => fun
  | [d1, d2] => { results := [.lit (.bool true)], args := [d1, d2] }
  | _ => none }
def objsFdsRow : OpenClaim := { program := "ytfdkemkfiddmjaa", sum := "d4326e6fcbc10e02bad294139a48819567bc82f77557fb088c07b4d46e6328f2", func := "portcullis/portcullislaw14.ObjsFds", spec := "objsFds", inPlace := ["internal/bytealg.IndexByteString", "internal/bytealg.IndexString"], unfollowed := true, recurses := true, named := ["internal/bytealg.MaxLen"], apart := false }
def ObjsFdsSaid : Prop := objsFdsRow.holds Try.pinned (OpenSpec.ofChange objsFdsSpec)

/-- ITS FALSE NEIGHBOUR: 'it returns false'. Refute it at one input. -/
def objsFdsWrong : ChangeSpec := { name := "objsFds", fn := fun _ => fun
  | [d1, d2] => { results := [.lit (.bool false)], args := [d1, d2] }
  | _ => none }
def ObjsFdsWrongFalsely : Prop := objsFdsRow.holds Try.pinned (OpenSpec.ofChange objsFdsWrong)

/-- 'portcullislaw14.ObjsPlays': WHATEVER THE INPUT: true; the input reads as it did. -/
def objsPlaysSpec : ChangeSpec := { name := "objsPlays", fn := fun _ => fun
  | [d] => { results := [.lit (.bool true)], args := [d] }
  | _ => none }
def objsPlaysRow : OpenClaim := { program := "ytfdkemkfiddmjaa", sum := "d4326e6fcbc10e02bad294139a48819567bc82f77557fb088c07b4d46e6328f2", func := "portcullis/portcullislaw14.ObjsPlays", spec := "objsPlays", inPlace := ["internal/bytealg.IndexByteString", "internal/bytealg.IndexString"], unfollowed := true, recurses := true, named := ["internal/bytealg.MaxLen"], apart := false }
def ObjsPlaysSaid : Prop := objsPlaysRow.holds Try.pinned (OpenSpec.ofChange objsPlaysSpec)

/-- ITS FALSE NEIGHBOUR: 'it returns false'. Refute it at one input. -/
def objsPlaysWrong : ChangeSpec := { name := "objsPlays", fn := fun _ => fun
  | [d] => { results := [.lit (.bool false)], args := [d] }
  | _ => none }
def ObjsPlaysWrongFalsely : Prop := objsPlaysRow.holds Try.pinned (OpenSpec.ofChange objsPlaysWrong)

/-- 'portcullislaw14.ObjsHeld': WHATEVER THE INPUT: true; the input reads as it did. -/
def objsHeldSpec : ChangeSpec := { name := "objsHeld", fn := fun _ => fun
  | [d1, d2] => { results := [.lit (.bool true)], args := [d1, d2] }
  | _ => none }
def objsHeldRow : OpenClaim := { program := "ytfdkemkfiddmjaa", sum := "d4326e6fcbc10e02bad294139a48819567bc82f77557fb088c07b4d46e6328f2", func := "portcullis/portcullislaw14.ObjsHeld", spec := "objsHeld", inPlace := ["internal/bytealg.IndexByteString", "internal/bytealg.IndexString"], unfollowed := true, recurses := true, named := ["internal/bytealg.MaxLen"], apart := false }
def ObjsHeldSaid : Prop := objsHeldRow.holds Try.pinned (OpenSpec.ofChange objsHeldSpec)

/-- ITS FALSE NEIGHBOUR: 'it returns false'. Refute it at one input. -/
def objsHeldWrong : ChangeSpec := { name := "objsHeld", fn := fun _ => fun
  | [d1, d2] => { results := [.lit (.bool false)], args := [d1, d2] }
  | _ => none }
def ObjsHeldWrongFalsely : Prop := objsHeldRow.holds Try.pinned (OpenSpec.ofChange objsHeldWrong)

/-- 'portcullislaw14.ObjsNone': WHATEVER THE INPUT: true; the input reads as it did. -/
def objsNoneSpec : ChangeSpec := { name := "objsNone", fn := fun _ => fun
  | [d] => { results := [.lit (.bool true)], args := [d] }
  | _ => none }
def objsNoneRow : OpenClaim := { program := "ytfdkemkfiddmjaa", sum := "d4326e6fcbc10e02bad294139a48819567bc82f77557fb088c07b4d46e6328f2", func := "portcullis/portcullislaw14.ObjsNone", spec := "objsNone", inPlace := ["internal/bytealg.IndexByteString", "internal/bytealg.IndexString"], unfollowed := true, recurses := true, named := ["internal/bytealg.MaxLen"], apart := false }
def ObjsNoneSaid : Prop := objsNoneRow.holds Try.pinned (OpenSpec.ofChange objsNoneSpec)

/-- ITS FALSE NEIGHBOUR: 'it returns false'. Refute it at one input. -/
def objsNoneWrong : ChangeSpec := { name := "objsNone", fn := fun _ => fun
  | [d] => { results := [.lit (.bool false)], args := [d] }
  | _ => none }
def ObjsNoneWrongFalsely : Prop := objsNoneRow.holds Try.pinned (OpenSpec.ofChange objsNoneWrong)

/- THE SECOND FORM. 'bulk': how many values and letters a reading holds, each counted each time it is reached (what is shared counts as often as it is met; a slice's spare places count too). A statement '..UptoSaid' is the law's where the arguments, and the package variables that the reading takes, are together of bulk at most 1048576: NARROWER than '..Said'. Prove '..Said' where nothing that the law and all that it calls make is longer than what came in: it says more and counts as full. Else prove '..UptoSaid'. A law counts once. -/
mutual
def uptoBulk {H : Type} : DataW H → Nat
  | .lit (.string bytes) => bytes.length + 1
  | .lit _ => 1
  | .nil => 1
  | .ptr d => uptoBulk d + 1
  | .slice elems spare => uptoBulkAll elems + uptoBulkAll spare + 1
  | .agg parts => uptoBulkAll parts + 1
  | .iface _ d => uptoBulk d + 1
  | .map entries => uptoBulkEntries entries + 1
  | .held _ => 1
def uptoBulkAll {H : Type} : List (DataW H) → Nat
  | [] => 0
  | d :: r => uptoBulk d + uptoBulkAll r
def uptoBulkEntries {H : Type} : List (Lit × DataW H) → Nat
  | [] => 0
  | x :: r => uptoBulkEntry x + uptoBulkEntries r
def uptoBulkEntry {H : Type} : Lit × DataW H → Nat
  | (.string bytes, d) => bytes.length + uptoBulk d + 1
  | (_, d) => uptoBulk d + 1
 end
def uptoSmall : (H : Type) → List (DataW H) → Bool := fun _ ds => decide (uptoBulkAll ds ≤ 1048576)
def OpenSpec.upto (s : _root_.Go.ChangeSpec) : _root_.Go.OpenSpec := { _root_.Go.OpenSpec.ofChange s with cond := some uptoSmall }

/-- 'portcullislaw14.ObjsFds', WHERE WHAT IT READS IS OF BULK AT MOST 1048576: true; the input reads as it did. -/
def objsFdsUptoRow : OpenClaim := { program := "ytfdkemkfiddmjaa", sum := "d4326e6fcbc10e02bad294139a48819567bc82f77557fb088c07b4d46e6328f2", func := "portcullis/portcullislaw14.ObjsFds", spec := "objsFds", inPlace := ["internal/bytealg.IndexByteString", "internal/bytealg.IndexString"], unfollowed := true, recurses := true, named := ["internal/bytealg.MaxLen"], apart := false, narrowed := true }
def ObjsFdsUptoSaid : Prop := objsFdsUptoRow.holds Try.pinned (OpenSpec.upto objsFdsSpec)

/-- 'portcullislaw14.ObjsPlays', WHERE WHAT IT READS IS OF BULK AT MOST 1048576: true; the input reads as it did. -/
def objsPlaysUptoRow : OpenClaim := { program := "ytfdkemkfiddmjaa", sum := "d4326e6fcbc10e02bad294139a48819567bc82f77557fb088c07b4d46e6328f2", func := "portcullis/portcullislaw14.ObjsPlays", spec := "objsPlays", inPlace := ["internal/bytealg.IndexByteString", "internal/bytealg.IndexString"], unfollowed := true, recurses := true, named := ["internal/bytealg.MaxLen"], apart := false, narrowed := true }
def ObjsPlaysUptoSaid : Prop := objsPlaysUptoRow.holds Try.pinned (OpenSpec.upto objsPlaysSpec)

/-- 'portcullislaw14.ObjsHeld', WHERE WHAT IT READS IS OF BULK AT MOST 1048576: true; the input reads as it did. -/
def objsHeldUptoRow : OpenClaim := { program := "ytfdkemkfiddmjaa", sum := "d4326e6fcbc10e02bad294139a48819567bc82f77557fb088c07b4d46e6328f2", func := "portcullis/portcullislaw14.ObjsHeld", spec := "objsHeld", inPlace := ["internal/bytealg.IndexByteString", "internal/bytealg.IndexString"], unfollowed := true, recurses := true, named := ["internal/bytealg.MaxLen"], apart := false, narrowed := true }
def ObjsHeldUptoSaid : Prop := objsHeldUptoRow.holds Try.pinned (OpenSpec.upto objsHeldSpec)

/-- 'portcullislaw14.ObjsNone', WHERE WHAT IT READS IS OF BULK AT MOST 1048576: true; the input reads as it did. -/
def objsNoneUptoRow : OpenClaim := { program := "ytfdkemkfiddmjaa", sum := "d4326e6fcbc10e02bad294139a48819567bc82f77557fb088c07b4d46e6328f2", func := "portcullis/portcullislaw14.ObjsNone", spec := "objsNone", inPlace := ["internal/bytealg.IndexByteString", "internal/bytealg.IndexString"], unfollowed := true, recurses := true, named := ["internal/bytealg.MaxLen"], apart := false, narrowed := true }
def ObjsNoneUptoSaid : Prop := objsNoneUptoRow.holds Try.pinned (OpenSpec.upto objsNoneSpec)

end Rows
end Go.Proofs.Ytfdkemkfiddmjaa
