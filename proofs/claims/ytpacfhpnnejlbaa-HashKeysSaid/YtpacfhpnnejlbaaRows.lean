/-
  No cell of these rows narrows 'for every input' (looked for: loops, veiled, ifaces, maps, wideKeys, modest, calm, conditions, laid).
  DERIVED. THE GIVEN ROWS OF THIS SEAT. 5 by the template 'for every input the law returns true; each argument reads behind the call as it read before'; 0 by the template 'total and deterministic' (their statements: YtpacfhpnnejlbaaTotals.lean).
  GIVEN WITH THE SEED: the statements are not yours to turn. If you find one false, say at which input.
  Laid BY PROGRAM, IN A SANDBOX (cutbox-rows.mjs): the forced cells as the released guide's own fill.sh prints them over the translation 4b2124b2cbc51e64… (all of the seat's roots in one cut). By AI agents, Wed Nov 11 2026. No macro, syntax, notation, axiom, sorry.
-/
import Derived.Test.YtpacfhpnnejlbaaChecked
import GoSem.Claim
import GoSem.ClaimJoined
import GoSem.ClaimMapViews
import Derived.JoinedTies
import Derived.KernelRfl
namespace Go.Proofs.Ytpacfhpnnejlbaa
/- THE CELL 'sum', in the pinned program and in every row, IS THE sha256 OF THE DUMP (.gsa) THAT YtpacfhpnnejlbaaProg.lean LOADS. Nothing in Lean hashes anything: it is a label: what it is worth is what the hold of that sum in a sandbox is worth. -/
noncomputable def Try.pinned : Pinned := { name := "ytpacfhpnnejlbaa", sum := "4b2124b2cbc51e641c6a7ae1a852c376d058e71a78f555fa6ef82447f11ecd84", checked := Try.checked }
namespace Rows
def none {H : Type} : Left H := { results := [], args := [] }

/-- 'portcullislaw10.HashKeys': WHATEVER THE INPUT: true; the input reads as it did. -/
def hashKeysSpec : ChangeSpec := { name := "hashKeys", fn := fun _ => fun
  | [d] => { results := [.lit (.bool true)], args := [d] }
  | _ => none }
def hashKeysRow : OpenClaim := { program := "ytpacfhpnnejlbaa", sum := "4b2124b2cbc51e641c6a7ae1a852c376d058e71a78f555fa6ef82447f11ecd84", func := "portcullis/portcullislaw10.HashKeys", spec := "hashKeys", apart := false }
def HashKeysSaid : Prop := hashKeysRow.holds Try.pinned (OpenSpec.ofChange hashKeysSpec)

/-- ITS FALSE NEIGHBOUR: 'it returns false'. Refute it at one input. -/
def hashKeysWrong : ChangeSpec := { name := "hashKeys", fn := fun _ => fun
  | [d] => { results := [.lit (.bool false)], args := [d] }
  | _ => none }
def HashKeysWrongFalsely : Prop := hashKeysRow.holds Try.pinned (OpenSpec.ofChange hashKeysWrong)

/-- 'portcullislaw10.HashLru': WHATEVER THE INPUT: true; the input reads as it did. -/
def hashLruSpec : ChangeSpec := { name := "hashLru", fn := fun _ => fun
  | [d1, d2] => { results := [.lit (.bool true)], args := [d1, d2] }
  | _ => none }
def hashLruRow : OpenClaim := { program := "ytpacfhpnnejlbaa", sum := "4b2124b2cbc51e641c6a7ae1a852c376d058e71a78f555fa6ef82447f11ecd84", func := "portcullis/portcullislaw10.HashLru", spec := "hashLru", apart := false }
def HashLruSaid : Prop := hashLruRow.holds Try.pinned (OpenSpec.ofChange hashLruSpec)

/-- ITS FALSE NEIGHBOUR: 'it returns false'. Refute it at one input. -/
def hashLruWrong : ChangeSpec := { name := "hashLru", fn := fun _ => fun
  | [d1, d2] => { results := [.lit (.bool false)], args := [d1, d2] }
  | _ => none }
def HashLruWrongFalsely : Prop := hashLruRow.holds Try.pinned (OpenSpec.ofChange hashLruWrong)

/-- 'portcullislaw10.HashStays': WHATEVER THE INPUT: true; the input reads as it did. -/
def hashStaysSpec : ChangeSpec := { name := "hashStays", fn := fun _ => fun
  | [d1, d2, d3] => { results := [.lit (.bool true)], args := [d1, d2, d3] }
  | _ => none }
def hashStaysRow : OpenClaim := { program := "ytpacfhpnnejlbaa", sum := "4b2124b2cbc51e641c6a7ae1a852c376d058e71a78f555fa6ef82447f11ecd84", func := "portcullis/portcullislaw10.HashStays", spec := "hashStays", apart := false }
def HashStaysSaid : Prop := hashStaysRow.holds Try.pinned (OpenSpec.ofChange hashStaysSpec)

/-- ITS FALSE NEIGHBOUR: 'it returns false'. Refute it at one input. -/
def hashStaysWrong : ChangeSpec := { name := "hashStays", fn := fun _ => fun
  | [d1, d2, d3] => { results := [.lit (.bool false)], args := [d1, d2, d3] }
  | _ => none }
def HashStaysWrongFalsely : Prop := hashStaysRow.holds Try.pinned (OpenSpec.ofChange hashStaysWrong)

/-- 'portcullislaw10.HashNone': WHATEVER THE INPUT: true; the input reads as it did. -/
def hashNoneSpec : ChangeSpec := { name := "hashNone", fn := fun _ => fun
  | [d] => { results := [.lit (.bool true)], args := [d] }
  | _ => none }
def hashNoneRow : OpenClaim := { program := "ytpacfhpnnejlbaa", sum := "4b2124b2cbc51e641c6a7ae1a852c376d058e71a78f555fa6ef82447f11ecd84", func := "portcullis/portcullislaw10.HashNone", spec := "hashNone", apart := false }
def HashNoneSaid : Prop := hashNoneRow.holds Try.pinned (OpenSpec.ofChange hashNoneSpec)

/-- ITS FALSE NEIGHBOUR: 'it returns false'. Refute it at one input. -/
def hashNoneWrong : ChangeSpec := { name := "hashNone", fn := fun _ => fun
  | [d] => { results := [.lit (.bool false)], args := [d] }
  | _ => none }
def HashNoneWrongFalsely : Prop := hashNoneRow.holds Try.pinned (OpenSpec.ofChange hashNoneWrong)

/-- 'portcullislaw10.HashPlays': WHATEVER THE INPUT: true; the input reads as it did. -/
def hashPlaysSpec : ChangeSpec := { name := "hashPlays", fn := fun _ => fun
  | [d1, d2, d3] => { results := [.lit (.bool true)], args := [d1, d2, d3] }
  | _ => none }
def hashPlaysRow : OpenClaim := { program := "ytpacfhpnnejlbaa", sum := "4b2124b2cbc51e641c6a7ae1a852c376d058e71a78f555fa6ef82447f11ecd84", func := "portcullis/portcullislaw10.HashPlays", spec := "hashPlays", unfollowed := true, recurses := true, apart := false }
def HashPlaysSaid : Prop := hashPlaysRow.holds Try.pinned (OpenSpec.ofChange hashPlaysSpec)

/-- ITS FALSE NEIGHBOUR: 'it returns false'. Refute it at one input. -/
def hashPlaysWrong : ChangeSpec := { name := "hashPlays", fn := fun _ => fun
  | [d1, d2, d3] => { results := [.lit (.bool false)], args := [d1, d2, d3] }
  | _ => none }
def HashPlaysWrongFalsely : Prop := hashPlaysRow.holds Try.pinned (OpenSpec.ofChange hashPlaysWrong)

/- THE SECOND FORM. 'bulk': how many values and letters a reading holds, each counted each time it is reached (what is shared counts as often as it is met; a slice's spare places count too). A statement '..UptoSaid' is the law's where the arguments, and the package variables that the reading takes, are together of bulk at most 1048576: NARROWER than '..Said'. Prove '..Said' where nothing that the law and all that it calls make is longer than what came in: it says more and counts as full. Else prove '..UptoSaid'. A law counts once. -/
mutual
def uptoBulk {H : Type} : DataW H → Nat
  | .lit (.string bytes) => bytes.length + 1
  | .lit _ => 1
  | .nil => 1
  | .ptr d => uptoBulk d + 1
  | .slice elems spare => uptoBulkAll elems + uptoBulkAll spare + 1
  | .agg parts => uptoBulkAll parts + 1
  | .iface _ d => uptoBulk d + 1
  | .map entries => uptoBulkEntries entries + 1
  | .held _ => 1
def uptoBulkAll {H : Type} : List (DataW H) → Nat
  | [] => 0
  | d :: r => uptoBulk d + uptoBulkAll r
def uptoBulkEntries {H : Type} : List (Lit × DataW H) → Nat
  | [] => 0
  | x :: r => uptoBulkEntry x + uptoBulkEntries r
def uptoBulkEntry {H : Type} : Lit × DataW H → Nat
  | (.string bytes, d) => bytes.length + uptoBulk d + 1
  | (_, d) => uptoBulk d + 1
 end
def uptoSmall : (H : Type) → List (DataW H) → Bool := fun _ ds => decide (uptoBulkAll ds ≤ 1048576)
def OpenSpec.upto (s : _root_.Go.ChangeSpec) : _root_.Go.OpenSpec := { _root_.Go.OpenSpec.ofChange s with cond := some uptoSmall }

/-- 'portcullislaw10.HashKeys', WHERE WHAT IT READS IS OF BULK AT MOST 1048576: true; the input reads as it did. -/
def hashKeysUptoRow : OpenClaim := { program := "ytpacfhpnnejlbaa", sum := "4b2124b2cbc51e641c6a7ae1a852c376d058e71a78f555fa6ef82447f11ecd84", func := "portcullis/portcullislaw10.HashKeys", spec := "hashKeys", apart := false, narrowed := true }
def HashKeysUptoSaid : Prop := hashKeysUptoRow.holds Try.pinned (OpenSpec.upto hashKeysSpec)

/-- 'portcullislaw10.HashLru', WHERE WHAT IT READS IS OF BULK AT MOST 1048576: true; the input reads as it did. -/
def hashLruUptoRow : OpenClaim := { program := "ytpacfhpnnejlbaa", sum := "4b2124b2cbc51e641c6a7ae1a852c376d058e71a78f555fa6ef82447f11ecd84", func := "portcullis/portcullislaw10.HashLru", spec := "hashLru", apart := false, narrowed := true }
def HashLruUptoSaid : Prop := hashLruUptoRow.holds Try.pinned (OpenSpec.upto hashLruSpec)

/-- 'portcullislaw10.HashStays', WHERE WHAT IT READS IS OF BULK AT MOST 1048576: true; the input reads as it did. -/
def hashStaysUptoRow : OpenClaim := { program := "ytpacfhpnnejlbaa", sum := "4b2124b2cbc51e641c6a7ae1a852c376d058e71a78f555fa6ef82447f11ecd84", func := "portcullis/portcullislaw10.HashStays", spec := "hashStays", apart := false, narrowed := true }
def HashStaysUptoSaid : Prop := hashStaysUptoRow.holds Try.pinned (OpenSpec.upto hashStaysSpec)

/-- 'portcullislaw10.HashNone', WHERE WHAT IT READS IS OF BULK AT MOST 1048576: true; the input reads as it did. -/
def hashNoneUptoRow : OpenClaim := { program := "ytpacfhpnnejlbaa", sum := "4b2124b2cbc51e641c6a7ae1a852c376d058e71a78f555fa6ef82447f11ecd84", func := "portcullis/portcullislaw10.HashNone", spec := "hashNone", apart := false, narrowed := true }
def HashNoneUptoSaid : Prop := hashNoneUptoRow.holds Try.pinned (OpenSpec.upto hashNoneSpec)

/-- 'portcullislaw10.HashPlays', WHERE WHAT IT READS IS OF BULK AT MOST 1048576: true; the input reads as it did. -/
def hashPlaysUptoRow : OpenClaim := { program := "ytpacfhpnnejlbaa", sum := "4b2124b2cbc51e641c6a7ae1a852c376d058e71a78f555fa6ef82447f11ecd84", func := "portcullis/portcullislaw10.HashPlays", spec := "hashPlays", unfollowed := true, recurses := true, apart := false, narrowed := true }
def HashPlaysUptoSaid : Prop := hashPlaysUptoRow.holds Try.pinned (OpenSpec.upto hashPlaysSpec)

end Rows
end Go.Proofs.Ytpacfhpnnejlbaa
