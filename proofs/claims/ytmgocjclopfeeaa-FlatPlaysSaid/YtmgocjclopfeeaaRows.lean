/-
  No cell of these rows narrows 'for every input' (looked for: loops, veiled, ifaces, maps, wideKeys, modest, calm, conditions, laid).
  DERIVED. THE GIVEN ROWS OF THIS SEAT. 5 by the template 'for every input the law returns true; each argument reads behind the call as it read before'; 0 by the template 'total and deterministic' (their statements: YtmgocjclopfeeaaTotals.lean).
  GIVEN WITH THE SEED: the statements are not yours to turn. If you find one false, say at which input.
  Laid BY PROGRAM, IN A SANDBOX (cutbox-rows.mjs): the forced cells as the released guide's own fill.sh prints them over the translation b798e1657559758a… (all of the seat's roots in one cut). By AI agents, Wed Nov 11 2026. No macro, syntax, notation, axiom, sorry.
-/
import Derived.Test.YtmgocjclopfeeaaChecked
import GoSem.Claim
import GoSem.ClaimJoined
import GoSem.ClaimMapViews
import Derived.JoinedTies
import Derived.KernelRfl
namespace Go.Proofs.Ytmgocjclopfeeaa
/- THE CELL 'sum', in the pinned program and in every row, IS THE sha256 OF THE DUMP (.gsa) THAT YtmgocjclopfeeaaProg.lean LOADS. Nothing in Lean hashes anything: it is a label: what it is worth is what the hold of that sum in a sandbox is worth. -/
noncomputable def Try.pinned : Pinned := { name := "ytmgocjclopfeeaa", sum := "b798e1657559758a55e66fd55de56b87c5696da5a772c5b3daf9ba6b74ae5bc6", checked := Try.checked }
namespace Rows
def none {H : Type} : Left H := { results := [], args := [] }

/-- 'portcullislaw08.FlatKeys': WHATEVER THE INPUT: true; the input reads as it did. -/
def flatKeysSpec : ChangeSpec := { name := "flatKeys", fn := fun _ => fun
  | [d] => { results := [.lit (.bool true)], args := [d] }
  | _ => none }
def flatKeysRow : OpenClaim := { program := "ytmgocjclopfeeaa", sum := "b798e1657559758a55e66fd55de56b87c5696da5a772c5b3daf9ba6b74ae5bc6", func := "portcullis/portcullislaw08.FlatKeys", spec := "flatKeys", unfollowed := true, recurses := true, apart := false }
def FlatKeysSaid : Prop := flatKeysRow.holds Try.pinned (OpenSpec.ofChange flatKeysSpec)

/-- ITS FALSE NEIGHBOUR: 'it returns false'. Refute it at one input. -/
def flatKeysWrong : ChangeSpec := { name := "flatKeys", fn := fun _ => fun
  | [d] => { results := [.lit (.bool false)], args := [d] }
  | _ => none }
def FlatKeysWrongFalsely : Prop := flatKeysRow.holds Try.pinned (OpenSpec.ofChange flatKeysWrong)

/-- 'portcullislaw08.FlatApart': WHATEVER THE INPUT: true; the input reads as it did. -/
def flatApartSpec : ChangeSpec := { name := "flatApart", fn := fun _ => fun
  | [d1, d2, d3] => { results := [.lit (.bool true)], args := [d1, d2, d3] }
  | _ => none }
def flatApartRow : OpenClaim := { program := "ytmgocjclopfeeaa", sum := "b798e1657559758a55e66fd55de56b87c5696da5a772c5b3daf9ba6b74ae5bc6", func := "portcullis/portcullislaw08.FlatApart", spec := "flatApart", unfollowed := true, recurses := true, apart := false }
def FlatApartSaid : Prop := flatApartRow.holds Try.pinned (OpenSpec.ofChange flatApartSpec)

/-- ITS FALSE NEIGHBOUR: 'it returns false'. Refute it at one input. -/
def flatApartWrong : ChangeSpec := { name := "flatApart", fn := fun _ => fun
  | [d1, d2, d3] => { results := [.lit (.bool false)], args := [d1, d2, d3] }
  | _ => none }
def FlatApartWrongFalsely : Prop := flatApartRow.holds Try.pinned (OpenSpec.ofChange flatApartWrong)

/-- 'portcullislaw08.FlatCpus': WHATEVER THE INPUT: true; the input reads as it did. -/
def flatCpusSpec : ChangeSpec := { name := "flatCpus", fn := fun _ => fun
  | [d1, d2, d3] => { results := [.lit (.bool true)], args := [d1, d2, d3] }
  | _ => none }
def flatCpusRow : OpenClaim := { program := "ytmgocjclopfeeaa", sum := "b798e1657559758a55e66fd55de56b87c5696da5a772c5b3daf9ba6b74ae5bc6", func := "portcullis/portcullislaw08.FlatCpus", spec := "flatCpus", unfollowed := true, recurses := true, apart := false }
def FlatCpusSaid : Prop := flatCpusRow.holds Try.pinned (OpenSpec.ofChange flatCpusSpec)

/-- ITS FALSE NEIGHBOUR: 'it returns false'. Refute it at one input. -/
def flatCpusWrong : ChangeSpec := { name := "flatCpus", fn := fun _ => fun
  | [d1, d2, d3] => { results := [.lit (.bool false)], args := [d1, d2, d3] }
  | _ => none }
def FlatCpusWrongFalsely : Prop := flatCpusRow.holds Try.pinned (OpenSpec.ofChange flatCpusWrong)

/-- 'portcullislaw08.FlatNone': WHATEVER THE INPUT: true; the input reads as it did. -/
def flatNoneSpec : ChangeSpec := { name := "flatNone", fn := fun _ => fun
  | [d] => { results := [.lit (.bool true)], args := [d] }
  | _ => none }
def flatNoneRow : OpenClaim := { program := "ytmgocjclopfeeaa", sum := "b798e1657559758a55e66fd55de56b87c5696da5a772c5b3daf9ba6b74ae5bc6", func := "portcullis/portcullislaw08.FlatNone", spec := "flatNone", unfollowed := true, recurses := true, apart := false }
def FlatNoneSaid : Prop := flatNoneRow.holds Try.pinned (OpenSpec.ofChange flatNoneSpec)

/-- ITS FALSE NEIGHBOUR: 'it returns false'. Refute it at one input. -/
def flatNoneWrong : ChangeSpec := { name := "flatNone", fn := fun _ => fun
  | [d] => { results := [.lit (.bool false)], args := [d] }
  | _ => none }
def FlatNoneWrongFalsely : Prop := flatNoneRow.holds Try.pinned (OpenSpec.ofChange flatNoneWrong)

/-- 'portcullislaw08.FlatPlays': WHATEVER THE INPUT: true; the input reads as it did. -/
def flatPlaysSpec : ChangeSpec := { name := "flatPlays", fn := fun _ => fun
  | [d1, d2, d3] => { results := [.lit (.bool true)], args := [d1, d2, d3] }
  | _ => none }
def flatPlaysRow : OpenClaim := { program := "ytmgocjclopfeeaa", sum := "b798e1657559758a55e66fd55de56b87c5696da5a772c5b3daf9ba6b74ae5bc6", func := "portcullis/portcullislaw08.FlatPlays", spec := "flatPlays", unfollowed := true, recurses := true, apart := false }
def FlatPlaysSaid : Prop := flatPlaysRow.holds Try.pinned (OpenSpec.ofChange flatPlaysSpec)

/-- ITS FALSE NEIGHBOUR: 'it returns false'. Refute it at one input. -/
def flatPlaysWrong : ChangeSpec := { name := "flatPlays", fn := fun _ => fun
  | [d1, d2, d3] => { results := [.lit (.bool false)], args := [d1, d2, d3] }
  | _ => none }
def FlatPlaysWrongFalsely : Prop := flatPlaysRow.holds Try.pinned (OpenSpec.ofChange flatPlaysWrong)

/- THE SECOND FORM. 'bulk': how many values and letters a reading holds, each counted each time it is reached (what is shared counts as often as it is met; a slice's spare places count too). A statement '..UptoSaid' is the law's where the arguments, and the package variables that the reading takes, are together of bulk at most 1048576: NARROWER than '..Said'. Prove '..Said' where nothing that the law and all that it calls make is longer than what came in: it says more and counts as full. Else prove '..UptoSaid'. A law counts once. -/
mutual
def uptoBulk {H : Type} : DataW H → Nat
  | .lit (.string bytes) => bytes.length + 1
  | .lit _ => 1
  | .nil => 1
  | .ptr d => uptoBulk d + 1
  | .slice elems spare => uptoBulkAll elems + uptoBulkAll spare + 1
  | .agg parts => uptoBulkAll parts + 1
  | .iface _ d => uptoBulk d + 1
  | .map entries => uptoBulkEntries entries + 1
  | .held _ => 1
def uptoBulkAll {H : Type} : List (DataW H) → Nat
  | [] => 0
  | d :: r => uptoBulk d + uptoBulkAll r
def uptoBulkEntries {H : Type} : List (Lit × DataW H) → Nat
  | [] => 0
  | x :: r => uptoBulkEntry x + uptoBulkEntries r
def uptoBulkEntry {H : Type} : Lit × DataW H → Nat
  | (.string bytes, d) => bytes.length + uptoBulk d + 1
  | (_, d) => uptoBulk d + 1
 end
def uptoSmall : (H : Type) → List (DataW H) → Bool := fun _ ds => decide (uptoBulkAll ds ≤ 1048576)
def OpenSpec.upto (s : _root_.Go.ChangeSpec) : _root_.Go.OpenSpec := { _root_.Go.OpenSpec.ofChange s with cond := some uptoSmall }

/-- 'portcullislaw08.FlatKeys', WHERE WHAT IT READS IS OF BULK AT MOST 1048576: true; the input reads as it did. -/
def flatKeysUptoRow : OpenClaim := { program := "ytmgocjclopfeeaa", sum := "b798e1657559758a55e66fd55de56b87c5696da5a772c5b3daf9ba6b74ae5bc6", func := "portcullis/portcullislaw08.FlatKeys", spec := "flatKeys", unfollowed := true, recurses := true, apart := false, narrowed := true }
def FlatKeysUptoSaid : Prop := flatKeysUptoRow.holds Try.pinned (OpenSpec.upto flatKeysSpec)

/-- 'portcullislaw08.FlatApart', WHERE WHAT IT READS IS OF BULK AT MOST 1048576: true; the input reads as it did. -/
def flatApartUptoRow : OpenClaim := { program := "ytmgocjclopfeeaa", sum := "b798e1657559758a55e66fd55de56b87c5696da5a772c5b3daf9ba6b74ae5bc6", func := "portcullis/portcullislaw08.FlatApart", spec := "flatApart", unfollowed := true, recurses := true, apart := false, narrowed := true }
def FlatApartUptoSaid : Prop := flatApartUptoRow.holds Try.pinned (OpenSpec.upto flatApartSpec)

/-- 'portcullislaw08.FlatCpus', WHERE WHAT IT READS IS OF BULK AT MOST 1048576: true; the input reads as it did. -/
def flatCpusUptoRow : OpenClaim := { program := "ytmgocjclopfeeaa", sum := "b798e1657559758a55e66fd55de56b87c5696da5a772c5b3daf9ba6b74ae5bc6", func := "portcullis/portcullislaw08.FlatCpus", spec := "flatCpus", unfollowed := true, recurses := true, apart := false, narrowed := true }
def FlatCpusUptoSaid : Prop := flatCpusUptoRow.holds Try.pinned (OpenSpec.upto flatCpusSpec)

/-- 'portcullislaw08.FlatNone', WHERE WHAT IT READS IS OF BULK AT MOST 1048576: true; the input reads as it did. -/
def flatNoneUptoRow : OpenClaim := { program := "ytmgocjclopfeeaa", sum := "b798e1657559758a55e66fd55de56b87c5696da5a772c5b3daf9ba6b74ae5bc6", func := "portcullis/portcullislaw08.FlatNone", spec := "flatNone", unfollowed := true, recurses := true, apart := false, narrowed := true }
def FlatNoneUptoSaid : Prop := flatNoneUptoRow.holds Try.pinned (OpenSpec.upto flatNoneSpec)

/-- 'portcullislaw08.FlatPlays', WHERE WHAT IT READS IS OF BULK AT MOST 1048576: true; the input reads as it did. -/
def flatPlaysUptoRow : OpenClaim := { program := "ytmgocjclopfeeaa", sum := "b798e1657559758a55e66fd55de56b87c5696da5a772c5b3daf9ba6b74ae5bc6", func := "portcullis/portcullislaw08.FlatPlays", spec := "flatPlays", unfollowed := true, recurses := true, apart := false, narrowed := true }
def FlatPlaysUptoSaid : Prop := flatPlaysUptoRow.holds Try.pinned (OpenSpec.upto flatPlaysSpec)

end Rows
end Go.Proofs.Ytmgocjclopfeeaa
