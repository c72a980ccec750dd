/-
  The law KmemPlays returns true for every input, and leaves its input as it was; no condition beyond the given statement's own.
-/
import Derived.Test.YteglgmdmnhkmgaaRows
import Derived.WalkKit
import Derived.ProofKit
import Derived.OpenShut
import Derived.ShutString
import Derived.ChangeOld
import Derived.Below
import Derived.Test.YteglgmdmnhkmgaaJoin
import Derived.Test.YteglgmdmnhkmgaaOpen
import Derived.Test.YteglgmdmnhkmgaaLKPlays
namespace Go.Proofs.Yteglgmdmnhkmgaa.kmemPlays
open Go.ChangeShapes Go.WideShapes Go.ChangeAt Go.RowKit
open Go.ChangeMaps (open_string shut_string)
set_option linter.unusedVariables false
set_option linter.unusedSimpArgs false

theorem own : ownKnob Try.prog.godebug = none := by kernel_rfl
theorem laidOut : laidOutB Try.prog = true := by kernel_rfl

set_option maxRecDepth 100000 in
theorem lifted (os : Os) (started : os.Started) (H : Type) (enc : TypeId × Value → H) :
    ReturnsInHanded {} Try.checked os 6 .any (Rows.kmemPlaysSpec.pre6 enc Try.prog Try.f6 Rows.kmemPlaysRow.domain false) (Rows.kmemPlaysSpec.post enc Try.prog Try.f6 false true false false) := by
  refine returnsInHanded_of_change (C := Try.checked) own started (by kernel_rfl) Try.func6
    (ChangeSpec.witness6 (enc := enc) (C := Try.checked) false ⟨#[], #[.slice none 0 0], []⟩ 8 (by kernel_rfl) (by kernel_rfl) (by kernel_rfl) (by kernel_rfl)) ?_
  intro W base args ds gs before hval0 hW hcnd _
  have hval : ∀ (j : Nat) t v, Try.f6.params[j]? = some t → args[j]? = some v → Value.okWide Try.prog W .any base t v := hval0
  have hW' := hW
  obtain ⟨p, q, hA0, hV, rfl, hfz, hnd⟩ := hW
  have hA : DataW.TrodAll enc Try.prog W 0 (fun _ => true) true Try.f6.params.toList args.toList ds p := hA0
  rw [Try.params6] at hA hval
  obtain ⟨v0, vs0, d0, ds0, p0, q0, hargs, rfl, rfl, h0, r0⟩ := trodAll_cons hA
  obtain ⟨rfl, rfl, rfl⟩ := trodAll_nil r0
  obtain rfl : args = #[v0] := by cases args; simp_all
  obtain ⟨rfl, rfl⟩ := trodVars_none hV
  have k0' := h0
  have lt0 : ∀ x ∈ p0, x.block < W.heap.size := by obtain ⟨m, hm⟩ := k0'; exact DataW.trod_lt m _ _ _ hm
  obtain ⟨a0, len0, cap0, rfl⟩ := okWide_slice Try.underlying43 (hval 0 43 v0 rfl rfl)
  have w0 := open_structs Try.underlying43 Try.underlying49 (by kernel_rfl) (by kernel_rfl) h0 [.int .i64, .int .i64, .int .i64, .int .u64, .int .u64, .str] rfl (by decide) (by
    intro j f k hj hk
    match j, hj, hk with
    | 0, hj, hk => (simp at hj hk; subst hj hk; exact ⟨_, Try.underlying3, rfl⟩)
    | 1, hj, hk => (simp at hj hk; subst hj hk; exact ⟨_, Try.underlying3, rfl⟩)
    | 2, hj, hk => (simp at hj hk; subst hj hk; exact ⟨_, Try.underlying3, rfl⟩)
    | 3, hj, hk => (simp at hj hk; subst hj hk; exact ⟨_, Try.underlying22, rfl⟩)
    | 4, hj, hk => (simp at hj hk; subst hj hk; exact ⟨_, Try.underlying22, rfl⟩)
    | 5, hj, hk => (simp at hj hk; subst hj hk; exact ⟨_, Try.underlying9, rfl⟩)
    | j + 6, hj, hk => (simp at hj))
  clear hA0 hval0
  refine ((plays_row w0)).mono fun e W' ⟨he, bel⟩ => ?_
  subst he
  exact ⟨_, rfl, _, _, _, [], _, [], hW', trodAll_mk1 (shut_bool Try.underlying4 _), (trodAll_cons_mk (Below.trod laidOut (by kernel_rfl) (of_decide_eq_true (by kernel_rfl)) k0' bel lt0) trodAll_mk0), rfl, bel.frame _, fun h => by cases h⟩

theorem k1 : Rows.kmemPlaysRow.wf (OpenSpec.ofChange Rows.kmemPlaysSpec) = true := by kernel_rfl
theorem k2 : laidOutB Try.prog = true := by kernel_rfl
theorem k3 : mapsRowed Try.prog = true := by kernel_rfl
theorem k4 : Try.f6.params.all (Try.prog.readableRec ·) = true := by kernel_rfl
theorem k5 : namedTie Try.prog Rows.kmemPlaysRow.named Rows.kmemPlaysSpec.vars = true := by kernel_rfl
theorem k6 : (Rows.kmemPlaysRow.stops == []) = true := by kernel_rfl
theorem k7 : (Try.prog.stops == []) = true := by kernel_rfl
theorem k8 : (Rows.kmemPlaysRow.knobs == []) = true := by kernel_rfl
theorem k9 : (Try.prog.stopKnobs == []) = true := by kernel_rfl
theorem k10 : (Rows.kmemPlaysRow.inPlace == Try.prog.inPlace 6) = true := by kernel_rfl
theorem k11 : (Rows.kmemPlaysRow.unfollowed == Try.prog.unfollowed 6) = true := by kernel_rfl
theorem k12 : (Rows.kmemPlaysRow.recurses == Try.prog.recurses 6) = true := by kernel_rfl
theorem k13 : (Rows.kmemPlaysRow.named == Try.prog.varsNamed 6) = true := by kernel_rfl
theorem k14 : (Rows.kmemPlaysRow.maps == (Try.f6.params.toList ++ Rows.kmemPlaysSpec.plain.varTypes Try.prog).any (Try.prog.mapsRec ·)) = true := by kernel_rfl
theorem k15 : (Rows.kmemPlaysRow.ifaces == (Try.f6.params.toList ++ Rows.kmemPlaysSpec.plain.varTypes Try.prog).any (Try.prog.ifacesRec ·)) = true := by kernel_rfl
theorem k16 : (Rows.kmemPlaysRow.mapsOut == Try.prog.mapsAmong Try.f6.resultTypes.toList) = true := by kernel_rfl
theorem k17 : (Rows.kmemPlaysRow.loops == (Try.f6.params.toList ++ Rows.kmemPlaysSpec.plain.varTypes Try.prog).any (Try.prog.loopsFrom ·)) = true := by kernel_rfl
theorem k18 : (Rows.kmemPlaysRow.wideKeys == (Try.f6.params.toList ++ Rows.kmemPlaysSpec.plain.varTypes Try.prog ++ Try.f6.resultTypes.toList).any (Try.prog.wideKeysFrom ·)) = true := by kernel_rfl
theorem k19 : Rows.kmemPlaysSpec.vars.all (Try.prog.varReadable ·) = true := by kernel_rfl
theorem k20 : Try.f6.resultTypes.all (fun t => Try.prog.readableRec t && decide (t < Try.prog.types.size)) = true := by kernel_rfl
theorem k21 : (Rows.kmemPlaysRow.ifacesOut == Try.f6.resultTypes.toList.any (Try.prog.ifacesRec ·)) = true := by kernel_rfl
theorem k22 : (Rows.kmemPlaysRow.loopsOut == Try.f6.resultTypes.toList.any (Try.prog.loopsFrom ·)) = true := by kernel_rfl
theorem k23 : (Rows.kmemPlaysRow.plainKeys == Try.prog.plainKeys) = true := by kernel_rfl
theorem k24 : Rows.kmemPlaysRow.shortTexts.isNone = true := by kernel_rfl
theorem k25 : Try.prog.stopsHeard = true := by kernel_rfl
theorem k26 : Try.prog.mayEnter = true := by kernel_rfl
theorem k27 : (Rows.kmemPlaysRow.lifted == Try.prog.liftsFinal) = true := by kernel_rfl
theorem k28 : (Try.prog.make == some Rows.kmemPlaysRow.make) = true := by kernel_rfl
theorem k29 : (Rows.kmemPlaysRow.kinds == (if Rows.kmemPlaysRow.domain.isEmpty then [] else Try.f6.params.toList.map fun t => match Try.prog.underlying t with | some (.int k) => some k | _ => none)) = true := by kernel_rfl
theorem k30 : (Rows.kmemPlaysRow.pinned == Rows.kmemPlaysRow.pinnedBy) = true := by kernel_rfl
theorem k31 : (Rows.kmemPlaysRow.veiled == (Try.f6.params.toList ++ Rows.kmemPlaysSpec.plain.varTypes Try.prog ++ Try.f6.resultTypes.toList).any (Try.prog.veiledRec ·)) = true := by kernel_rfl
theorem k32 : Rows.kmemPlaysRow.veiledFits Try.prog Try.f6.params.toList (Try.f6.params.toList ++ Rows.kmemPlaysSpec.plain.varTypes Try.prog ++ Try.f6.resultTypes.toList) = true := by kernel_rfl
set_option maxRecDepth 100000 in
theorem closed : joinedFacts Try.prog 6 Try.f6 Rows.kmemPlaysSpec Rows.kmemPlaysRow = true :=
  facts_of k1 k2 k3 k4 k5 k6 k7 k8 k9 k10 k11 k12 k13 k14 k15 k16 k17 k18 k19 k20 k21 k22 k23 k24 k25 k26 k27 k28 k29 k30 k31 k32

theorem over : Rows.kmemPlaysRow.holds Try.pinned (OpenSpec.ofChange Rows.kmemPlaysSpec) :=
  OpenClaim.holds_of_wide 6 Try.f6 rfl rfl rfl rfl rfl rfl rfl ⟨rfl, rfl, rfl, rfl, rfl⟩ rfl rfl rfl rfl rfl (by kernel_rfl) Try.func6 closed
    (of_decide_eq_true (by kernel_rfl)) (by unfold Func.isWrapper; first | (rw [if_pos (by decide +kernel)]; kernel_rfl) | (rw [if_neg (by decide +kernel)]; exact ⟨rfl, rfl⟩))
    (fun os started H enc _ => lifted os started H enc)

theorem proved : Rows.KmemPlaysSaid :=
  over
#print axioms proved
end Go.Proofs.Yteglgmdmnhkmgaa.kmemPlays
