/-
  The law X86Encodes returns true for every input, and leaves its input as it was; no condition beyond the given statement's own.
-/
import Derived.Test.YtpahjllcomejbaaRows
import Derived.WalkKit
import Derived.ProofKit
import Derived.OpenShut
import Derived.ShutString
import Derived.ChangeOld
import Derived.Below
import Derived.Test.YtpahjllcomejbaaFr
import Derived.Test.YtpahjllcomejbaaX24Enc
namespace Go.Proofs.Ytpahjllcomejbaa.x86Encodes
open Go.ChangeShapes Go.WideShapes Go.ChangeAt Go.RowKit
open Go.ChangeMaps (open_string shut_string)
set_option linter.unusedVariables false
set_option linter.unusedSimpArgs false

theorem own : ownKnob Try.prog.godebug = none := by kernel_rfl
theorem laidOut : laidOutB Try.prog = true := by kernel_rfl

set_option maxRecDepth 100000 in
theorem lifted (os : Os) (started : os.Started) (H : Type) (enc : TypeId × Value → H) :
    ReturnsInHanded {} Try.checked os 3 .any (Rows.x86EncodesSpec.pre6 enc Try.prog Try.f3 Rows.x86EncodesRow.domain false) (Rows.x86EncodesSpec.post enc Try.prog Try.f3 false true false false) := by
  refine returnsInHanded_of_change_sized (C := Try.checked) own started (by kernel_rfl) Try.func3
    (ChangeSpec.witness6 (enc := enc) (C := Try.checked) false ⟨#[], #[.slice none 0 0], []⟩ 8 (by kernel_rfl) (by kernel_rfl) (by kernel_rfl) (by kernel_rfl)) ?_
  intro W base args ds gs before hval0 hW hcnd hsz _
  have hval : ∀ (j : Nat) t v, Try.f3.params[j]? = some t → args[j]? = some v → Value.okWide Try.prog W .any base t v := hval0
  have hW' := hW
  obtain ⟨p, q, hA0, hV, rfl, hfz, hnd⟩ := hW
  have hA : DataW.TrodAll enc Try.prog W 0 (fun _ => true) true Try.f3.params.toList args.toList ds p := hA0
  rw [Try.params3] at hA hval hsz
  obtain ⟨v0, vs0, d0, ds0, p0, q0, hargs, rfl, rfl, h0, r0⟩ := trodAll_cons hA
  obtain ⟨rfl, rfl, rfl⟩ := trodAll_nil r0
  obtain rfl : args = #[v0] := by cases args; simp_all
  obtain ⟨rfl, rfl⟩ := trodVars_none hV
  have k0' := h0
  have lt0 : ∀ x ∈ p0, x.block < W.heap.size := by obtain ⟨m, hm⟩ := k0'; exact DataW.trod_lt m _ _ _ hm
  obtain ⟨a0, len0, cap0, rfl⟩ := okWide_slice Try.underlying22 (hval 0 22 v0 rfl rfl)
  have y0 := sized_row hsz (j := 0) (t := 22) rfl rfl Try.underlying22 rfl h0
  have w0 := open_structs Try.underlying22 Try.underlying32 (by kernel_rfl) (by kernel_rfl) h0 [.int .i64, .int .i64, .int .i64, .int .i64, .int .i64, .int .u64] rfl (by decide) (by
    intro j f k hj hk
    match j, hj, hk with
    | 0, hj, hk => (simp at hj hk; subst hj hk; exact ⟨_, Try.underlying3, rfl⟩)
    | 1, hj, hk => (simp at hj hk; subst hj hk; exact ⟨_, Try.underlying3, rfl⟩)
    | 2, hj, hk => (simp at hj hk; subst hj hk; exact ⟨_, Try.underlying3, rfl⟩)
    | 3, hj, hk => (simp at hj hk; subst hj hk; exact ⟨_, Try.underlying3, rfl⟩)
    | 4, hj, hk => (simp at hj hk; subst hj hk; exact ⟨_, Try.underlying3, rfl⟩)
    | 5, hj, hk => (simp at hj hk; subst hj hk; exact ⟨_, Try.underlying30, rfl⟩)
    | j + 6, hj, hk => (simp at hj))
  clear hA0 hval0 hsz
  refine ((enc_row w0 y0)).mono fun e W' ⟨he, bel⟩ => ?_
  subst he
  exact ⟨_, rfl, _, _, _, [], _, [], hW', trodAll_mk1 (shut_bool Try.underlying4 _), (trodAll_cons_mk (Below.trod laidOut (by kernel_rfl) (of_decide_eq_true (by kernel_rfl)) k0' bel lt0) trodAll_mk0), rfl, bel.frame _, fun h => by cases h⟩

theorem k1 : Rows.x86EncodesRow.wf (OpenSpec.ofChange Rows.x86EncodesSpec) = true := by kernel_rfl
theorem k2 : laidOutB Try.prog = true := by kernel_rfl
theorem k3 : mapsRowed Try.prog = true := by kernel_rfl
theorem k4 : Try.f3.params.all (Try.prog.readableRec ·) = true := by kernel_rfl
theorem k5 : namedTie Try.prog Rows.x86EncodesRow.named Rows.x86EncodesSpec.vars = true := by kernel_rfl
theorem k6 : (Rows.x86EncodesRow.stops == []) = true := by kernel_rfl
theorem k7 : (Try.prog.stops == []) = true := by kernel_rfl
theorem k8 : (Rows.x86EncodesRow.knobs == []) = true := by kernel_rfl
theorem k9 : (Try.prog.stopKnobs == []) = true := by kernel_rfl
theorem k10 : (Rows.x86EncodesRow.inPlace == Try.prog.inPlace 3) = true := by kernel_rfl
theorem k11 : (Rows.x86EncodesRow.unfollowed == Try.prog.unfollowed 3) = true := by kernel_rfl
theorem k12 : (Rows.x86EncodesRow.recurses == Try.prog.recurses 3) = true := by kernel_rfl
theorem k13 : (Rows.x86EncodesRow.named == Try.prog.varsNamed 3) = true := by kernel_rfl
theorem k14 : (Rows.x86EncodesRow.maps == (Try.f3.params.toList ++ Rows.x86EncodesSpec.plain.varTypes Try.prog).any (Try.prog.mapsRec ·)) = true := by kernel_rfl
theorem k15 : (Rows.x86EncodesRow.ifaces == (Try.f3.params.toList ++ Rows.x86EncodesSpec.plain.varTypes Try.prog).any (Try.prog.ifacesRec ·)) = true := by kernel_rfl
theorem k16 : (Rows.x86EncodesRow.mapsOut == Try.prog.mapsAmong Try.f3.resultTypes.toList) = true := by kernel_rfl
theorem k17 : (Rows.x86EncodesRow.loops == (Try.f3.params.toList ++ Rows.x86EncodesSpec.plain.varTypes Try.prog).any (Try.prog.loopsFrom ·)) = true := by kernel_rfl
theorem k18 : (Rows.x86EncodesRow.wideKeys == (Try.f3.params.toList ++ Rows.x86EncodesSpec.plain.varTypes Try.prog ++ Try.f3.resultTypes.toList).any (Try.prog.wideKeysFrom ·)) = true := by kernel_rfl
theorem k19 : Rows.x86EncodesSpec.vars.all (Try.prog.varReadable ·) = true := by kernel_rfl
theorem k20 : Try.f3.resultTypes.all (fun t => Try.prog.readableRec t && decide (t < Try.prog.types.size)) = true := by kernel_rfl
theorem k21 : (Rows.x86EncodesRow.ifacesOut == Try.f3.resultTypes.toList.any (Try.prog.ifacesRec ·)) = true := by kernel_rfl
theorem k22 : (Rows.x86EncodesRow.loopsOut == Try.f3.resultTypes.toList.any (Try.prog.loopsFrom ·)) = true := by kernel_rfl
theorem k23 : (Rows.x86EncodesRow.plainKeys == Try.prog.plainKeys) = true := by kernel_rfl
theorem k24 : Rows.x86EncodesRow.shortTexts.isNone = true := by kernel_rfl
theorem k25 : Try.prog.stopsHeard = true := by kernel_rfl
theorem k26 : Try.prog.mayEnter = true := by kernel_rfl
theorem k27 : (Rows.x86EncodesRow.lifted == Try.prog.liftsFinal) = true := by kernel_rfl
theorem k28 : (Try.prog.make == some Rows.x86EncodesRow.make) = true := by kernel_rfl
theorem k29 : (Rows.x86EncodesRow.kinds == (if Rows.x86EncodesRow.domain.isEmpty then [] else Try.f3.params.toList.map fun t => match Try.prog.underlying t with | some (.int k) => some k | _ => none)) = true := by kernel_rfl
theorem k30 : (Rows.x86EncodesRow.pinned == Rows.x86EncodesRow.pinnedBy) = true := by kernel_rfl
theorem k31 : (Rows.x86EncodesRow.veiled == (Try.f3.params.toList ++ Rows.x86EncodesSpec.plain.varTypes Try.prog ++ Try.f3.resultTypes.toList).any (Try.prog.veiledRec ·)) = true := by kernel_rfl
theorem k32 : Rows.x86EncodesRow.veiledFits Try.prog Try.f3.params.toList (Try.f3.params.toList ++ Rows.x86EncodesSpec.plain.varTypes Try.prog ++ Try.f3.resultTypes.toList) = true := by kernel_rfl
set_option maxRecDepth 100000 in
theorem closed : joinedFacts Try.prog 3 Try.f3 Rows.x86EncodesSpec Rows.x86EncodesRow = true :=
  facts_of k1 k2 k3 k4 k5 k6 k7 k8 k9 k10 k11 k12 k13 k14 k15 k16 k17 k18 k19 k20 k21 k22 k23 k24 k25 k26 k27 k28 k29 k30 k31 k32

theorem over : Rows.x86EncodesRow.holds Try.pinned (OpenSpec.ofChange Rows.x86EncodesSpec) :=
  OpenClaim.holds_of_wide 3 Try.f3 rfl rfl rfl rfl rfl rfl rfl ⟨rfl, rfl, rfl, rfl, rfl⟩ rfl rfl rfl rfl rfl (by kernel_rfl) Try.func3 closed
    (of_decide_eq_true (by kernel_rfl)) (by unfold Func.isWrapper; first | (rw [if_pos (by decide +kernel)]; kernel_rfl) | (rw [if_neg (by decide +kernel)]; exact ⟨rfl, rfl⟩))
    (fun os started H enc _ => lifted os started H enc)

theorem proved : Rows.X86EncodesSaid :=
  over
#print axioms proved
end Go.Proofs.Ytpahjllcomejbaa.x86Encodes
