/-
  The law MapsNone returns true for every input, and leaves its input as it was; no condition beyond the given statement's own.
-/
import Derived.Test.YtgkbiknokpmjmaaRows
import Derived.WalkKit
import Derived.ProofKit
import Derived.OpenShut
import Derived.ShutString
import Derived.ChangeOld
import Derived.Below
import Derived.Test.YtgkbiknokpmjmaaJoin
import Derived.Test.YtgkbiknokpmjmaaOpen
import Derived.Test.YtgkbiknokpmjmaaLMNone
namespace Go.Proofs.Ytgkbiknokpmjmaa.mapsNone
open Go.ChangeShapes Go.WideShapes Go.ChangeAt Go.RowKit
open Go.ChangeMaps (open_string shut_string)
set_option linter.unusedVariables false
set_option linter.unusedSimpArgs false

theorem own : ownKnob Try.prog.godebug = none := by kernel_rfl
theorem laidOut : laidOutB Try.prog = true := by kernel_rfl

set_option maxRecDepth 100000 in
theorem lifted (os : Os) (started : os.Started) (H : Type) (enc : TypeId × Value → H) :
    ReturnsInHanded {} Try.checked os 4 .any (Rows.mapsNoneSpec.pre6 enc Try.prog Try.f4 Rows.mapsNoneRow.domain false) (Rows.mapsNoneSpec.post enc Try.prog Try.f4 false true false false) := by
  refine returnsInHanded_of_change (C := Try.checked) own started (by kernel_rfl) Try.func4
    (ChangeSpec.witness6 (enc := enc) (C := Try.checked) false ⟨#[], #[.agg #[.int .i64 0, .int .i64 0, .int .i64 0, .int .i64 0, .string ByteArray.empty, .string ByteArray.empty, .int .u64 0, .bool false]], []⟩ 8 (by kernel_rfl) (by kernel_rfl) (by kernel_rfl) (by kernel_rfl)) ?_
  intro W base args ds gs before hval0 hW hcnd _
  have hval : ∀ (j : Nat) t v, Try.f4.params[j]? = some t → args[j]? = some v → Value.okWide Try.prog W .any base t v := hval0
  have hW' := hW
  obtain ⟨p, q, hA0, hV, rfl, hfz, hnd⟩ := hW
  have hA : DataW.TrodAll enc Try.prog W 0 (fun _ => true) true Try.f4.params.toList args.toList ds p := hA0
  rw [Try.params4] at hA hval
  obtain ⟨v0, vs0, d0, ds0, p0, q0, hargs, rfl, rfl, h0, r0⟩ := trodAll_cons hA
  obtain ⟨rfl, rfl, rfl⟩ := trodAll_nil r0
  obtain rfl : args = #[v0] := by cases args; simp_all
  obtain ⟨rfl, rfl⟩ := trodVars_none hV
  have k0' := h0
  have lt0 : ∀ x ∈ p0, x.block < W.heap.size := by obtain ⟨m, hm⟩ := k0'; exact DataW.trod_lt m _ _ _ hm
  obtain ⟨cs0, rfl, hl0, hf0⟩ := open_struct Try.underlying43 (by kernel_rfl) (by kernel_rfl) (hval 0 43 v0 rfl rfl) h0 [.int .i64, .int .i64, .int .i64, .int .i64, .str, .str, .int .u64, .bool] (by
    intro j f k hj hk
    match j, hj, hk with
    | 0, hj, hk => (simp at hj hk; subst hj hk; exact ⟨_, Try.underlying3, rfl⟩)
    | 1, hj, hk => (simp at hj hk; subst hj hk; exact ⟨_, Try.underlying3, rfl⟩)
    | 2, hj, hk => (simp at hj hk; subst hj hk; exact ⟨_, Try.underlying3, rfl⟩)
    | 3, hj, hk => (simp at hj hk; subst hj hk; exact ⟨_, Try.underlying3, rfl⟩)
    | 4, hj, hk => (simp at hj hk; subst hj hk; exact ⟨_, Try.underlying9, rfl⟩)
    | 5, hj, hk => (simp at hj hk; subst hj hk; exact ⟨_, Try.underlying9, rfl⟩)
    | 6, hj, hk => (simp at hj hk; subst hj hk; exact ⟨_, Try.underlying34, rfl⟩)
    | 7, hj, hk => (simp at hj hk; subst hj hk; exact ⟨_, Try.underlying4, rfl⟩)
    | j + 8, hj, hk => (simp at hj))
  obtain ⟨c0_0, c0_1, c0_2, c0_3, c0_4, c0_5, c0_6, c0_7, rfl⟩ := list_8 hl0
  obtain ⟨_, e0_0, g0_0⟩ := hf0 0 _ _ rfl rfl
  simp only [List.getElem?_cons_succ, List.getElem?_cons_zero, Option.some.injEq] at e0_0
  subst e0_0
  obtain ⟨a0_0, rfl, w0_0⟩ := g0_0
  obtain ⟨_, e0_1, g0_1⟩ := hf0 1 _ _ rfl rfl
  simp only [List.getElem?_cons_succ, List.getElem?_cons_zero, Option.some.injEq] at e0_1
  subst e0_1
  obtain ⟨a0_1, rfl, w0_1⟩ := g0_1
  obtain ⟨_, e0_2, g0_2⟩ := hf0 2 _ _ rfl rfl
  simp only [List.getElem?_cons_succ, List.getElem?_cons_zero, Option.some.injEq] at e0_2
  subst e0_2
  obtain ⟨a0_2, rfl, w0_2⟩ := g0_2
  obtain ⟨_, e0_3, g0_3⟩ := hf0 3 _ _ rfl rfl
  simp only [List.getElem?_cons_succ, List.getElem?_cons_zero, Option.some.injEq] at e0_3
  subst e0_3
  obtain ⟨a0_3, rfl, w0_3⟩ := g0_3
  obtain ⟨_, e0_4, g0_4⟩ := hf0 4 _ _ rfl rfl
  simp only [List.getElem?_cons_succ, List.getElem?_cons_zero, Option.some.injEq] at e0_4
  subst e0_4
  obtain ⟨a0_4, rfl, w0_4⟩ := g0_4
  obtain ⟨_, e0_5, g0_5⟩ := hf0 5 _ _ rfl rfl
  simp only [List.getElem?_cons_succ, List.getElem?_cons_zero, Option.some.injEq] at e0_5
  subst e0_5
  obtain ⟨a0_5, rfl, w0_5⟩ := g0_5
  obtain ⟨_, e0_6, g0_6⟩ := hf0 6 _ _ rfl rfl
  simp only [List.getElem?_cons_succ, List.getElem?_cons_zero, Option.some.injEq] at e0_6
  subst e0_6
  obtain ⟨a0_6, rfl, w0_6⟩ := g0_6
  obtain ⟨_, e0_7, g0_7⟩ := hf0 7 _ _ rfl rfl
  simp only [List.getElem?_cons_succ, List.getElem?_cons_zero, Option.some.injEq] at e0_7
  subst e0_7
  obtain ⟨a0_7, rfl⟩ := g0_7
  clear hA0 hval0
  refine ((mnone_calls a0_0 a0_1 a0_2 a0_3 a0_4 a0_5 a0_6 a0_7 w0_3 _)).mono fun e W' ⟨he, bel⟩ => ?_
  subst he
  exact ⟨_, rfl, _, _, _, [], _, [], hW', trodAll_mk1 (shut_bool Try.underlying4 _), (trodAll_cons_mk (Below.trod laidOut (by kernel_rfl) (of_decide_eq_true (by kernel_rfl)) k0' bel lt0) trodAll_mk0), rfl, bel.frame _, fun h => by cases h⟩

theorem k1 : Rows.mapsNoneRow.wf (OpenSpec.ofChange Rows.mapsNoneSpec) = true := by kernel_rfl
theorem k2 : laidOutB Try.prog = true := by kernel_rfl
theorem k3 : mapsRowed Try.prog = true := by kernel_rfl
theorem k4 : Try.f4.params.all (Try.prog.readableRec ·) = true := by kernel_rfl
theorem k5 : namedTie Try.prog Rows.mapsNoneRow.named Rows.mapsNoneSpec.vars = true := by kernel_rfl
theorem k6 : (Rows.mapsNoneRow.stops == []) = true := by kernel_rfl
theorem k7 : (Try.prog.stops == []) = true := by kernel_rfl
theorem k8 : (Rows.mapsNoneRow.knobs == []) = true := by kernel_rfl
theorem k9 : (Try.prog.stopKnobs == []) = true := by kernel_rfl
theorem k10 : (Rows.mapsNoneRow.inPlace == Try.prog.inPlace 4) = true := by kernel_rfl
theorem k11 : (Rows.mapsNoneRow.unfollowed == Try.prog.unfollowed 4) = true := by kernel_rfl
theorem k12 : (Rows.mapsNoneRow.recurses == Try.prog.recurses 4) = true := by kernel_rfl
theorem k13 : (Rows.mapsNoneRow.named == Try.prog.varsNamed 4) = true := by kernel_rfl
theorem k14 : (Rows.mapsNoneRow.maps == (Try.f4.params.toList ++ Rows.mapsNoneSpec.plain.varTypes Try.prog).any (Try.prog.mapsRec ·)) = true := by kernel_rfl
theorem k15 : (Rows.mapsNoneRow.ifaces == (Try.f4.params.toList ++ Rows.mapsNoneSpec.plain.varTypes Try.prog).any (Try.prog.ifacesRec ·)) = true := by kernel_rfl
theorem k16 : (Rows.mapsNoneRow.mapsOut == Try.prog.mapsAmong Try.f4.resultTypes.toList) = true := by kernel_rfl
theorem k17 : (Rows.mapsNoneRow.loops == (Try.f4.params.toList ++ Rows.mapsNoneSpec.plain.varTypes Try.prog).any (Try.prog.loopsFrom ·)) = true := by kernel_rfl
theorem k18 : (Rows.mapsNoneRow.wideKeys == (Try.f4.params.toList ++ Rows.mapsNoneSpec.plain.varTypes Try.prog ++ Try.f4.resultTypes.toList).any (Try.prog.wideKeysFrom ·)) = true := by kernel_rfl
theorem k19 : Rows.mapsNoneSpec.vars.all (Try.prog.varReadable ·) = true := by kernel_rfl
theorem k20 : Try.f4.resultTypes.all (fun t => Try.prog.readableRec t && decide (t < Try.prog.types.size)) = true := by kernel_rfl
theorem k21 : (Rows.mapsNoneRow.ifacesOut == Try.f4.resultTypes.toList.any (Try.prog.ifacesRec ·)) = true := by kernel_rfl
theorem k22 : (Rows.mapsNoneRow.loopsOut == Try.f4.resultTypes.toList.any (Try.prog.loopsFrom ·)) = true := by kernel_rfl
theorem k23 : (Rows.mapsNoneRow.plainKeys == Try.prog.plainKeys) = true := by kernel_rfl
theorem k24 : Rows.mapsNoneRow.shortTexts.isNone = true := by kernel_rfl
theorem k25 : Try.prog.stopsHeard = true := by kernel_rfl
theorem k26 : Try.prog.mayEnter = true := by kernel_rfl
theorem k27 : (Rows.mapsNoneRow.lifted == Try.prog.liftsFinal) = true := by kernel_rfl
theorem k28 : (Try.prog.make == some Rows.mapsNoneRow.make) = true := by kernel_rfl
theorem k29 : (Rows.mapsNoneRow.kinds == (if Rows.mapsNoneRow.domain.isEmpty then [] else Try.f4.params.toList.map fun t => match Try.prog.underlying t with | some (.int k) => some k | _ => none)) = true := by kernel_rfl
theorem k30 : (Rows.mapsNoneRow.pinned == Rows.mapsNoneRow.pinnedBy) = true := by kernel_rfl
theorem k31 : (Rows.mapsNoneRow.veiled == (Try.f4.params.toList ++ Rows.mapsNoneSpec.plain.varTypes Try.prog ++ Try.f4.resultTypes.toList).any (Try.prog.veiledRec ·)) = true := by kernel_rfl
theorem k32 : Rows.mapsNoneRow.veiledFits Try.prog Try.f4.params.toList (Try.f4.params.toList ++ Rows.mapsNoneSpec.plain.varTypes Try.prog ++ Try.f4.resultTypes.toList) = true := by kernel_rfl
set_option maxRecDepth 100000 in
theorem closed : joinedFacts Try.prog 4 Try.f4 Rows.mapsNoneSpec Rows.mapsNoneRow = true :=
  facts_of k1 k2 k3 k4 k5 k6 k7 k8 k9 k10 k11 k12 k13 k14 k15 k16 k17 k18 k19 k20 k21 k22 k23 k24 k25 k26 k27 k28 k29 k30 k31 k32

theorem over : Rows.mapsNoneRow.holds Try.pinned (OpenSpec.ofChange Rows.mapsNoneSpec) :=
  OpenClaim.holds_of_wide 4 Try.f4 rfl rfl rfl rfl rfl rfl rfl ⟨rfl, rfl, rfl, rfl, rfl⟩ rfl rfl rfl rfl rfl (by kernel_rfl) Try.func4 closed
    (of_decide_eq_true (by kernel_rfl)) (by unfold Func.isWrapper; first | (rw [if_pos (by decide +kernel)]; kernel_rfl) | (rw [if_neg (by decide +kernel)]; exact ⟨rfl, rfl⟩))
    (fun os started H enc _ => lifted os started H enc)

theorem proved : Rows.MapsNoneSaid :=
  over
#print axioms proved
end Go.Proofs.Ytgkbiknokpmjmaa.mapsNone
