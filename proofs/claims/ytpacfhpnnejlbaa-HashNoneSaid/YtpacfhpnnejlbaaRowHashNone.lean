/-
  The law HashNone returns true for every input, and leaves its input as it was; no condition beyond the given statement's own.
-/
import Derived.Test.YtpacfhpnnejlbaaRows
import Derived.WalkKit
import Derived.ProofKit
import Derived.OpenShut
import Derived.ShutString
import Derived.ChangeOld
import Derived.Below
import Derived.Test.YtpacfhpnnejlbaaJoin
import Derived.Test.YtpacfhpnnejlbaaOpen
import Derived.Test.YtpacfhpnnejlbaaLHNone
namespace Go.Proofs.Ytpacfhpnnejlbaa.hashNone
open Go.ChangeShapes Go.WideShapes Go.ChangeAt Go.RowKit
open Go.ChangeMaps (open_string shut_string)
set_option linter.unusedVariables false
set_option linter.unusedSimpArgs false

theorem own : ownKnob Try.prog.godebug = none := by kernel_rfl
theorem laidOut : laidOutB Try.prog = true := by kernel_rfl

set_option maxRecDepth 100000 in
theorem lifted (os : Os) (started : os.Started) (H : Type) (enc : TypeId × Value → H) :
    ReturnsInHanded {} Try.checked os 6 .any (Rows.hashNoneSpec.pre6 enc Try.prog Try.f6 Rows.hashNoneRow.domain false) (Rows.hashNoneSpec.post enc Try.prog Try.f6 false true false false) := by
  refine returnsInHanded_of_change (C := Try.checked) own started (by kernel_rfl) Try.func6
    (ChangeSpec.witness6 (enc := enc) (C := Try.checked) false ⟨#[], #[.agg #[.int .i64 0, .string ByteArray.empty, .string ByteArray.empty, .int .i64 0, .int .u64 0]], []⟩ 8 (by kernel_rfl) (by kernel_rfl) (by kernel_rfl) (by kernel_rfl)) ?_
  intro W base args ds gs before hval0 hW hcnd _
  have hval : ∀ (j : Nat) t v, Try.f6.params[j]? = some t → args[j]? = some v → Value.okWide Try.prog W .any base t v := hval0
  have hW' := hW
  obtain ⟨p, q, hA0, hV, rfl, hfz, hnd⟩ := hW
  have hA : DataW.TrodAll enc Try.prog W 0 (fun _ => true) true Try.f6.params.toList args.toList ds p := hA0
  rw [Try.params6] at hA hval
  obtain ⟨v0, vs0, d0, ds0, p0, q0, hargs, rfl, rfl, h0, r0⟩ := trodAll_cons hA
  obtain ⟨rfl, rfl, rfl⟩ := trodAll_nil r0
  obtain rfl : args = #[v0] := by cases args; simp_all
  obtain ⟨rfl, rfl⟩ := trodVars_none hV
  have k0' := h0
  have lt0 : ∀ x ∈ p0, x.block < W.heap.size := by obtain ⟨m, hm⟩ := k0'; exact DataW.trod_lt m _ _ _ hm
  obtain ⟨cs0, rfl, hl0, hf0⟩ := open_struct Try.underlying44 (by kernel_rfl) (by kernel_rfl) (hval 0 44 v0 rfl rfl) h0 [.int .i64, .str, .str, .int .i64, .int .u64] (by
    intro j f k hj hk
    match j, hj, hk with
    | 0, hj, hk => (simp at hj hk; subst hj hk; exact ⟨_, Try.underlying3, rfl⟩)
    | 1, hj, hk => (simp at hj hk; subst hj hk; exact ⟨_, Try.underlying9, rfl⟩)
    | 2, hj, hk => (simp at hj hk; subst hj hk; exact ⟨_, Try.underlying9, rfl⟩)
    | 3, hj, hk => (simp at hj hk; subst hj hk; exact ⟨_, Try.underlying3, rfl⟩)
    | 4, hj, hk => (simp at hj hk; subst hj hk; exact ⟨_, Try.underlying34, rfl⟩)
    | j + 5, hj, hk => (simp at hj))
  obtain ⟨c0_0, c0_1, c0_2, c0_3, c0_4, rfl⟩ := list_5 hl0
  obtain ⟨_, e0_0, g0_0⟩ := hf0 0 _ _ rfl rfl
  simp only [List.getElem?_cons_succ, List.getElem?_cons_zero, Option.some.injEq] at e0_0
  subst e0_0
  obtain ⟨a0_0, rfl, w0_0⟩ := g0_0
  obtain ⟨_, e0_1, g0_1⟩ := hf0 1 _ _ rfl rfl
  simp only [List.getElem?_cons_succ, List.getElem?_cons_zero, Option.some.injEq] at e0_1
  subst e0_1
  obtain ⟨a0_1, rfl, w0_1⟩ := g0_1
  obtain ⟨_, e0_2, g0_2⟩ := hf0 2 _ _ rfl rfl
  simp only [List.getElem?_cons_succ, List.getElem?_cons_zero, Option.some.injEq] at e0_2
  subst e0_2
  obtain ⟨a0_2, rfl, w0_2⟩ := g0_2
  obtain ⟨_, e0_3, g0_3⟩ := hf0 3 _ _ rfl rfl
  simp only [List.getElem?_cons_succ, List.getElem?_cons_zero, Option.some.injEq] at e0_3
  subst e0_3
  obtain ⟨a0_3, rfl, w0_3⟩ := g0_3
  obtain ⟨_, e0_4, g0_4⟩ := hf0 4 _ _ rfl rfl
  simp only [List.getElem?_cons_succ, List.getElem?_cons_zero, Option.some.injEq] at e0_4
  subst e0_4
  obtain ⟨a0_4, rfl, w0_4⟩ := g0_4
  clear hA0 hval0
  refine (law_hnone a0_0 a0_3 a0_4 a0_1 a0_2 W).mono fun e W' ⟨he, bel⟩ => ?_
  subst he
  exact ⟨_, rfl, _, _, _, [], _, [], hW', trodAll_mk1 (shut_bool Try.underlying4 _), (trodAll_cons_mk (Below.trod laidOut (by kernel_rfl) (of_decide_eq_true (by kernel_rfl)) k0' bel lt0) trodAll_mk0), rfl, bel.frame _, fun h => by cases h⟩

theorem k1 : Rows.hashNoneRow.wf (OpenSpec.ofChange Rows.hashNoneSpec) = true := by kernel_rfl
theorem k2 : laidOutB Try.prog = true := by kernel_rfl
theorem k3 : mapsRowed Try.prog = true := by kernel_rfl
theorem k4 : Try.f6.params.all (Try.prog.readableRec ·) = true := by kernel_rfl
theorem k5 : namedTie Try.prog Rows.hashNoneRow.named Rows.hashNoneSpec.vars = true := by kernel_rfl
theorem k6 : (Rows.hashNoneRow.stops == []) = true := by kernel_rfl
theorem k7 : (Try.prog.stops == []) = true := by kernel_rfl
theorem k8 : (Rows.hashNoneRow.knobs == []) = true := by kernel_rfl
theorem k9 : (Try.prog.stopKnobs == []) = true := by kernel_rfl
theorem k10 : (Rows.hashNoneRow.inPlace == Try.prog.inPlace 6) = true := by kernel_rfl
theorem k11 : (Rows.hashNoneRow.unfollowed == Try.prog.unfollowed 6) = true := by kernel_rfl
theorem k12 : (Rows.hashNoneRow.recurses == Try.prog.recurses 6) = true := by kernel_rfl
theorem k13 : (Rows.hashNoneRow.named == Try.prog.varsNamed 6) = true := by kernel_rfl
theorem k14 : (Rows.hashNoneRow.maps == (Try.f6.params.toList ++ Rows.hashNoneSpec.plain.varTypes Try.prog).any (Try.prog.mapsRec ·)) = true := by kernel_rfl
theorem k15 : (Rows.hashNoneRow.ifaces == (Try.f6.params.toList ++ Rows.hashNoneSpec.plain.varTypes Try.prog).any (Try.prog.ifacesRec ·)) = true := by kernel_rfl
theorem k16 : (Rows.hashNoneRow.mapsOut == Try.prog.mapsAmong Try.f6.resultTypes.toList) = true := by kernel_rfl
theorem k17 : (Rows.hashNoneRow.loops == (Try.f6.params.toList ++ Rows.hashNoneSpec.plain.varTypes Try.prog).any (Try.prog.loopsFrom ·)) = true := by kernel_rfl
theorem k18 : (Rows.hashNoneRow.wideKeys == (Try.f6.params.toList ++ Rows.hashNoneSpec.plain.varTypes Try.prog ++ Try.f6.resultTypes.toList).any (Try.prog.wideKeysFrom ·)) = true := by kernel_rfl
theorem k19 : Rows.hashNoneSpec.vars.all (Try.prog.varReadable ·) = true := by kernel_rfl
theorem k20 : Try.f6.resultTypes.all (fun t => Try.prog.readableRec t && decide (t < Try.prog.types.size)) = true := by kernel_rfl
theorem k21 : (Rows.hashNoneRow.ifacesOut == Try.f6.resultTypes.toList.any (Try.prog.ifacesRec ·)) = true := by kernel_rfl
theorem k22 : (Rows.hashNoneRow.loopsOut == Try.f6.resultTypes.toList.any (Try.prog.loopsFrom ·)) = true := by kernel_rfl
theorem k23 : (Rows.hashNoneRow.plainKeys == Try.prog.plainKeys) = true := by kernel_rfl
theorem k24 : Rows.hashNoneRow.shortTexts.isNone = true := by kernel_rfl
theorem k25 : Try.prog.stopsHeard = true := by kernel_rfl
theorem k26 : Try.prog.mayEnter = true := by kernel_rfl
theorem k27 : (Rows.hashNoneRow.lifted == Try.prog.liftsFinal) = true := by kernel_rfl
theorem k28 : (Try.prog.make == some Rows.hashNoneRow.make) = true := by kernel_rfl
theorem k29 : (Rows.hashNoneRow.kinds == (if Rows.hashNoneRow.domain.isEmpty then [] else Try.f6.params.toList.map fun t => match Try.prog.underlying t with | some (.int k) => some k | _ => none)) = true := by kernel_rfl
theorem k30 : (Rows.hashNoneRow.pinned == Rows.hashNoneRow.pinnedBy) = true := by kernel_rfl
theorem k31 : (Rows.hashNoneRow.veiled == (Try.f6.params.toList ++ Rows.hashNoneSpec.plain.varTypes Try.prog ++ Try.f6.resultTypes.toList).any (Try.prog.veiledRec ·)) = true := by kernel_rfl
theorem k32 : Rows.hashNoneRow.veiledFits Try.prog Try.f6.params.toList (Try.f6.params.toList ++ Rows.hashNoneSpec.plain.varTypes Try.prog ++ Try.f6.resultTypes.toList) = true := by kernel_rfl
set_option maxRecDepth 100000 in
theorem closed : joinedFacts Try.prog 6 Try.f6 Rows.hashNoneSpec Rows.hashNoneRow = true :=
  facts_of k1 k2 k3 k4 k5 k6 k7 k8 k9 k10 k11 k12 k13 k14 k15 k16 k17 k18 k19 k20 k21 k22 k23 k24 k25 k26 k27 k28 k29 k30 k31 k32

theorem over : Rows.hashNoneRow.holds Try.pinned (OpenSpec.ofChange Rows.hashNoneSpec) :=
  OpenClaim.holds_of_wide 6 Try.f6 rfl rfl rfl rfl rfl rfl rfl ⟨rfl, rfl, rfl, rfl, rfl⟩ rfl rfl rfl rfl rfl (by kernel_rfl) Try.func6 closed
    (of_decide_eq_true (by kernel_rfl)) (by unfold Func.isWrapper; first | (rw [if_pos (by decide +kernel)]; kernel_rfl) | (rw [if_neg (by decide +kernel)]; exact ⟨rfl, rfl⟩))
    (fun os started H enc _ => lifted os started H enc)

theorem proved : Rows.HashNoneSaid :=
  over
#print axioms proved
end Go.Proofs.Ytpacfhpnnejlbaa.hashNone
