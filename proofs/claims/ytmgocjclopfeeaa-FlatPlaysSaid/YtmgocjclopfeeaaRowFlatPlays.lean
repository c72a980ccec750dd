/-
  The law FlatPlays returns true for every input, and leaves its input as it was; no condition beyond the given statement's own.
-/
import Derived.Test.YtmgocjclopfeeaaRows
import Derived.WalkKit
import Derived.ProofKit
import Derived.OpenShut
import Derived.ShutString
import Derived.ChangeOld
import Derived.Below
import Derived.Test.YtmgocjclopfeeaaJoin
import Derived.Test.YtmgocjclopfeeaaOpen
import Derived.Test.YtmgocjclopfeeaaLFPlays
namespace Go.Proofs.Ytmgocjclopfeeaa.flatPlays
open Go.ChangeShapes Go.WideShapes Go.ChangeAt Go.RowKit
open Go.ChangeMaps (open_string shut_string)
set_option linter.unusedVariables false
set_option linter.unusedSimpArgs false

theorem own : ownKnob Try.prog.godebug = none := by kernel_rfl
theorem laidOut : laidOutB Try.prog = true := by kernel_rfl

set_option maxRecDepth 100000 in
theorem lifted (os : Os) (started : os.Started) (H : Type) (enc : TypeId × Value → H) :
    ReturnsInHanded {} Try.checked os 7 .any (Rows.flatPlaysSpec.pre6 enc Try.prog Try.f7 Rows.flatPlaysRow.domain false) (Rows.flatPlaysSpec.post enc Try.prog Try.f7 false true false false) := by
  refine returnsInHanded_of_change (C := Try.checked) own started (by kernel_rfl) Try.func7
    (ChangeSpec.witness6 (enc := enc) (C := Try.checked) false ⟨#[], #[.agg #[.int .i64 0, .int .i64 0, .int .i64 0, .int .i64 0], .agg #[.int .i64 0, .int .i64 0], .slice none 0 0], []⟩ 8 (by kernel_rfl) (by kernel_rfl) (by kernel_rfl) (by kernel_rfl)) ?_
  intro W base args ds gs before hval0 hW hcnd _
  have hval : ∀ (j : Nat) t v, Try.f7.params[j]? = some t → args[j]? = some v → Value.okWide Try.prog W .any base t v := hval0
  have hW' := hW
  obtain ⟨p, q, hA0, hV, rfl, hfz, hnd⟩ := hW
  have hA : DataW.TrodAll enc Try.prog W 0 (fun _ => true) true Try.f7.params.toList args.toList ds p := hA0
  rw [Try.params7] at hA hval
  obtain ⟨v0, vs0, d0, ds0, p0, q0, hargs, rfl, rfl, h0, r0⟩ := trodAll_cons hA
  obtain ⟨v1, vs1, d1, ds1, p1, q1, rfl, rfl, rfl, h1, r1⟩ := trodAll_cons r0
  obtain ⟨v2, vs2, d2, ds2, p2, q2, rfl, rfl, rfl, h2, r2⟩ := trodAll_cons r1
  obtain ⟨rfl, rfl, rfl⟩ := trodAll_nil r2
  obtain rfl : args = #[v0, v1, v2] := by cases args; simp_all
  obtain ⟨rfl, rfl⟩ := trodVars_none hV
  have k0' := h0
  have lt0 : ∀ x ∈ p0, x.block < W.heap.size := by obtain ⟨m, hm⟩ := k0'; exact DataW.trod_lt m _ _ _ hm
  obtain ⟨cs0, rfl, hl0, hf0⟩ := open_struct Try.underlying29 (by kernel_rfl) (by kernel_rfl) (hval 0 29 v0 rfl rfl) h0 [.int .i64, .int .i64, .int .i64, .int .i64] (by
    intro j f k hj hk
    match j, hj, hk with
    | 0, hj, hk => (simp at hj hk; subst hj hk; exact ⟨_, Try.underlying3, rfl⟩)
    | 1, hj, hk => (simp at hj hk; subst hj hk; exact ⟨_, Try.underlying3, rfl⟩)
    | 2, hj, hk => (simp at hj hk; subst hj hk; exact ⟨_, Try.underlying3, rfl⟩)
    | 3, hj, hk => (simp at hj hk; subst hj hk; exact ⟨_, Try.underlying3, rfl⟩)
    | j + 4, hj, hk => (simp at hj))
  obtain ⟨c0_0, c0_1, c0_2, c0_3, rfl⟩ := list_4 hl0
  obtain ⟨_, e0_0, g0_0⟩ := hf0 0 _ _ rfl rfl
  simp only [List.getElem?_cons_succ, List.getElem?_cons_zero, Option.some.injEq] at e0_0
  subst e0_0
  obtain ⟨a0_0, rfl, w0_0⟩ := g0_0
  obtain ⟨_, e0_1, g0_1⟩ := hf0 1 _ _ rfl rfl
  simp only [List.getElem?_cons_succ, List.getElem?_cons_zero, Option.some.injEq] at e0_1
  subst e0_1
  obtain ⟨a0_1, rfl, w0_1⟩ := g0_1
  obtain ⟨_, e0_2, g0_2⟩ := hf0 2 _ _ rfl rfl
  simp only [List.getElem?_cons_succ, List.getElem?_cons_zero, Option.some.injEq] at e0_2
  subst e0_2
  obtain ⟨a0_2, rfl, w0_2⟩ := g0_2
  obtain ⟨_, e0_3, g0_3⟩ := hf0 3 _ _ rfl rfl
  simp only [List.getElem?_cons_succ, List.getElem?_cons_zero, Option.some.injEq] at e0_3
  subst e0_3
  obtain ⟨a0_3, rfl, w0_3⟩ := g0_3
  have k1' := h1
  have lt1 : ∀ x ∈ p1, x.block < W.heap.size := by obtain ⟨m, hm⟩ := k1'; exact DataW.trod_lt m _ _ _ hm
  obtain ⟨cs1, rfl, hl1, hf1⟩ := open_array Try.underlying46 Try.underlying3 (by kernel_rfl) (by kernel_rfl) (hval 1 46 v1 rfl rfl) h1
  obtain ⟨c1_0, c1_1, rfl⟩ := list_2 hl1
  obtain ⟨_, e1_0, g1_0⟩ := hf1 0 (by decide)
  simp only [List.getElem?_cons_succ, List.getElem?_cons_zero, Option.some.injEq] at e1_0
  subst e1_0
  obtain ⟨a1_0, rfl, w1_0⟩ := g1_0
  obtain ⟨_, e1_1, g1_1⟩ := hf1 1 (by decide)
  simp only [List.getElem?_cons_succ, List.getElem?_cons_zero, Option.some.injEq] at e1_1
  subst e1_1
  obtain ⟨a1_1, rfl, w1_1⟩ := g1_1
  have k2' := h2
  have lt2 : ∀ x ∈ p2, x.block < W.heap.size := by obtain ⟨m, hm⟩ := k2'; exact DataW.trod_lt m _ _ _ hm
  obtain ⟨a2, len2, cap2, rfl⟩ := okWide_slice Try.underlying47 (hval 2 47 v2 rfl rfl)
  have w2 := open_structs Try.underlying47 Try.underlying42 (by kernel_rfl) (by kernel_rfl) h2 [.int .i64, .str, .str, .int .i64, .int .i64, .int .u64] rfl (by decide) (by
    intro j f k hj hk
    match j, hj, hk with
    | 0, hj, hk => (simp at hj hk; subst hj hk; exact ⟨_, Try.underlying3, rfl⟩)
    | 1, hj, hk => (simp at hj hk; subst hj hk; exact ⟨_, Try.underlying9, rfl⟩)
    | 2, hj, hk => (simp at hj hk; subst hj hk; exact ⟨_, Try.underlying9, rfl⟩)
    | 3, hj, hk => (simp at hj hk; subst hj hk; exact ⟨_, Try.underlying3, rfl⟩)
    | 4, hj, hk => (simp at hj hk; subst hj hk; exact ⟨_, Try.underlying3, rfl⟩)
    | 5, hj, hk => (simp at hj hk; subst hj hk; exact ⟨_, Try.underlying33, rfl⟩)
    | j + 6, hj, hk => (simp at hj))
  clear hA0 hval0
  refine ((fplays_row w2)).mono fun e W' ⟨he, bel⟩ => ?_
  subst he
  exact ⟨_, rfl, _, _, _, [], _, [], hW', trodAll_mk1 (shut_bool Try.underlying4 _), (trodAll_cons_mk (Below.trod laidOut (by kernel_rfl) (of_decide_eq_true (by kernel_rfl)) k0' bel lt0) (trodAll_cons_mk (Below.trod laidOut (by kernel_rfl) (of_decide_eq_true (by kernel_rfl)) k1' bel lt1) (trodAll_cons_mk (Below.trod laidOut (by kernel_rfl) (of_decide_eq_true (by kernel_rfl)) k2' bel lt2) trodAll_mk0))), rfl, bel.frame _, fun h => by cases h⟩

theorem k1 : Rows.flatPlaysRow.wf (OpenSpec.ofChange Rows.flatPlaysSpec) = true := by kernel_rfl
theorem k2 : laidOutB Try.prog = true := by kernel_rfl
theorem k3 : mapsRowed Try.prog = true := by kernel_rfl
theorem k4 : Try.f7.params.all (Try.prog.readableRec ·) = true := by kernel_rfl
theorem k5 : namedTie Try.prog Rows.flatPlaysRow.named Rows.flatPlaysSpec.vars = true := by kernel_rfl
theorem k6 : (Rows.flatPlaysRow.stops == []) = true := by kernel_rfl
theorem k7 : (Try.prog.stops == []) = true := by kernel_rfl
theorem k8 : (Rows.flatPlaysRow.knobs == []) = true := by kernel_rfl
theorem k9 : (Try.prog.stopKnobs == []) = true := by kernel_rfl
theorem k10 : (Rows.flatPlaysRow.inPlace == Try.prog.inPlace 7) = true := by kernel_rfl
theorem k11 : (Rows.flatPlaysRow.unfollowed == Try.prog.unfollowed 7) = true := by kernel_rfl
theorem k12 : (Rows.flatPlaysRow.recurses == Try.prog.recurses 7) = true := by kernel_rfl
theorem k13 : (Rows.flatPlaysRow.named == Try.prog.varsNamed 7) = true := by kernel_rfl
theorem k14 : (Rows.flatPlaysRow.maps == (Try.f7.params.toList ++ Rows.flatPlaysSpec.plain.varTypes Try.prog).any (Try.prog.mapsRec ·)) = true := by kernel_rfl
theorem k15 : (Rows.flatPlaysRow.ifaces == (Try.f7.params.toList ++ Rows.flatPlaysSpec.plain.varTypes Try.prog).any (Try.prog.ifacesRec ·)) = true := by kernel_rfl
theorem k16 : (Rows.flatPlaysRow.mapsOut == Try.prog.mapsAmong Try.f7.resultTypes.toList) = true := by kernel_rfl
theorem k17 : (Rows.flatPlaysRow.loops == (Try.f7.params.toList ++ Rows.flatPlaysSpec.plain.varTypes Try.prog).any (Try.prog.loopsFrom ·)) = true := by kernel_rfl
theorem k18 : (Rows.flatPlaysRow.wideKeys == (Try.f7.params.toList ++ Rows.flatPlaysSpec.plain.varTypes Try.prog ++ Try.f7.resultTypes.toList).any (Try.prog.wideKeysFrom ·)) = true := by kernel_rfl
theorem k19 : Rows.flatPlaysSpec.vars.all (Try.prog.varReadable ·) = true := by kernel_rfl
theorem k20 : Try.f7.resultTypes.all (fun t => Try.prog.readableRec t && decide (t < Try.prog.types.size)) = true := by kernel_rfl
theorem k21 : (Rows.flatPlaysRow.ifacesOut == Try.f7.resultTypes.toList.any (Try.prog.ifacesRec ·)) = true := by kernel_rfl
theorem k22 : (Rows.flatPlaysRow.loopsOut == Try.f7.resultTypes.toList.any (Try.prog.loopsFrom ·)) = true := by kernel_rfl
theorem k23 : (Rows.flatPlaysRow.plainKeys == Try.prog.plainKeys) = true := by kernel_rfl
theorem k24 : Rows.flatPlaysRow.shortTexts.isNone = true := by kernel_rfl
theorem k25 : Try.prog.stopsHeard = true := by kernel_rfl
theorem k26 : Try.prog.mayEnter = true := by kernel_rfl
theorem k27 : (Rows.flatPlaysRow.lifted == Try.prog.liftsFinal) = true := by kernel_rfl
theorem k28 : (Try.prog.make == some Rows.flatPlaysRow.make) = true := by kernel_rfl
theorem k29 : (Rows.flatPlaysRow.kinds == (if Rows.flatPlaysRow.domain.isEmpty then [] else Try.f7.params.toList.map fun t => match Try.prog.underlying t with | some (.int k) => some k | _ => none)) = true := by kernel_rfl
theorem k30 : (Rows.flatPlaysRow.pinned == Rows.flatPlaysRow.pinnedBy) = true := by kernel_rfl
theorem k31 : (Rows.flatPlaysRow.veiled == (Try.f7.params.toList ++ Rows.flatPlaysSpec.plain.varTypes Try.prog ++ Try.f7.resultTypes.toList).any (Try.prog.veiledRec ·)) = true := by kernel_rfl
theorem k32 : Rows.flatPlaysRow.veiledFits Try.prog Try.f7.params.toList (Try.f7.params.toList ++ Rows.flatPlaysSpec.plain.varTypes Try.prog ++ Try.f7.resultTypes.toList) = true := by kernel_rfl
set_option maxRecDepth 100000 in
theorem closed : joinedFacts Try.prog 7 Try.f7 Rows.flatPlaysSpec Rows.flatPlaysRow = true :=
  facts_of k1 k2 k3 k4 k5 k6 k7 k8 k9 k10 k11 k12 k13 k14 k15 k16 k17 k18 k19 k20 k21 k22 k23 k24 k25 k26 k27 k28 k29 k30 k31 k32

theorem over : Rows.flatPlaysRow.holds Try.pinned (OpenSpec.ofChange Rows.flatPlaysSpec) :=
  OpenClaim.holds_of_wide 7 Try.f7 rfl rfl rfl rfl rfl rfl rfl ⟨rfl, rfl, rfl, rfl, rfl⟩ rfl rfl rfl rfl rfl (by kernel_rfl) Try.func7 closed
    (of_decide_eq_true (by kernel_rfl)) (by unfold Func.isWrapper; first | (rw [if_pos (by decide +kernel)]; kernel_rfl) | (rw [if_neg (by decide +kernel)]; exact ⟨rfl, rfl⟩))
    (fun os started H enc _ => lifted os started H enc)

theorem proved : Rows.FlatPlaysSaid :=
  over
#print axioms proved
end Go.Proofs.Ytmgocjclopfeeaa.flatPlays
