/- An instruction with its own fields alone, as the program tells it; no condition. -/
import Derived.Test.YtpahjllcomejbaaLayAll
import Derived.Test.YtpahjllcomejbaaPX86Encodesx2
set_option linter.unusedVariables false
set_option linter.unusedSimpArgs false
namespace Go.Proofs.Ytpahjllcomejbaa
open Go.RowKit Go.MapKept
open Go.Proofs.YtpahjllcomejbaaW.PrintWords Go.Proofs.YtpahjllcomejbaaW.PrintLast Go.Proofs.YtpahjllcomejbaaW.PrintMore
open PX86Encodes (x86_bare.f x86_bare.j0 x86_bare.j1 x86_bare.j2)

abbrev X6 := Int × Int × Int × Int × Int × Int
def bareS (kd d s n i wd : Int) : X6 :=
  if kd = 17 ∨ kd = 28 ∨ kd = 29 then (kd, 0, 0, 0, 0, 0)
  else if kd = 21 then (kd, 0, 0, 0, i, 0)
  else if kd = 22 then (kd, d, 0, 0, i, 0)
  else if kd = 2 then (kd, d, 0, 0, 0, wd)
  else if kd = 18 ∨ kd = 19 ∨ kd = 20 then (kd, d, s, n, i, 0)
  else if kd = 26 ∨ kd = 27 then (kd, d, s, n, 0, 0)
  else if kd = 11 ∨ kd = 12 ∨ kd = 13 ∨ kd = 14 ∨ kd = 15 ∨ kd = 16 ∨ kd = 23 ∨ kd = 24 ∨ kd = 25 then (kd, d, 0, 0, 0, 0)
  else (kd, d, s, 0, 0, 0)
theorem xbare_eq (k : Nat) (kd d s n i wd : Int) : x86_bare.f (k + 10) kd d s n i wd = some (bareS kd d s n i wd) := by
  have key : ∀ c : Int, (kd == c) = decide (kd = c) := fun c => by rw [Bool.eq_iff_iff]; simp
  unfold x86_bare.f bareS
  simp only [x86_bare.j0, x86_bare.j1, x86_bare.j2, key, decide_eq_true_iff]
  by_cases c17 : kd = 17
  · simp [c17]
  by_cases c28 : kd = 28
  · simp [c28]
  by_cases c29 : kd = 29
  · simp [c29]
  by_cases c21 : kd = 21
  · simp [c21]
  by_cases c22 : kd = 22
  · simp [c22]
  by_cases c2 : kd = 2
  · simp [c2]
  by_cases c18 : kd = 18
  · simp [c18]
  by_cases c19 : kd = 19
  · simp [c19]
  by_cases c20 : kd = 20
  · simp [c20]
  by_cases c26 : kd = 26
  · simp [c26]
  by_cases c27 : kd = 27
  · simp [c27]
  by_cases c11 : kd = 11
  · simp [c11]
  by_cases c12 : kd = 12
  · simp [c12]
  by_cases c13 : kd = 13
  · simp [c13]
  by_cases c14 : kd = 14
  · simp [c14]
  by_cases c15 : kd = 15
  · simp [c15]
  by_cases c16 : kd = 16
  · simp [c16]
  by_cases c23 : kd = 23
  · simp [c23]
  by_cases c24 : kd = 24
  · simp [c24]
  by_cases c25 : kd = 25
  · simp [c25]
  simp [c17, c28, c29, c21, c22, c2, c18, c19, c20, c26, c27, c11, c12, c13, c14, c15, c16, c23, c24, c25]
theorem below_fr {w W : World} (h : Below w.heap.size w W) : Fr [] [] w W := ⟨h.os, h.tape, h.output, h.size, fun k hk _ => h.block k hk, fun _ hk => by simp at hk⟩
theorem bare_calls (kd d s n i wd : Int) (w : World) : Calls Try.prog 12 #[.agg #[.int .i64 kd, .int .i64 d, .int .i64 s, .int .i64 n, .int .i64 i, .int .u64 wd]] w
    (TwoPost w (.agg #[.int .i64 (bareS kd d s n i wd).1, .int .i64 (bareS kd d s n i wd).2.1, .int .i64 (bareS kd d s n i wd).2.2.1, .int .i64 (bareS kd d s n i wd).2.2.2.1, .int .i64 (bareS kd d s n i wd).2.2.2.2.1, .int .u64 (bareS kd d s n i wd).2.2.2.2.2])) :=
  (PX86Encodes.x86_bare.calls 10 kd d s n i wd _ _ _ _ _ _ w (xbare_eq 0 kd d s n i wd)).mono fun e W ⟨h1, h2⟩ => ⟨h1, below_fr h2⟩
end Go.Proofs.Ytpahjllcomejbaa
