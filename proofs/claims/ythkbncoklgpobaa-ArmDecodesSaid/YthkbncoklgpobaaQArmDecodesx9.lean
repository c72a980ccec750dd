-- written by a program of this session: a changed copy of the print
import Derived.Test.YthkbncoklgpobaaQArmDecodesx0
import Derived.Test.YthkbncoklgpobaaQArmDecodesx5
import Derived.Test.YthkbncoklgpobaaQArmDecodesx8
namespace Go.Proofs.Ythkbncoklgpobaa.QArmDecodes
open Go.RowKit Go.Proofs.YthkbncoklgpobaaW.PrintWords Go.Proofs.YthkbncoklgpobaaW.PrintLast Go.Proofs.YthkbncoklgpobaaW.PrintMore
attribute [local go_sem] max2_int min2_int max_two min_two max_three min_three max_four min_four   -- for this text's walks alone
set_option linter.unusedVariables false
set_option linter.unusedSimpArgs false

/-! ### portcullisref25_Decode: function 10 -/
mutual
def portcullisref25_Decode.j0 : Nat → Int → Bool → Option (Int × Int × Int × Int × Int × Int)
 | 0, _, _ => none
 | k + 1, x0, x16 => if x16 = true then (some (0, 0, 0, 0, 0, 30)) else (portcullisref25_Decode.l0 k x0 (Go.bits .and .i64 x0 31) (Go.bits .and .i64 (x0 / 32) 31) (Go.bits .and .i64 (x0 / 65536) 31) 1)
def portcullisref25_Decode.l0 : Nat → Int → Int → Int → Int → Int → Option (Int × Int × Int × Int × Int × Int)
 | 0, _, _, _, _, _ => none
 | k + 1, x0, x4, x5, x6, x7 => if x7 ≤ 26 then (if x7 = 1 then (portcullisref25_Decode.j2 k x0 x4 x5 x6 x7 x7 (x7 == 1)) else (if x7 = 2 then (portcullisref25_Decode.j2 k x0 x4 x5 x6 x7 x7 (x7 == 2)) else (portcullisref25_Decode.j2 k x0 x4 x5 x6 x7 x7 (x7 == 25)))) else (some (0, 0, 0, 0, 0, 30))
def portcullisref25_Decode.j5 : Nat → Int → Int → Int → Int → Int → List Int → Option (Int × Int × Int × Int × Int × Int)
 | 0, _, _, _, _, _, _ => none
 | k + 1, x0, x4, x5, x6, x7, x8 => portcullisref25_Decode.l1 k x0 x4 x5 x6 x7 x8 0
def portcullisref25_Decode.l1 : Nat → Int → Int → Int → Int → Int → List Int → Int → Option (Int × Int × Int × Int × Int × Int)
 | 0, _, _, _, _, _, _, _ => none
 | k + 1, x0, x4, x5, x6, x7, x8, x9 => if x9 < (x8.length : Int) then (if 0 ≤ x9 then (if x7 = 1 then (portcullisref25_Decode.j7 k x0 x4 x5 x6 x7 x8 x9 true x7 x4 x5 x6 (rd x8 x9)) else (portcullisref25_Decode.j7 k x0 x4 x5 x6 x7 x8 x9 (x7 == 2) x7 x4 x5 x6 (rd x8 x9))) else (none)) else (portcullisref25_Decode.l0 k x0 x4 x5 x6 (wrap64 (x7 + 1)))
def portcullisref25_Decode.j7 : Nat → Int → Int → Int → Int → Int → List Int → Int → Bool → Int → Int → Int → Int → Int → Option (Int × Int × Int × Int × Int × Int)
 | 0, _, _, _, _, _, _, _, _, _, _, _, _, _ => none
 | k + 1, x0, x4, x5, x6, x7, x8, x9, x94, x238000, x238001, x238002, x238003, x238004 => if x94 = true then (portcullisref25_Decode.j8 k x0 x4 x5 x6 x7 x8 x9 x238000 x238001 (Go.bits .and .i64 (x0 / 2097152) 3) x238003 x238004) else (portcullisref25_Decode.j8 k x0 x4 x5 x6 x7 x8 x9 x238000 x238001 x238002 x238003 x238004)
def portcullisref25_Decode.j8 : Nat → Int → Int → Int → Int → Int → List Int → Int → Int → Int → Int → Int → Int → Option (Int × Int × Int × Int × Int × Int)
 | 0, _, _, _, _, _, _, _, _, _, _, _, _ => none
 | k + 1, x0, x4, x5, x6, x7, x8, x9, x238000, x238001, x238002, x238003, x238004 => if x7 = 24 then (portcullisref25_Decode.j9 k x0 x4 x5 x6 x7 x8 x9 x238000 (Go.bits .and .i64 x0 15) x238002 x238003 x238004) else (portcullisref25_Decode.j9 k x0 x4 x5 x6 x7 x8 x9 x238000 x238001 x238002 x238003 x238004)
def portcullisref25_Decode.j9 : Nat → Int → Int → Int → Int → Int → List Int → Int → Int → Int → Int → Int → Int → Option (Int × Int × Int × Int × Int × Int)
 | 0, _, _, _, _, _, _, _, _, _, _, _, _ => none
 | k + 1, x0, x4, x5, x6, x7, x8, x9, x238000, x238001, x238002, x238003, x238004 => (portcullisref25_bare.f k x238000 x238001 x238002 x238003 x238004).bind fun bt238 => ((portcullisref25_Word.f k bt238.1 bt238.2.1 bt238.2.2.1 bt238.2.2.2.1 bt238.2.2.2.2).bind fun t243 => (if t243 = x0 then (some (bt238.1, bt238.2.1, bt238.2.2.1, bt238.2.2.2.1, bt238.2.2.2.2, 0)) else (portcullisref25_Decode.l1 k x0 x4 x5 x6 x7 x8 (wrap64 (x9 + 1)))))
def portcullisref25_Decode.j2 : Nat → Int → Int → Int → Int → Int → Int → Bool → Option (Int × Int × Int × Int × Int × Int)
 | 0, _, _, _, _, _, _, _ => none
 | k + 1, x0, x4, x5, x6, x7, x30, x32 => if x32 = true then (portcullisref25_Decode.j5 k x0 x4 x5 x6 x7 (([Go.bits .and .i64 (x0 / 32) 65535] : List Int))) else (if x30 = 9 then (portcullisref25_Decode.j5 k x0 x4 x5 x6 x7 (([Go.bits .and .i64 (x0 / 1024) 31] : List Int))) else (if x30 = 15 then (portcullisref25_Decode.j3 k x0 x4 x5 x6 x7 x30 (x30 == 15)) else (if x30 = 16 then (portcullisref25_Decode.j3 k x0 x4 x5 x6 x7 x30 (x30 == 16)) else (portcullisref25_Decode.j3 k x0 x4 x5 x6 x7 x30 (x30 == 17)))))
def portcullisref25_Decode.j3 : Nat → Int → Int → Int → Int → Int → Int → Bool → Option (Int × Int × Int × Int × Int × Int)
 | 0, _, _, _, _, _, _, _ => none
 | k + 1, x0, x4, x5, x6, x7, x30, x46 => if x46 = true then (portcullisref25_Decode.j5 k x0 x4 x5 x6 x7 (([8, 16, 32, 64] : List Int))) else (if x30 = 18 then (portcullisref25_Decode.j4 k x0 x4 x5 x6 x7 x30 (x30 == 18)) else (if x30 = 19 then (portcullisref25_Decode.j4 k x0 x4 x5 x6 x7 x30 (x30 == 19)) else (portcullisref25_Decode.j4 k x0 x4 x5 x6 x7 x30 (x30 == 20))))
def portcullisref25_Decode.j4 : Nat → Int → Int → Int → Int → Int → Int → Bool → Option (Int × Int × Int × Int × Int × Int)
 | 0, _, _, _, _, _, _, _ => none
 | k + 1, x0, x4, x5, x6, x7, x30, x51 => if x51 = true then (portcullisref25_Decode.j5 k x0 x4 x5 x6 x7 (([1, 2, 4, 8] : List Int))) else (if x30 = 23 then (portcullisref25_Decode.j5 k x0 x4 x5 x6 x7 (([Go.bits .and .i64 x0 67108863, wrap64 ((Go.bits .and .i64 x0 67108863) - 67108864)] : List Int))) else (if x30 = 24 then (portcullisref25_Decode.j5 k x0 x4 x5 x6 x7 (([Go.bits .and .i64 (x0 / 32) 524287, wrap64 ((Go.bits .and .i64 (x0 / 32) 524287) - 524288)] : List Int))) else (portcullisref25_Decode.j5 k x0 x4 x5 x6 x7 (([0] : List Int)))))
end
def portcullisref25_Decode.f (k : Nat) (a0 : Int) : Option (Int × Int × Int × Int × Int × Int) := if a0 < 0 then (portcullisref25_Decode.j0 k a0 true) else (portcullisref25_Decode.j0 k a0 (decide (a0 ≥ 4294967296)))
theorem portcullisref25_Decode.mono_l : ∀ k, (∀ y0 y1, LeO (portcullisref25_Decode.j0 k y0 y1) (portcullisref25_Decode.j0 (k + 1) y0 y1)) ∧ (∀ y0 y1 y2 y3 y4, LeO (portcullisref25_Decode.l0 k y0 y1 y2 y3 y4) (portcullisref25_Decode.l0 (k + 1) y0 y1 y2 y3 y4)) ∧ (∀ y0 y1 y2 y3 y4 y5, LeO (portcullisref25_Decode.j5 k y0 y1 y2 y3 y4 y5) (portcullisref25_Decode.j5 (k + 1) y0 y1 y2 y3 y4 y5)) ∧ (∀ y0 y1 y2 y3 y4 y5 y6, LeO (portcullisref25_Decode.l1 k y0 y1 y2 y3 y4 y5 y6) (portcullisref25_Decode.l1 (k + 1) y0 y1 y2 y3 y4 y5 y6)) ∧ (∀ y0 y1 y2 y3 y4 y5 y6 y7 y8 y9 y10 y11 y12, LeO (portcullisref25_Decode.j7 k y0 y1 y2 y3 y4 y5 y6 y7 y8 y9 y10 y11 y12) (portcullisref25_Decode.j7 (k + 1) y0 y1 y2 y3 y4 y5 y6 y7 y8 y9 y10 y11 y12)) ∧ (∀ y0 y1 y2 y3 y4 y5 y6 y7 y8 y9 y10 y11, LeO (portcullisref25_Decode.j8 k y0 y1 y2 y3 y4 y5 y6 y7 y8 y9 y10 y11) (portcullisref25_Decode.j8 (k + 1) y0 y1 y2 y3 y4 y5 y6 y7 y8 y9 y10 y11)) ∧ (∀ y0 y1 y2 y3 y4 y5 y6 y7 y8 y9 y10 y11, LeO (portcullisref25_Decode.j9 k y0 y1 y2 y3 y4 y5 y6 y7 y8 y9 y10 y11) (portcullisref25_Decode.j9 (k + 1) y0 y1 y2 y3 y4 y5 y6 y7 y8 y9 y10 y11)) ∧ (∀ y0 y1 y2 y3 y4 y5 y6, LeO (portcullisref25_Decode.j2 k y0 y1 y2 y3 y4 y5 y6) (portcullisref25_Decode.j2 (k + 1) y0 y1 y2 y3 y4 y5 y6)) ∧ (∀ y0 y1 y2 y3 y4 y5 y6, LeO (portcullisref25_Decode.j3 k y0 y1 y2 y3 y4 y5 y6) (portcullisref25_Decode.j3 (k + 1) y0 y1 y2 y3 y4 y5 y6)) ∧ (∀ y0 y1 y2 y3 y4 y5 y6, LeO (portcullisref25_Decode.j4 k y0 y1 y2 y3 y4 y5 y6) (portcullisref25_Decode.j4 (k + 1) y0 y1 y2 y3 y4 y5 y6))
 | 0 => ⟨fun _ _ r h => by simp [portcullisref25_Decode.j0] at h, fun _ _ _ _ _ r h => by simp [portcullisref25_Decode.l0] at h, fun _ _ _ _ _ _ r h => by simp [portcullisref25_Decode.j5] at h, fun _ _ _ _ _ _ _ r h => by simp [portcullisref25_Decode.l1] at h, fun _ _ _ _ _ _ _ _ _ _ _ _ _ r h => by simp [portcullisref25_Decode.j7] at h, fun _ _ _ _ _ _ _ _ _ _ _ _ r h => by simp [portcullisref25_Decode.j8] at h, fun _ _ _ _ _ _ _ _ _ _ _ _ r h => by simp [portcullisref25_Decode.j9] at h, fun _ _ _ _ _ _ _ r h => by simp [portcullisref25_Decode.j2] at h, fun _ _ _ _ _ _ _ r h => by simp [portcullisref25_Decode.j3] at h, fun _ _ _ _ _ _ _ r h => by simp [portcullisref25_Decode.j4] at h⟩
 | k + 1 => by
  obtain ⟨ih0, ih1, ih2, ih3, ih4, ih5, ih6, ih7, ih8, ih9⟩ := portcullisref25_Decode.mono_l k
  refine ⟨?_, ?_, ?_, ?_, ?_, ?_, ?_, ?_, ?_, ?_⟩
  ·
   intro y0 y1
   unfold portcullisref25_Decode.j0
   repeat' first
   | (with_reducible exact ih0 _ _)
   | (with_reducible exact ih1 _ _ _ _ _)
   | (with_reducible exact ih2 _ _ _ _ _ _)
   | (with_reducible exact ih3 _ _ _ _ _ _ _)
   | (with_reducible exact ih4 _ _ _ _ _ _ _ _ _ _ _ _ _)
   | (with_reducible exact ih5 _ _ _ _ _ _ _ _ _ _ _ _)
   | (with_reducible exact ih6 _ _ _ _ _ _ _ _ _ _ _ _)
   | (with_reducible exact ih7 _ _ _ _ _ _ _)
   | (with_reducible exact ih8 _ _ _ _ _ _ _)
   | (with_reducible exact ih9 _ _ _ _ _ _ _)
   | (with_reducible exact portcullisref25_Word.mono _ _ _ _ _ _)
   | (with_reducible exact portcullisref25_bare.mono _ _ _ _ _ _)
   | (with_reducible exact LeO.refl _)
   | (with_reducible exact LeO.none _)
   | (with_reducible refine LeO.ite ?_ ?_)
   | (with_reducible refine LeO.bind ?_ (fun _ => ?_))
   | exact ih0 _ _
   | exact ih1 _ _ _ _ _
   | exact ih2 _ _ _ _ _ _
   | exact ih3 _ _ _ _ _ _ _
   | exact ih4 _ _ _ _ _ _ _ _ _ _ _ _ _
   | exact ih5 _ _ _ _ _ _ _ _ _ _ _ _
   | exact ih6 _ _ _ _ _ _ _ _ _ _ _ _
   | exact ih7 _ _ _ _ _ _ _
   | exact ih8 _ _ _ _ _ _ _
   | exact ih9 _ _ _ _ _ _ _
   | exact portcullisref25_Word.mono _ _ _ _ _ _
   | exact portcullisref25_bare.mono _ _ _ _ _ _
   | exact LeO.none _
   | refine LeO.ite ?_ ?_
   | refine LeO.bind ?_ (fun _ => ?_)
  ·
   intro y0 y1 y2 y3 y4
   unfold portcullisref25_Decode.l0
   repeat' first
   | (with_reducible exact ih0 _ _)
   | (with_reducible exact ih1 _ _ _ _ _)
   | (with_reducible exact ih2 _ _ _ _ _ _)
   | (with_reducible exact ih3 _ _ _ _ _ _ _)
   | (with_reducible exact ih4 _ _ _ _ _ _ _ _ _ _ _ _ _)
   | (with_reducible exact ih5 _ _ _ _ _ _ _ _ _ _ _ _)
   | (with_reducible exact ih6 _ _ _ _ _ _ _ _ _ _ _ _)
   | (with_reducible exact ih7 _ _ _ _ _ _ _)
   | (with_reducible exact ih8 _ _ _ _ _ _ _)
   | (with_reducible exact ih9 _ _ _ _ _ _ _)
   | (with_reducible exact portcullisref25_Word.mono _ _ _ _ _ _)
   | (with_reducible exact portcullisref25_bare.mono _ _ _ _ _ _)
   | (with_reducible exact LeO.refl _)
   | (with_reducible exact LeO.none _)
   | (with_reducible refine LeO.ite ?_ ?_)
   | (with_reducible refine LeO.bind ?_ (fun _ => ?_))
   | exact ih0 _ _
   | exact ih1 _ _ _ _ _
   | exact ih2 _ _ _ _ _ _
   | exact ih3 _ _ _ _ _ _ _
   | exact ih4 _ _ _ _ _ _ _ _ _ _ _ _ _
   | exact ih5 _ _ _ _ _ _ _ _ _ _ _ _
   | exact ih6 _ _ _ _ _ _ _ _ _ _ _ _
   | exact ih7 _ _ _ _ _ _ _
   | exact ih8 _ _ _ _ _ _ _
   | exact ih9 _ _ _ _ _ _ _
   | exact portcullisref25_Word.mono _ _ _ _ _ _
   | exact portcullisref25_bare.mono _ _ _ _ _ _
   | exact LeO.none _
   | refine LeO.ite ?_ ?_
   | refine LeO.bind ?_ (fun _ => ?_)
  ·
   intro y0 y1 y2 y3 y4 y5
   unfold portcullisref25_Decode.j5
   repeat' first
   | (with_reducible exact ih0 _ _)
   | (with_reducible exact ih1 _ _ _ _ _)
   | (with_reducible exact ih2 _ _ _ _ _ _)
   | (with_reducible exact ih3 _ _ _ _ _ _ _)
   | (with_reducible exact ih4 _ _ _ _ _ _ _ _ _ _ _ _ _)
   | (with_reducible exact ih5 _ _ _ _ _ _ _ _ _ _ _ _)
   | (with_reducible exact ih6 _ _ _ _ _ _ _ _ _ _ _ _)
   | (with_reducible exact ih7 _ _ _ _ _ _ _)
   | (with_reducible exact ih8 _ _ _ _ _ _ _)
   | (with_reducible exact ih9 _ _ _ _ _ _ _)
   | (with_reducible exact portcullisref25_Word.mono _ _ _ _ _ _)
   | (with_reducible exact portcullisref25_bare.mono _ _ _ _ _ _)
   | (with_reducible exact LeO.refl _)
   | (with_reducible exact LeO.none _)
   | (with_reducible refine LeO.ite ?_ ?_)
   | (with_reducible refine LeO.bind ?_ (fun _ => ?_))
   | exact ih0 _ _
   | exact ih1 _ _ _ _ _
   | exact ih2 _ _ _ _ _ _
   | exact ih3 _ _ _ _ _ _ _
   | exact ih4 _ _ _ _ _ _ _ _ _ _ _ _ _
   | exact ih5 _ _ _ _ _ _ _ _ _ _ _ _
   | exact ih6 _ _ _ _ _ _ _ _ _ _ _ _
   | exact ih7 _ _ _ _ _ _ _
   | exact ih8 _ _ _ _ _ _ _
   | exact ih9 _ _ _ _ _ _ _
   | exact portcullisref25_Word.mono _ _ _ _ _ _
   | exact portcullisref25_bare.mono _ _ _ _ _ _
   | exact LeO.none _
   | refine LeO.ite ?_ ?_
   | refine LeO.bind ?_ (fun _ => ?_)
  ·
   intro y0 y1 y2 y3 y4 y5 y6
   unfold portcullisref25_Decode.l1
   repeat' first
   | (with_reducible exact ih0 _ _)
   | (with_reducible exact ih1 _ _ _ _ _)
   | (with_reducible exact ih2 _ _ _ _ _ _)
   | (with_reducible exact ih3 _ _ _ _ _ _ _)
   | (with_reducible exact ih4 _ _ _ _ _ _ _ _ _ _ _ _ _)
   | (with_reducible exact ih5 _ _ _ _ _ _ _ _ _ _ _ _)
   | (with_reducible exact ih6 _ _ _ _ _ _ _ _ _ _ _ _)
   | (with_reducible exact ih7 _ _ _ _ _ _ _)
   | (with_reducible exact ih8 _ _ _ _ _ _ _)
   | (with_reducible exact ih9 _ _ _ _ _ _ _)
   | (with_reducible exact portcullisref25_Word.mono _ _ _ _ _ _)
   | (with_reducible exact portcullisref25_bare.mono _ _ _ _ _ _)
   | (with_reducible exact LeO.refl _)
   | (with_reducible exact LeO.none _)
   | (with_reducible refine LeO.ite ?_ ?_)
   | (with_reducible refine LeO.bind ?_ (fun _ => ?_))
   | exact ih0 _ _
   | exact ih1 _ _ _ _ _
   | exact ih2 _ _ _ _ _ _
   | exact ih3 _ _ _ _ _ _ _
   | exact ih4 _ _ _ _ _ _ _ _ _ _ _ _ _
   | exact ih5 _ _ _ _ _ _ _ _ _ _ _ _
   | exact ih6 _ _ _ _ _ _ _ _ _ _ _ _
   | exact ih7 _ _ _ _ _ _ _
   | exact ih8 _ _ _ _ _ _ _
   | exact ih9 _ _ _ _ _ _ _
   | exact portcullisref25_Word.mono _ _ _ _ _ _
   | exact portcullisref25_bare.mono _ _ _ _ _ _
   | exact LeO.none _
   | refine LeO.ite ?_ ?_
   | refine LeO.bind ?_ (fun _ => ?_)
  ·
   intro y0 y1 y2 y3 y4 y5 y6 y7 y8 y9 y10 y11 y12
   unfold portcullisref25_Decode.j7
   repeat' first
   | (with_reducible exact ih0 _ _)
   | (with_reducible exact ih1 _ _ _ _ _)
   | (with_reducible exact ih2 _ _ _ _ _ _)
   | (with_reducible exact ih3 _ _ _ _ _ _ _)
   | (with_reducible exact ih4 _ _ _ _ _ _ _ _ _ _ _ _ _)
   | (with_reducible exact ih5 _ _ _ _ _ _ _ _ _ _ _ _)
   | (with_reducible exact ih6 _ _ _ _ _ _ _ _ _ _ _ _)
   | (with_reducible exact ih7 _ _ _ _ _ _ _)
   | (with_reducible exact ih8 _ _ _ _ _ _ _)
   | (with_reducible exact ih9 _ _ _ _ _ _ _)
   | (with_reducible exact portcullisref25_Word.mono _ _ _ _ _ _)
   | (with_reducible exact portcullisref25_bare.mono _ _ _ _ _ _)
   | (with_reducible exact LeO.refl _)
   | (with_reducible exact LeO.none _)
   | (with_reducible refine LeO.ite ?_ ?_)
   | (with_reducible refine LeO.bind ?_ (fun _ => ?_))
   | exact ih0 _ _
   | exact ih1 _ _ _ _ _
   | exact ih2 _ _ _ _ _ _
   | exact ih3 _ _ _ _ _ _ _
   | exact ih4 _ _ _ _ _ _ _ _ _ _ _ _ _
   | exact ih5 _ _ _ _ _ _ _ _ _ _ _ _
   | exact ih6 _ _ _ _ _ _ _ _ _ _ _ _
   | exact ih7 _ _ _ _ _ _ _
   | exact ih8 _ _ _ _ _ _ _
   | exact ih9 _ _ _ _ _ _ _
   | exact portcullisref25_Word.mono _ _ _ _ _ _
   | exact portcullisref25_bare.mono _ _ _ _ _ _
   | exact LeO.none _
   | refine LeO.ite ?_ ?_
   | refine LeO.bind ?_ (fun _ => ?_)
  ·
   intro y0 y1 y2 y3 y4 y5 y6 y7 y8 y9 y10 y11
   unfold portcullisref25_Decode.j8
   repeat' first
   | (with_reducible exact ih0 _ _)
   | (with_reducible exact ih1 _ _ _ _ _)
   | (with_reducible exact ih2 _ _ _ _ _ _)
   | (with_reducible exact ih3 _ _ _ _ _ _ _)
   | (with_reducible exact ih4 _ _ _ _ _ _ _ _ _ _ _ _ _)
   | (with_reducible exact ih5 _ _ _ _ _ _ _ _ _ _ _ _)
   | (with_reducible exact ih6 _ _ _ _ _ _ _ _ _ _ _ _)
   | (with_reducible exact ih7 _ _ _ _ _ _ _)
   | (with_reducible exact ih8 _ _ _ _ _ _ _)
   | (with_reducible exact ih9 _ _ _ _ _ _ _)
   | (with_reducible exact portcullisref25_Word.mono _ _ _ _ _ _)
   | (with_reducible exact portcullisref25_bare.mono _ _ _ _ _ _)
   | (with_reducible exact LeO.refl _)
   | (with_reducible exact LeO.none _)
   | (with_reducible refine LeO.ite ?_ ?_)
   | (with_reducible refine LeO.bind ?_ (fun _ => ?_))
   | exact ih0 _ _
   | exact ih1 _ _ _ _ _
   | exact ih2 _ _ _ _ _ _
   | exact ih3 _ _ _ _ _ _ _
   | exact ih4 _ _ _ _ _ _ _ _ _ _ _ _ _
   | exact ih5 _ _ _ _ _ _ _ _ _ _ _ _
   | exact ih6 _ _ _ _ _ _ _ _ _ _ _ _
   | exact ih7 _ _ _ _ _ _ _
   | exact ih8 _ _ _ _ _ _ _
   | exact ih9 _ _ _ _ _ _ _
   | exact portcullisref25_Word.mono _ _ _ _ _ _
   | exact portcullisref25_bare.mono _ _ _ _ _ _
   | exact LeO.none _
   | refine LeO.ite ?_ ?_
   | refine LeO.bind ?_ (fun _ => ?_)
  ·
   intro y0 y1 y2 y3 y4 y5 y6 y7 y8 y9 y10 y11
   unfold portcullisref25_Decode.j9
   repeat' first
   | (with_reducible exact ih0 _ _)
   | (with_reducible exact ih1 _ _ _ _ _)
   | (with_reducible exact ih2 _ _ _ _ _ _)
   | (with_reducible exact ih3 _ _ _ _ _ _ _)
   | (with_reducible exact ih4 _ _ _ _ _ _ _ _ _ _ _ _ _)
   | (with_reducible exact ih5 _ _ _ _ _ _ _ _ _ _ _ _)
   | (with_reducible exact ih6 _ _ _ _ _ _ _ _ _ _ _ _)
   | (with_reducible exact ih7 _ _ _ _ _ _ _)
   | (with_reducible exact ih8 _ _ _ _ _ _ _)
   | (with_reducible exact ih9 _ _ _ _ _ _ _)
   | (with_reducible exact portcullisref25_Word.mono _ _ _ _ _ _)
   | (with_reducible exact portcullisref25_bare.mono _ _ _ _ _ _)
   | (with_reducible exact LeO.refl _)
   | (with_reducible exact LeO.none _)
   | (with_reducible refine LeO.ite ?_ ?_)
   | (with_reducible refine LeO.bind ?_ (fun _ => ?_))
   | exact ih0 _ _
   | exact ih1 _ _ _ _ _
   | exact ih2 _ _ _ _ _ _
   | exact ih3 _ _ _ _ _ _ _
   | exact ih4 _ _ _ _ _ _ _ _ _ _ _ _ _
   | exact ih5 _ _ _ _ _ _ _ _ _ _ _ _
   | exact ih6 _ _ _ _ _ _ _ _ _ _ _ _
   | exact ih7 _ _ _ _ _ _ _
   | exact ih8 _ _ _ _ _ _ _
   | exact ih9 _ _ _ _ _ _ _
   | exact portcullisref25_Word.mono _ _ _ _ _ _
   | exact portcullisref25_bare.mono _ _ _ _ _ _
   | exact LeO.none _
   | refine LeO.ite ?_ ?_
   | refine LeO.bind ?_ (fun _ => ?_)
  ·
   intro y0 y1 y2 y3 y4 y5 y6
   unfold portcullisref25_Decode.j2
   repeat' first
   | (with_reducible exact ih0 _ _)
   | (with_reducible exact ih1 _ _ _ _ _)
   | (with_reducible exact ih2 _ _ _ _ _ _)
   | (with_reducible exact ih3 _ _ _ _ _ _ _)
   | (with_reducible exact ih4 _ _ _ _ _ _ _ _ _ _ _ _ _)
   | (with_reducible exact ih5 _ _ _ _ _ _ _ _ _ _ _ _)
   | (with_reducible exact ih6 _ _ _ _ _ _ _ _ _ _ _ _)
   | (with_reducible exact ih7 _ _ _ _ _ _ _)
   | (with_reducible exact ih8 _ _ _ _ _ _ _)
   | (with_reducible exact ih9 _ _ _ _ _ _ _)
   | (with_reducible exact portcullisref25_Word.mono _ _ _ _ _ _)
   | (with_reducible exact portcullisref25_bare.mono _ _ _ _ _ _)
   | (with_reducible exact LeO.refl _)
   | (with_reducible exact LeO.none _)
   | (with_reducible refine LeO.ite ?_ ?_)
   | (with_reducible refine LeO.bind ?_ (fun _ => ?_))
   | exact ih0 _ _
   | exact ih1 _ _ _ _ _
   | exact ih2 _ _ _ _ _ _
   | exact ih3 _ _ _ _ _ _ _
   | exact ih4 _ _ _ _ _ _ _ _ _ _ _ _ _
   | exact ih5 _ _ _ _ _ _ _ _ _ _ _ _
   | exact ih6 _ _ _ _ _ _ _ _ _ _ _ _
   | exact ih7 _ _ _ _ _ _ _
   | exact ih8 _ _ _ _ _ _ _
   | exact ih9 _ _ _ _ _ _ _
   | exact portcullisref25_Word.mono _ _ _ _ _ _
   | exact portcullisref25_bare.mono _ _ _ _ _ _
   | exact LeO.none _
   | refine LeO.ite ?_ ?_
   | refine LeO.bind ?_ (fun _ => ?_)
  ·
   intro y0 y1 y2 y3 y4 y5 y6
   unfold portcullisref25_Decode.j3
   repeat' first
   | (with_reducible exact ih0 _ _)
   | (with_reducible exact ih1 _ _ _ _ _)
   | (with_reducible exact ih2 _ _ _ _ _ _)
   | (with_reducible exact ih3 _ _ _ _ _ _ _)
   | (with_reducible exact ih4 _ _ _ _ _ _ _ _ _ _ _ _ _)
   | (with_reducible exact ih5 _ _ _ _ _ _ _ _ _ _ _ _)
   | (with_reducible exact ih6 _ _ _ _ _ _ _ _ _ _ _ _)
   | (with_reducible exact ih7 _ _ _ _ _ _ _)
   | (with_reducible exact ih8 _ _ _ _ _ _ _)
   | (with_reducible exact ih9 _ _ _ _ _ _ _)
   | (with_reducible exact portcullisref25_Word.mono _ _ _ _ _ _)
   | (with_reducible exact portcullisref25_bare.mono _ _ _ _ _ _)
   | (with_reducible exact LeO.refl _)
   | (with_reducible exact LeO.none _)
   | (with_reducible refine LeO.ite ?_ ?_)
   | (with_reducible refine LeO.bind ?_ (fun _ => ?_))
   | exact ih0 _ _
   | exact ih1 _ _ _ _ _
   | exact ih2 _ _ _ _ _ _
   | exact ih3 _ _ _ _ _ _ _
   | exact ih4 _ _ _ _ _ _ _ _ _ _ _ _ _
   | exact ih5 _ _ _ _ _ _ _ _ _ _ _ _
   | exact ih6 _ _ _ _ _ _ _ _ _ _ _ _
   | exact ih7 _ _ _ _ _ _ _
   | exact ih8 _ _ _ _ _ _ _
   | exact ih9 _ _ _ _ _ _ _
   | exact portcullisref25_Word.mono _ _ _ _ _ _
   | exact portcullisref25_bare.mono _ _ _ _ _ _
   | exact LeO.none _
   | refine LeO.ite ?_ ?_
   | refine LeO.bind ?_ (fun _ => ?_)
  ·
   intro y0 y1 y2 y3 y4 y5 y6
   unfold portcullisref25_Decode.j4
   repeat' first
   | (with_reducible exact ih0 _ _)
   | (with_reducible exact ih1 _ _ _ _ _)
   | (with_reducible exact ih2 _ _ _ _ _ _)
   | (with_reducible exact ih3 _ _ _ _ _ _ _)
   | (with_reducible exact ih4 _ _ _ _ _ _ _ _ _ _ _ _ _)
   | (with_reducible exact ih5 _ _ _ _ _ _ _ _ _ _ _ _)
   | (with_reducible exact ih6 _ _ _ _ _ _ _ _ _ _ _ _)
   | (with_reducible exact ih7 _ _ _ _ _ _ _)
   | (with_reducible exact ih8 _ _ _ _ _ _ _)
   | (with_reducible exact ih9 _ _ _ _ _ _ _)
   | (with_reducible exact portcullisref25_Word.mono _ _ _ _ _ _)
   | (with_reducible exact portcullisref25_bare.mono _ _ _ _ _ _)
   | (with_reducible exact LeO.refl _)
   | (with_reducible exact LeO.none _)
   | (with_reducible refine LeO.ite ?_ ?_)
   | (with_reducible refine LeO.bind ?_ (fun _ => ?_))
   | exact ih0 _ _
   | exact ih1 _ _ _ _ _
   | exact ih2 _ _ _ _ _ _
   | exact ih3 _ _ _ _ _ _ _
   | exact ih4 _ _ _ _ _ _ _ _ _ _ _ _ _
   | exact ih5 _ _ _ _ _ _ _ _ _ _ _ _
   | exact ih6 _ _ _ _ _ _ _ _ _ _ _ _
   | exact ih7 _ _ _ _ _ _ _
   | exact ih8 _ _ _ _ _ _ _
   | exact ih9 _ _ _ _ _ _ _
   | exact portcullisref25_Word.mono _ _ _ _ _ _
   | exact portcullisref25_bare.mono _ _ _ _ _ _
   | exact LeO.none _
   | refine LeO.ite ?_ ?_
   | refine LeO.bind ?_ (fun _ => ?_)
theorem portcullisref25_Decode.mono : ∀ a0 k, LeO (portcullisref25_Decode.f k a0) (portcullisref25_Decode.f (k + 1) a0) := by
 intro a0 k
 obtain ⟨ih0, ih1, ih2, ih3, ih4, ih5, ih6, ih7, ih8, ih9⟩ := portcullisref25_Decode.mono_l k
 unfold portcullisref25_Decode.f
 repeat' first
   | (with_reducible exact ih0 _ _)
   | (with_reducible exact ih1 _ _ _ _ _)
   | (with_reducible exact ih2 _ _ _ _ _ _)
   | (with_reducible exact ih3 _ _ _ _ _ _ _)
   | (with_reducible exact ih4 _ _ _ _ _ _ _ _ _ _ _ _ _)
   | (with_reducible exact ih5 _ _ _ _ _ _ _ _ _ _ _ _)
   | (with_reducible exact ih6 _ _ _ _ _ _ _ _ _ _ _ _)
   | (with_reducible exact ih7 _ _ _ _ _ _ _)
   | (with_reducible exact ih8 _ _ _ _ _ _ _)
   | (with_reducible exact ih9 _ _ _ _ _ _ _)
   | (with_reducible exact portcullisref25_Word.mono _ _ _ _ _ _)
   | (with_reducible exact portcullisref25_bare.mono _ _ _ _ _ _)
   | (with_reducible exact LeO.refl _)
   | (with_reducible exact LeO.none _)
   | (with_reducible refine LeO.ite ?_ ?_)
   | (with_reducible refine LeO.bind ?_ (fun _ => ?_))
   | exact ih0 _ _
   | exact ih1 _ _ _ _ _
   | exact ih2 _ _ _ _ _ _
   | exact ih3 _ _ _ _ _ _ _
   | exact ih4 _ _ _ _ _ _ _ _ _ _ _ _ _
   | exact ih5 _ _ _ _ _ _ _ _ _ _ _ _
   | exact ih6 _ _ _ _ _ _ _ _ _ _ _ _
   | exact ih7 _ _ _ _ _ _ _
   | exact ih8 _ _ _ _ _ _ _
   | exact ih9 _ _ _ _ _ _ _
   | exact portcullisref25_Word.mono _ _ _ _ _ _
   | exact portcullisref25_bare.mono _ _ _ _ _ _
   | exact LeO.none _
   | refine LeO.ite ?_ ?_
   | refine LeO.bind ?_ (fun _ => ?_)
set_option maxHeartbeats 8000000 in
set_option maxRecDepth 100000 in
theorem portcullisref25_Decode.calls (k : Nat) (a0 : Int) (r1 : Int) (r2 : Int) (r3 : Int) (r4 : Int) (r5 : Int) (r6 : Int) (w : World) (h : portcullisref25_Decode.f k a0 = some (r1, r2, r3, r4, r5, r6)) :
  Calls Try.prog 10 #[.int .i64 a0] w fun e w' => e = .returned (.tuple #[.agg #[.int .i64 r1, .int .i64 r2, .int .i64 r3, .int .i64 r4, .int .i64 r5], .int .i64 r6]) ∧ Below w.heap.size w w' := by
 have hu32 := Try.underlying32
 have HB := Aside0.mk (Below.refl w.heap.size w)
 have H : (if a0 < 0 then (portcullisref25_Decode.j0 k a0 true) else (portcullisref25_Decode.j0 k a0 (decide (a0 ≥ 4294967296)))) = some (r1, r2, r3, r4, r5, r6) := h
 clear h
 have HC2 := Aside0.mk H
 clear H
 go_enter Try.func10, Try.ntmps10
 go_upto_region 1 with (first | ((with_reducible refine gate_dst (N := 2) rfl ?_); refine box_event ?hg (N := 2) ?hd (cs := #[.int .i64 0, .int .i64 0, .int .i64 0, .int .i64 0, .int .i64 0]) (t := 32) ?hr ?_; (case hd => rfl); (case hg => rfl); (case hr => first | (go_simp; done) | (go_simp; rfl)); intro gb214 hg w3 hbox hb; have n0_ := Aside0.mk (below_step (by repeat (first | (with_reducible first | exact HB.out | apply below_alloc | apply pw_below_drewN | apply below_drew1) | exact HB.out)) hb); have n1_ := Aside0.mk (hbox); have n2_ := Aside0.mk ((by rw [hg]; exact (below_size (by repeat (first | (with_reducible first | exact HB.out | apply below_alloc | apply pw_below_drewN | apply below_drew1) | exact HB.out))) : w.heap.size ≤ gb214)); have n3_ := Aside0.mk ((by rw [hg]; exact (below_size (by repeat (first | (with_reducible first | exact HB.out | apply below_alloc | apply pw_below_drewN | apply below_drew1) | exact HB.out))) : w.heap.size ≤ gb214)); clear HB; have HB := n0_; have BK214 := n1_; have GW214 := n2_; have GE214 := n3_; clear n0_ n1_ n2_ n3_; clear hb hbox hg))
 (try simp only [Act.put, List.setIfInBounds_toArray, List.set_cons_zero, List.set_cons_succ])
 go_cut [16] (fun v16 wc => ∃ (kq : Nat) (x16_1 : Bool), v16 = .bool x16_1 ∧ Aside0 (portcullisref25_Decode.j0 kq a0 x16_1 = some (r1, r2, r3, r4, r5, r6)) ∧ Aside0 (kq ≤ k) ∧ Aside0 (wc.heap[gb214]? = some (.cells #[.int .i64 0, .int .i64 0, .int .i64 0, .int .i64 0, .int .i64 0] 32 (0, 0))) ∧ Aside0 (Below w.heap.size w wc))
 case first =>
  have H := HC2.out
  clear HC2
  by_cases c4 : a0 < 0
  ·
   rw [if_pos c4] at H
   have c4b0 : decide (a0 < 0) = true := decide_eq_true c4
   clear c4
   (first | rw [c4b0] | (simp only [i64_w, i32_w]; rw [c4b0]) | skip)
   have H' := Aside0.mk H
   clear H
   go_wp2
   go_meet
   case rel => exact ⟨_, (true), (by first | rfl | (simp; done) | (simp [*]; done)), H', ⟨by first | omega | exact Nat.le_refl _⟩, ⟨by (with_reducible repeat (first | refine blk_drewN ?_ _ | refine blk_drew ?_ | refine blk_alloc ?_ _)); exact BK214.out⟩, ⟨by repeat (first | (with_reducible first | exact HB.out | apply below_alloc | apply pw_below_drewN | apply below_drew1 | refine below_set ?_ GE214.out) | exact HB.out)⟩⟩
  ·
   rw [if_neg c4] at H
   have c4b0 : decide (a0 < 0) = false := decide_eq_false c4
   clear c4
   (first | rw [c4b0] | (simp only [i64_w, i32_w]; rw [c4b0]) | skip)
   have H' := Aside0.mk H
   clear H
   go_wp2
   go_meet
   case rel => exact ⟨_, (decide (a0 ≥ 4294967296)), (by first | rfl | (simp; done) | (simp [*]; done)), H', ⟨by first | omega | exact Nat.le_refl _⟩, ⟨by (with_reducible repeat (first | refine blk_drewN ?_ _ | refine blk_drew ?_ | refine blk_alloc ?_ _)); exact BK214.out⟩, ⟨by repeat (first | (with_reducible first | exact HB.out | apply below_alloc | apply pw_below_drewN | apply below_drew1 | refine below_set ?_ GE214.out) | exact HB.out)⟩⟩
 case rest =>
  clear HC2
  try clear c1
  try clear p2
  try clear c4
  try clear c4b0
  obtain ⟨kq, x16_1, rfl, HA, HJ1, BK214, HB⟩ := hcut
  cases kq with
  | zero => exact absurd HA.out (by simp [portcullisref25_Decode.j0])
  | succ kj1 =>
   have H := HA.out
   clear HA
   simp only [portcullisref25_Decode.j0] at H
   by_cases c5 : x16_1 = true
   ·
    subst c5
    have H1 : (some (0, 0, 0, 0, 0, 30)) = some (r1, r2, r3, r4, r5, r6) := by rw [if_pos rfl] at H; exact H
    clear H
    have H := H1
    clear H1
    simp only [Option.some.injEq, Prod.mk.injEq] at H
    obtain ⟨rfl, rfl, rfl, rfl, rfl, rfl⟩ := H
    have hcz6_0 : wc.cell? ⟨gb214, 0, none⟩ = some (.int .i64 0) := (blk_cell BK214.out 0).trans rfl
    have hcz6_1 : wc.cell? ⟨gb214, 1, none⟩ = some (.int .i64 0) := (blk_cell BK214.out 1).trans rfl
    have hcz6_2 : wc.cell? ⟨gb214, 2, none⟩ = some (.int .i64 0) := (blk_cell BK214.out 2).trans rfl
    have hcz6_3 : wc.cell? ⟨gb214, 3, none⟩ = some (.int .i64 0) := (blk_cell BK214.out 3).trans rfl
    have hcz6_4 : wc.cell? ⟨gb214, 4, none⟩ = some (.int .i64 0) := (blk_cell BK214.out 4).trans rfl
    have hfz6_0 := blk_frozen BK214.out 0
    have hfz6_1 := blk_frozen BK214.out 1
    have hfz6_2 := blk_frozen BK214.out 2
    have hfz6_3 := blk_frozen BK214.out 3
    have hfz6_4 := blk_frozen BK214.out 4
    go_wp2
    refine bodyPost_ret (results_ct rfl _ _ gb214 32 #[.int .i64 0, .int .i64 0, .int .i64 0, .int .i64 0, .int .i64 0] (0, 0) _ rfl (by (with_reducible repeat (first | refine blk_drewN ?_ _ | refine blk_drew ?_ | refine blk_alloc ?_ _)); refine blk_put (cs := #[.int .i64 0, .int .i64 0, .int .i64 0, .int .i64 0, .int .i64 0]) ?_ 4 _ rfl; (with_reducible repeat (first | refine blk_drewN ?_ _ | refine blk_drew ?_ | refine blk_alloc ?_ _)); refine blk_put (cs := #[.int .i64 0, .int .i64 0, .int .i64 0, .int .i64 0, .int .i64 0]) ?_ 3 _ rfl; (with_reducible repeat (first | refine blk_drewN ?_ _ | refine blk_drew ?_ | refine blk_alloc ?_ _)); refine blk_put (cs := #[.int .i64 0, .int .i64 0, .int .i64 0, .int .i64 0, .int .i64 0]) ?_ 2 _ rfl; (with_reducible repeat (first | refine blk_drewN ?_ _ | refine blk_drew ?_ | refine blk_alloc ?_ _)); refine blk_put (cs := #[.int .i64 0, .int .i64 0, .int .i64 0, .int .i64 0, .int .i64 0]) ?_ 1 _ rfl; (with_reducible repeat (first | refine blk_drewN ?_ _ | refine blk_drew ?_ | refine blk_alloc ?_ _)); refine blk_put (cs := #[.int .i64 0, .int .i64 0, .int .i64 0, .int .i64 0, .int .i64 0]) ?_ 0 _ rfl; (with_reducible repeat (first | refine blk_drewN ?_ _ | refine blk_drew ?_ | refine blk_alloc ?_ _)); exact BK214.out) Try.underlying32 rfl (by kernel_rfl)) rfl ?_
    exact ⟨by first | rfl | (simp [errW_none, errW_some] <;> rfl) | (simp [*, errW_none, errW_some] <;> rfl), by repeat (first | (with_reducible first | exact HB.out | apply below_alloc | apply pw_below_drewN | apply below_drew1 | refine below_set ?_ GE214.out) | exact HB.out)⟩
   ·
    replace c5 := Bool.eq_false_iff.mpr c5
    subst c5
    have H1 : (portcullisref25_Decode.l0 kj1 a0 (Go.bits .and .i64 a0 31) (Go.bits .and .i64 (a0 / 32) 31) (Go.bits .and .i64 (a0 / 65536) 31) 1) = some (r1, r2, r3, r4, r5, r6) := by rw [if_neg (show ¬ (false = true) by decide)] at H; exact H
    clear H
    have H := H1
    clear H1
    have H' := Aside0.mk H
    clear H
    go_wp2
    go_loopg [7] kj1 (fun kq v7 w' => ∃ (x7_2 : Int) (x215000_2 : Int) (x215001_2 : Int) (x215002_2 : Int) (x215003_2 : Int) (x215004_2 : Int), v7 = .int .i64 x7_2 ∧ Aside0 (portcullisref25_Decode.l0 kq a0 (Go.bits .and .i64 a0 31) (Go.bits .and .i64 (a0 / 32) 31) (Go.bits .and .i64 (a0 / 65536) 31) x7_2 = some (r1, r2, r3, r4, r5, r6)) ∧ Aside0 (kq ≤ kj1) ∧ Aside0 (w'.heap[gb214]? = some (.cells #[.int .i64 x215000_2, .int .i64 x215001_2, .int .i64 x215002_2, .int .i64 x215003_2, .int .i64 x215004_2] 32 (0, 0))) ∧ Aside0 (Below w.heap.size w w'))
    case atStart => exact ⟨(1), (0), (0), (0), (0), (0), (by first | rfl | (simp; done) | (simp [*]; done)), H', ⟨Nat.le_refl _⟩, ⟨by (with_reducible repeat (first | refine blk_drewN ?_ _ | refine blk_drew ?_ | refine blk_alloc ?_ _)); exact BK214.out⟩, ⟨by repeat (first | (with_reducible first | exact HB.out | apply below_alloc | apply pw_below_drewN | apply below_drew1 | refine below_set ?_ GE214.out) | exact HB.out)⟩⟩
    case round =>
     clear H'
     try clear c1
     try clear p2
     try clear c4
     try clear c4b0
     try clear c5
     try clear hcz6_0
     try clear hcz6_1
     try clear hcz6_2
     try clear hcz6_3
     try clear hcz6_4
     try clear hfz6_0
     try clear hfz6_1
     try clear hfz6_2
     try clear hfz6_3
     try clear hfz6_4
     try clear p2
     obtain ⟨x7_2, x215000_2, x215001_2, x215002_2, x215003_2, x215004_2, rfl, HA, HK2, BK214, HB⟩ := hrel
     cases gk with
     | zero => exact absurd HA.out (by simp [portcullisref25_Decode.l0])
     | succ k2 =>
      have H := HA.out
      clear HA
      simp only [portcullisref25_Decode.l0] at H
      by_cases c7 : x7_2 ≤ 26
      ·
       rw [if_pos c7] at H
       have c7b0 : decide (x7_2 ≤ 26) = true := decide_eq_true c7
       clear c7
       have HC8 := Aside0.mk H
       clear H
       go_upto_block 2 with (fail)
       go_cut [8] (fun v8 wc => ∃ (kq : Nat) (x8_7 : List Int), Aside0 (portcullisref25_Decode.j5 kq a0 (Go.bits .and .i64 a0 31) (Go.bits .and .i64 (a0 / 32) 31) (Go.bits .and .i64 (a0 / 65536) 31) x7_2 x8_7 = some (r1, r2, r3, r4, r5, r6)) ∧ Aside0 (kq ≤ k2) ∧ Aside0 (Kd.R (Kd.int .i64) 3 wc w.heap.size (fun _ => True) v8 x8_7) ∧ Aside0 (wc.heap[gb214]? = some (.cells #[.int .i64 x215000_2, .int .i64 x215001_2, .int .i64 x215002_2, .int .i64 x215003_2, .int .i64 x215004_2] 32 (0, 0))) ∧ Aside0 (Below w.heap.size w wc))
       case first =>
        have H := HC8.out
        clear HC8
        have HC9 := Aside0.mk H
        clear H
        go_upto_if 32 with (fail)
        go_cut [32] (fun v32 wc => ∃ (kq : Nat) (x32_8 : Bool), v32 = .bool x32_8 ∧ Aside0 (portcullisref25_Decode.j2 kq a0 (Go.bits .and .i64 a0 31) (Go.bits .and .i64 (a0 / 32) 31) (Go.bits .and .i64 (a0 / 65536) 31) x7_2 x7_2 x32_8 = some (r1, r2, r3, r4, r5, r6)) ∧ Aside0 (kq ≤ k2) ∧ Aside0 (wc.heap[gb214]? = some (.cells #[.int .i64 x215000_2, .int .i64 x215001_2, .int .i64 x215002_2, .int .i64 x215003_2, .int .i64 x215004_2] 32 (0, 0))) ∧ Aside0 (Below w.heap.size w wc))
        case first =>
         have H := HC9.out
         clear HC9
         by_cases c10 : x7_2 = 1
         ·
          rw [if_pos c10] at H
          have c10b0 : (x7_2 == 1) = true := beq_iff_eq.mpr c10
          have c10b1 : (x7_2 != 1) = false := bne_eq_false_iff_eq.mpr c10
          clear c10
          (first | rw [c10b0] | (simp only [i64_w, i32_w]; rw [c10b0]) | skip)
          have H' := Aside0.mk H
          clear H
          go_wp2
          go_meet
          case rel => exact ⟨_, ((x7_2 == 1)), (by first | rfl | (simp; done) | (simp [*]; done)), H', ⟨by have := HJ1.out; have := HK2.out; first | omega | exact Nat.le_refl _⟩, ⟨by (with_reducible repeat (first | refine blk_drewN ?_ _ | refine blk_drew ?_ | refine blk_alloc ?_ _)); exact BK214.out⟩, ⟨by repeat (first | (with_reducible first | exact HB.out | apply below_alloc | apply pw_below_drewN | apply below_drew1 | refine below_set ?_ GE214.out) | exact HB.out)⟩⟩
         ·
          rw [if_neg c10] at H
          have c10b0 : (x7_2 == 1) = false := beq_eq_false_iff_ne.mpr c10
          have c10b1 : (x7_2 != 1) = true := bne_iff_ne.mpr c10
          (first | rw [c10b0] | (simp only [i64_w, i32_w]; rw [c10b0]) | skip)
          by_cases c11 : x7_2 = 2
          ·
           rw [if_pos c11] at H
           have c11b0 : (x7_2 == 2) = true := beq_iff_eq.mpr c11
           have c11b1 : (x7_2 != 2) = false := bne_eq_false_iff_eq.mpr c11
           clear c11
           have H' := Aside0.mk H
           clear H
           go_wp2
           go_meet
           case rel => exact ⟨_, ((x7_2 == 2)), (by first | rfl | (simp; done) | (simp [*]; done)), H', ⟨by have := HJ1.out; have := HK2.out; first | omega | exact Nat.le_refl _⟩, ⟨by (with_reducible repeat (first | refine blk_drewN ?_ _ | refine blk_drew ?_ | refine blk_alloc ?_ _)); exact BK214.out⟩, ⟨by repeat (first | (with_reducible first | exact HB.out | apply below_alloc | apply pw_below_drewN | apply below_drew1 | refine below_set ?_ GE214.out) | exact HB.out)⟩⟩
          ·
           rw [if_neg c11] at H
           have c11b0 : (x7_2 == 2) = false := beq_eq_false_iff_ne.mpr c11
           have c11b1 : (x7_2 != 2) = true := bne_iff_ne.mpr c11
           have H' := Aside0.mk H
           clear H
           go_wp2
           go_meet
           case rel => exact ⟨_, ((x7_2 == 25)), (by first | rfl | (simp; done) | (simp [*]; done)), H', ⟨by have := HJ1.out; have := HK2.out; first | omega | exact Nat.le_refl _⟩, ⟨by (with_reducible repeat (first | refine blk_drewN ?_ _ | refine blk_drew ?_ | refine blk_alloc ?_ _)); exact BK214.out⟩, ⟨by repeat (first | (with_reducible first | exact HB.out | apply below_alloc | apply pw_below_drewN | apply below_drew1 | refine below_set ?_ GE214.out) | exact HB.out)⟩⟩
        case rest =>
         clear HC9
         try clear c1
         try clear p2
         try clear c4
         try clear c4b0
         try clear c5
         try clear c7
         try clear c7b0
         try clear c10
         try clear c10b0
         try clear c10b1
         try clear c11
         try clear c11b0
         try clear c11b1
         try clear hcz6_0
         try clear hcz6_1
         try clear hcz6_2
         try clear hcz6_3
         try clear hcz6_4
         try clear hfz6_0
         try clear hfz6_1
         try clear hfz6_2
         try clear hfz6_3
         try clear hfz6_4
         try clear p2
         obtain ⟨kq, x32_8, rfl, HA, HJ8, BK214, HB⟩ := hcut
         cases kq with
         | zero => exact absurd HA.out (by simp [portcullisref25_Decode.j2])
         | succ kj8 =>
          have H := HA.out
          clear HA
          simp only [portcullisref25_Decode.j2] at H
          by_cases c12 : x32_8 = true
          ·
           subst c12
           have H1 : (portcullisref25_Decode.j5 kj8 a0 (Go.bits .and .i64 a0 31) (Go.bits .and .i64 (a0 / 32) 31) (Go.bits .and .i64 (a0 / 65536) 31) x7_2 (([Go.bits .and .i64 (a0 / 32) 65535] : List Int))) = some (r1, r2, r3, r4, r5, r6) := by rw [if_pos rfl] at H; exact H
           clear H
           have H := H1
           clear H1
           obtain ⟨y215, hy215⟩ : ∃ y_ : List Int, y_ = (([Go.bits .and .i64 (a0 / 32) 65535] : List Int)) := ⟨_, rfl⟩
           replace H : (portcullisref25_Decode.j5 kj8 a0 (Go.bits .and .i64 a0 31) (Go.bits .and .i64 (a0 / 32) 31) (Go.bits .and .i64 (a0 / 65536) 31) x7_2 y215) = some (r1, r2, r3, r4, r5, r6) := by first | (rw [hy215]; with_reducible exact H) | (have H2_ := (Option.bind_some _ _).symm.trans H; rw [hy215]; with_reducible exact H2_) | (have H2_ := (Option.bind_some _ _).symm.trans H; with_reducible exact H2_) | with_reducible exact H | (rw [hy215]; exact H) | exact H
           have Ny215 := Aside0.mk hy215
           clear hy215
           have H' := Aside0.mk H
           clear H
           go_wp2_with (first | ((with_reducible refine gate_dst (N := 39) rfl ?_); refine Kd.R_lit (Kd.int .i64) _ 3 ?hg (N := 39) ?hd (xs := ([Go.bits .and .i64 (a0 / 32) 65535] : List Int)) (inner := [.int .i64 (Go.bits .and .i64 (a0 / 32) 65535)]) (ok := fun _ => True) (okp := fun _ => True) ?hr ?hp (fun _ hk => hk) trivial (Below.refl _ _) (Nat.le_refl _) (by simp) ?_; (case hd => rfl); (case hg => rfl); (case hr => first | (go_simp; done) | (go_simp; rfl)); (case hp => exact (Reps.one (show Kd.M (Kd.int .i64) _ _ _ (Go.bits .and .i64 (a0 / 32) 65535) [.int .i64 (Go.bits .and .i64 (a0 / 32) 65535)] from rfl) (Reps.none _ _))); intro v216 w13 ho14 hb hg_ hnew_; clear hg_ hnew_; (first | rw [← Ny215.out] at ho14 | (simp only [Int.reduceToNat] at ho14; rw [← Ny215.out] at ho14)); have n0_ := Aside0.mk (Kd.R_lower ho14 (below_size (by repeat (first | (with_reducible first | exact HB.out | apply below_alloc | apply pw_below_drewN | apply below_drew1 | refine below_set ?_ GE214.out) | exact HB.out)))); have n1_ := Aside0.mk (blk_below (g := gb214) (o := .cells #[.int .i64 x215000_2, .int .i64 x215001_2, .int .i64 x215002_2, .int .i64 x215003_2, .int .i64 x215004_2] 32 (0, 0)) (by (with_reducible repeat (first | refine blk_drewN ?_ _ | refine blk_drew ?_ | refine blk_alloc ?_ _)); exact BK214.out) hb); have n2_ := Aside0.mk (below_step (by repeat (first | (with_reducible first | exact HB.out | apply below_alloc | apply pw_below_drewN | apply below_drew1 | refine below_set ?_ GE214.out) | exact HB.out)) hb); clear BK214; clear HB; have HO217 := n0_; have BK214 := n1_; have HB := n2_; clear n0_ n1_ n2_; clear hb ho14))
           go_meet
           case rel => exact ⟨_, (y215), H', ⟨by have := HJ1.out; have := HK2.out; have := HJ8.out; first | omega | exact Nat.le_refl _⟩, ⟨by (with_reducible repeat (first | apply Kd.R_alloc | apply Kd.R_drewN | apply Kd.R_drew)); exact HO217.out⟩, ⟨by (with_reducible repeat (first | refine blk_drewN ?_ _ | refine blk_drew ?_ | refine blk_alloc ?_ _)); exact BK214.out⟩, ⟨by repeat (first | (with_reducible first | exact HB.out | apply below_alloc | apply pw_below_drewN | apply below_drew1 | refine below_set ?_ GE214.out) | exact HB.out)⟩⟩
          ·
           replace c12 := Bool.eq_false_iff.mpr c12
           subst c12
           have H1 : (if x7_2 = 9 then (portcullisref25_Decode.j5 kj8 a0 (Go.bits .and .i64 a0 31) (Go.bits .and .i64 (a0 / 32) 31) (Go.bits .and .i64 (a0 / 65536) 31) x7_2 (([Go.bits .and .i64 (a0 / 1024) 31] : List Int))) else (if x7_2 = 15 then (portcullisref25_Decode.j3 kj8 a0 (Go.bits .and .i64 a0 31) (Go.bits .and .i64 (a0 / 32) 31) (Go.bits .and .i64 (a0 / 65536) 31) x7_2 x7_2 (x7_2 == 15)) else (if x7_2 = 16 then (portcullisref25_Decode.j3 kj8 a0 (Go.bits .and .i64 a0 31) (Go.bits .and .i64 (a0 / 32) 31) (Go.bits .and .i64 (a0 / 65536) 31) x7_2 x7_2 (x7_2 == 16)) else (portcullisref25_Decode.j3 kj8 a0 (Go.bits .and .i64 a0 31) (Go.bits .and .i64 (a0 / 32) 31) (Go.bits .and .i64 (a0 / 65536) 31) x7_2 x7_2 (x7_2 == 17))))) = some (r1, r2, r3, r4, r5, r6) := by rw [if_neg (show ¬ (false = true) by decide)] at H; exact H
           clear H
           have H := H1
           clear H1
           by_cases c15 : x7_2 = 9
           ·
            rw [if_pos c15] at H
            have c15b0 : (x7_2 == 9) = true := beq_iff_eq.mpr c15
            have c15b1 : (x7_2 != 9) = false := bne_eq_false_iff_eq.mpr c15
            clear c15
            obtain ⟨y218, hy218⟩ : ∃ y_ : List Int, y_ = (([Go.bits .and .i64 (a0 / 1024) 31] : List Int)) := ⟨_, rfl⟩
            replace H : (portcullisref25_Decode.j5 kj8 a0 (Go.bits .and .i64 a0 31) (Go.bits .and .i64 (a0 / 32) 31) (Go.bits .and .i64 (a0 / 65536) 31) x7_2 y218) = some (r1, r2, r3, r4, r5, r6) := by first | (rw [hy218]; with_reducible exact H) | (have H2_ := (Option.bind_some _ _).symm.trans H; rw [hy218]; with_reducible exact H2_) | (have H2_ := (Option.bind_some _ _).symm.trans H; with_reducible exact H2_) | with_reducible exact H | (rw [hy218]; exact H) | exact H
            have Ny218 := Aside0.mk hy218
            clear hy218
            have H' := Aside0.mk H
            clear H
            go_wp2_with (first | ((with_reducible refine gate_dst (N := 45) rfl ?_); refine Kd.R_lit (Kd.int .i64) _ 3 ?hg (N := 45) ?hd (xs := ([Go.bits .and .i64 (a0 / 1024) 31] : List Int)) (inner := [.int .i64 (Go.bits .and .i64 (a0 / 1024) 31)]) (ok := fun _ => True) (okp := fun _ => True) ?hr ?hp (fun _ hk => hk) trivial (Below.refl _ _) (Nat.le_refl _) (by simp) ?_; (case hd => rfl); (case hg => rfl); (case hr => first | (go_simp; done) | (go_simp; rfl)); (case hp => exact (Reps.one (show Kd.M (Kd.int .i64) _ _ _ (Go.bits .and .i64 (a0 / 1024) 31) [.int .i64 (Go.bits .and .i64 (a0 / 1024) 31)] from rfl) (Reps.none _ _))); intro v219 w16 ho17 hb hg_ hnew_; clear hg_ hnew_; (first | rw [← Ny218.out] at ho17 | (simp only [Int.reduceToNat] at ho17; rw [← Ny218.out] at ho17)); have n0_ := Aside0.mk (Kd.R_lower ho17 (below_size (by repeat (first | (with_reducible first | exact HB.out | apply below_alloc | apply pw_below_drewN | apply below_drew1 | refine below_set ?_ GE214.out) | exact HB.out)))); have n1_ := Aside0.mk (blk_below (g := gb214) (o := .cells #[.int .i64 x215000_2, .int .i64 x215001_2, .int .i64 x215002_2, .int .i64 x215003_2, .int .i64 x215004_2] 32 (0, 0)) (by (with_reducible repeat (first | refine blk_drewN ?_ _ | refine blk_drew ?_ | refine blk_alloc ?_ _)); exact BK214.out) hb); have n2_ := Aside0.mk (below_step (by repeat (first | (with_reducible first | exact HB.out | apply below_alloc | apply pw_below_drewN | apply below_drew1 | refine below_set ?_ GE214.out) | exact HB.out)) hb); clear BK214; clear HB; have HO220 := n0_; have BK214 := n1_; have HB := n2_; clear n0_ n1_ n2_; clear hb ho17))
            go_meet
            case rel => exact ⟨_, (y218), H', ⟨by have := HJ1.out; have := HK2.out; have := HJ8.out; first | omega | exact Nat.le_refl _⟩, ⟨by (with_reducible repeat (first | apply Kd.R_alloc | apply Kd.R_drewN | apply Kd.R_drew)); exact HO220.out⟩, ⟨by (with_reducible repeat (first | refine blk_drewN ?_ _ | refine blk_drew ?_ | refine blk_alloc ?_ _)); exact BK214.out⟩, ⟨by repeat (first | (with_reducible first | exact HB.out | apply below_alloc | apply pw_below_drewN | apply below_drew1 | refine below_set ?_ GE214.out) | exact HB.out)⟩⟩
           ·
            rw [if_neg c15] at H
            have c15b0 : (x7_2 == 9) = false := beq_eq_false_iff_ne.mpr c15
            have c15b1 : (x7_2 != 9) = true := bne_iff_ne.mpr c15
            have HC18 := Aside0.mk H
            clear H
            go_upto_if 46 with (fail)
            go_cut [46] (fun v46 wc => ∃ (kq : Nat) (x46_17 : Bool), v46 = .bool x46_17 ∧ Aside0 (portcullisref25_Decode.j3 kq a0 (Go.bits .and .i64 a0 31) (Go.bits .and .i64 (a0 / 32) 31) (Go.bits .and .i64 (a0 / 65536) 31) x7_2 x7_2 x46_17 = some (r1, r2, r3, r4, r5, r6)) ∧ Aside0 (kq ≤ kj8) ∧ Aside0 (wc.heap[gb214]? = some (.cells #[.int .i64 x215000_2, .int .i64 x215001_2, .int .i64 x215002_2, .int .i64 x215003_2, .int .i64 x215004_2] 32 (0, 0))) ∧ Aside0 (Below w.heap.size w wc))
            case first =>
             have H := HC18.out
             clear HC18
             by_cases c19 : x7_2 = 15
             ·
              rw [if_pos c19] at H
              have c19b0 : (x7_2 == 15) = true := beq_iff_eq.mpr c19
              have c19b1 : (x7_2 != 15) = false := bne_eq_false_iff_eq.mpr c19
              clear c19
              (first | rw [c19b0] | (simp only [i64_w, i32_w]; rw [c19b0]) | skip)
              have H' := Aside0.mk H
              clear H
              go_wp2
              go_meet
              case rel => exact ⟨_, ((x7_2 == 15)), (by first | rfl | (simp; done) | (simp [*]; done)), H', ⟨by have := HJ1.out; have := HK2.out; have := HJ8.out; first | omega | exact Nat.le_refl _⟩, ⟨by (with_reducible repeat (first | refine blk_drewN ?_ _ | refine blk_drew ?_ | refine blk_alloc ?_ _)); exact BK214.out⟩, ⟨by repeat (first | (with_reducible first | exact HB.out | apply below_alloc | apply pw_below_drewN | apply below_drew1 | refine below_set ?_ GE214.out) | exact HB.out)⟩⟩
             ·
              rw [if_neg c19] at H
              have c19b0 : (x7_2 == 15) = false := beq_eq_false_iff_ne.mpr c19
              have c19b1 : (x7_2 != 15) = true := bne_iff_ne.mpr c19
              (first | rw [c19b0] | (simp only [i64_w, i32_w]; rw [c19b0]) | skip)
              by_cases c20 : x7_2 = 16
              ·
               rw [if_pos c20] at H
               have c20b0 : (x7_2 == 16) = true := beq_iff_eq.mpr c20
               have c20b1 : (x7_2 != 16) = false := bne_eq_false_iff_eq.mpr c20
               clear c20
               have H' := Aside0.mk H
               clear H
               go_wp2
               go_meet
               case rel => exact ⟨_, ((x7_2 == 16)), (by first | rfl | (simp; done) | (simp [*]; done)), H', ⟨by have := HJ1.out; have := HK2.out; have := HJ8.out; first | omega | exact Nat.le_refl _⟩, ⟨by (with_reducible repeat (first | refine blk_drewN ?_ _ | refine blk_drew ?_ | refine blk_alloc ?_ _)); exact BK214.out⟩, ⟨by repeat (first | (with_reducible first | exact HB.out | apply below_alloc | apply pw_below_drewN | apply below_drew1 | refine below_set ?_ GE214.out) | exact HB.out)⟩⟩
              ·
               rw [if_neg c20] at H
               have c20b0 : (x7_2 == 16) = false := beq_eq_false_iff_ne.mpr c20
               have c20b1 : (x7_2 != 16) = true := bne_iff_ne.mpr c20
               have H' := Aside0.mk H
               clear H
               go_wp2
               go_meet
               case rel => exact ⟨_, ((x7_2 == 17)), (by first | rfl | (simp; done) | (simp [*]; done)), H', ⟨by have := HJ1.out; have := HK2.out; have := HJ8.out; first | omega | exact Nat.le_refl _⟩, ⟨by (with_reducible repeat (first | refine blk_drewN ?_ _ | refine blk_drew ?_ | refine blk_alloc ?_ _)); exact BK214.out⟩, ⟨by repeat (first | (with_reducible first | exact HB.out | apply below_alloc | apply pw_below_drewN | apply below_drew1 | refine below_set ?_ GE214.out) | exact HB.out)⟩⟩
            case rest =>
             clear HC18
             try clear c1
             try clear c2
             try clear p2
             try clear c4
             try clear c4b0
             try clear c5
             try clear c7
             try clear c7b0
             try clear c10
             try clear c10b0
             try clear c10b1
             try clear c11
             try clear c11b0
             try clear c11b1
             try clear c12
             try clear c15
             try clear c15b0
             try clear c15b1
             try clear c19
             try clear c19b0
             try clear c19b1
             try clear c20
             try clear c20b0
             try clear c20b1
             try clear hcz6_0
             try clear hcz6_1
             try clear hcz6_2
             try clear hcz6_3
             try clear hcz6_4
             try clear hfz6_0
             try clear hfz6_1
             try clear hfz6_2
             try clear hfz6_3
             try clear hfz6_4
             try clear p2
             obtain ⟨kq, x46_17, rfl, HA, HJ17, BK214, HB⟩ := hcut
             cases kq with
             | zero => exact absurd HA.out (by simp [portcullisref25_Decode.j3])
             | succ kj17 =>
              have H := HA.out
              clear HA
              simp only [portcullisref25_Decode.j3] at H
              by_cases c21 : x46_17 = true
              ·
               subst c21
               have H1 : (portcullisref25_Decode.j5 kj17 a0 (Go.bits .and .i64 a0 31) (Go.bits .and .i64 (a0 / 32) 31) (Go.bits .and .i64 (a0 / 65536) 31) x7_2 (([8, 16, 32, 64] : List Int))) = some (r1, r2, r3, r4, r5, r6) := by rw [if_pos rfl] at H; exact H
               clear H
               have H := H1
               clear H1
               obtain ⟨y221, hy221⟩ : ∃ y_ : List Int, y_ = (([8, 16, 32, 64] : List Int)) := ⟨_, rfl⟩
               replace H : (portcullisref25_Decode.j5 kj17 a0 (Go.bits .and .i64 a0 31) (Go.bits .and .i64 (a0 / 32) 31) (Go.bits .and .i64 (a0 / 65536) 31) x7_2 y221) = some (r1, r2, r3, r4, r5, r6) := by first | (rw [hy221]; with_reducible exact H) | (have H2_ := (Option.bind_some _ _).symm.trans H; rw [hy221]; with_reducible exact H2_) | (have H2_ := (Option.bind_some _ _).symm.trans H; with_reducible exact H2_) | with_reducible exact H | (rw [hy221]; exact H) | exact H
               have Ny221 := Aside0.mk hy221
               clear hy221
               have H' := Aside0.mk H
               clear H
               go_wp2_with (first | ((with_reducible refine gate_dst (N := 50) rfl ?_); refine Kd.R_lit (Kd.int .i64) _ 3 ?hg (N := 50) ?hd (xs := ([8, 16, 32, 64] : List Int)) (inner := [.int .i64 8, .int .i64 16, .int .i64 32, .int .i64 64]) (ok := fun _ => True) (okp := fun _ => True) ?hr ?hp (fun _ hk => hk) trivial (Below.refl _ _) (Nat.le_refl _) (by simp) ?_; (case hd => rfl); (case hg => rfl); (case hr => first | (go_simp; done) | (go_simp; rfl)); (case hp => exact (Reps.one (show Kd.M (Kd.int .i64) _ _ _ 8 [.int .i64 8] from rfl) (Reps.one (show Kd.M (Kd.int .i64) _ _ _ 16 [.int .i64 16] from rfl) (Reps.one (show Kd.M (Kd.int .i64) _ _ _ 32 [.int .i64 32] from rfl) (Reps.one (show Kd.M (Kd.int .i64) _ _ _ 64 [.int .i64 64] from rfl) (Reps.none _ _)))))); intro v222 w22 ho23 hb hg_ hnew_; clear hg_ hnew_; (first | rw [← Ny221.out] at ho23 | (simp only [Int.reduceToNat] at ho23; rw [← Ny221.out] at ho23)); have n0_ := Aside0.mk (Kd.R_lower ho23 (below_size (by repeat (first | (with_reducible first | exact HB.out | apply below_alloc | apply pw_below_drewN | apply below_drew1 | refine below_set ?_ GE214.out) | exact HB.out)))); have n1_ := Aside0.mk (blk_below (g := gb214) (o := .cells #[.int .i64 x215000_2, .int .i64 x215001_2, .int .i64 x215002_2, .int .i64 x215003_2, .int .i64 x215004_2] 32 (0, 0)) (by (with_reducible repeat (first | refine blk_drewN ?_ _ | refine blk_drew ?_ | refine blk_alloc ?_ _)); exact BK214.out) hb); have n2_ := Aside0.mk (below_step (by repeat (first | (with_reducible first | exact HB.out | apply below_alloc | apply pw_below_drewN | apply below_drew1 | refine below_set ?_ GE214.out) | exact HB.out)) hb); clear BK214; clear HB; have HO223 := n0_; have BK214 := n1_; have HB := n2_; clear n0_ n1_ n2_; clear hb ho23))
               go_meet
               case rel => exact ⟨_, (y221), H', ⟨by have := HJ1.out; have := HK2.out; have := HJ8.out; have := HJ17.out; first | omega | exact Nat.le_refl _⟩, ⟨by (with_reducible repeat (first | apply Kd.R_alloc | apply Kd.R_drewN | apply Kd.R_drew)); exact HO223.out⟩, ⟨by (with_reducible repeat (first | refine blk_drewN ?_ _ | refine blk_drew ?_ | refine blk_alloc ?_ _)); exact BK214.out⟩, ⟨by repeat (first | (with_reducible first | exact HB.out | apply below_alloc | apply pw_below_drewN | apply below_drew1 | refine below_set ?_ GE214.out) | exact HB.out)⟩⟩
              ·
               replace c21 := Bool.eq_false_iff.mpr c21
               subst c21
               have H1 : (if x7_2 = 18 then (portcullisref25_Decode.j4 kj17 a0 (Go.bits .and .i64 a0 31) (Go.bits .and .i64 (a0 / 32) 31) (Go.bits .and .i64 (a0 / 65536) 31) x7_2 x7_2 (x7_2 == 18)) else (if x7_2 = 19 then (portcullisref25_Decode.j4 kj17 a0 (Go.bits .and .i64 a0 31) (Go.bits .and .i64 (a0 / 32) 31) (Go.bits .and .i64 (a0 / 65536) 31) x7_2 x7_2 (x7_2 == 19)) else (portcullisref25_Decode.j4 kj17 a0 (Go.bits .and .i64 a0 31) (Go.bits .and .i64 (a0 / 32) 31) (Go.bits .and .i64 (a0 / 65536) 31) x7_2 x7_2 (x7_2 == 20)))) = some (r1, r2, r3, r4, r5, r6) := by rw [if_neg (show ¬ (false = true) by decide)] at H; exact H
               clear H
               have H := H1
               clear H1
               have HC24 := Aside0.mk H
               clear H
               go_upto_if 51 with (fail)
               go_cut [51] (fun v51 wc => ∃ (kq : Nat) (x51_23 : Bool), v51 = .bool x51_23 ∧ Aside0 (portcullisref25_Decode.j4 kq a0 (Go.bits .and .i64 a0 31) (Go.bits .and .i64 (a0 / 32) 31) (Go.bits .and .i64 (a0 / 65536) 31) x7_2 x7_2 x51_23 = some (r1, r2, r3, r4, r5, r6)) ∧ Aside0 (kq ≤ kj17) ∧ Aside0 (wc.heap[gb214]? = some (.cells #[.int .i64 x215000_2, .int .i64 x215001_2, .int .i64 x215002_2, .int .i64 x215003_2, .int .i64 x215004_2] 32 (0, 0))) ∧ Aside0 (Below w.heap.size w wc))
               case first =>
                have H := HC24.out
                clear HC24
                by_cases c25 : x7_2 = 18
                ·
                 rw [if_pos c25] at H
                 have c25b0 : (x7_2 == 18) = true := beq_iff_eq.mpr c25
                 have c25b1 : (x7_2 != 18) = false := bne_eq_false_iff_eq.mpr c25
                 clear c25
                 (first | rw [c25b0] | (simp only [i64_w, i32_w]; rw [c25b0]) | skip)
                 have H' := Aside0.mk H
                 clear H
                 go_wp2
                 go_meet
                 case rel => exact ⟨_, ((x7_2 == 18)), (by first | rfl | (simp; done) | (simp [*]; done)), H', ⟨by have := HJ1.out; have := HK2.out; have := HJ8.out; have := HJ17.out; first | omega | exact Nat.le_refl _⟩, ⟨by (with_reducible repeat (first | refine blk_drewN ?_ _ | refine blk_drew ?_ | refine blk_alloc ?_ _)); exact BK214.out⟩, ⟨by repeat (first | (with_reducible first | exact HB.out | apply below_alloc | apply pw_below_drewN | apply below_drew1 | refine below_set ?_ GE214.out) | exact HB.out)⟩⟩
                ·
                 rw [if_neg c25] at H
                 have c25b0 : (x7_2 == 18) = false := beq_eq_false_iff_ne.mpr c25
                 have c25b1 : (x7_2 != 18) = true := bne_iff_ne.mpr c25
                 (first | rw [c25b0] | (simp only [i64_w, i32_w]; rw [c25b0]) | skip)
                 by_cases c26 : x7_2 = 19
                 ·
                  rw [if_pos c26] at H
                  have c26b0 : (x7_2 == 19) = true := beq_iff_eq.mpr c26
                  have c26b1 : (x7_2 != 19) = false := bne_eq_false_iff_eq.mpr c26
                  clear c26
                  have H' := Aside0.mk H
                  clear H
                  go_wp2
                  go_meet
                  case rel => exact ⟨_, ((x7_2 == 19)), (by first | rfl | (simp; done) | (simp [*]; done)), H', ⟨by have := HJ1.out; have := HK2.out; have := HJ8.out; have := HJ17.out; first | omega | exact Nat.le_refl _⟩, ⟨by (with_reducible repeat (first | refine blk_drewN ?_ _ | refine blk_drew ?_ | refine blk_alloc ?_ _)); exact BK214.out⟩, ⟨by repeat (first | (with_reducible first | exact HB.out | apply below_alloc | apply pw_below_drewN | apply below_drew1 | refine below_set ?_ GE214.out) | exact HB.out)⟩⟩
                 ·
                  rw [if_neg c26] at H
                  have c26b0 : (x7_2 == 19) = false := beq_eq_false_iff_ne.mpr c26
                  have c26b1 : (x7_2 != 19) = true := bne_iff_ne.mpr c26
                  have H' := Aside0.mk H
                  clear H
                  go_wp2
                  go_meet
                  case rel => exact ⟨_, ((x7_2 == 20)), (by first | rfl | (simp; done) | (simp [*]; done)), H', ⟨by have := HJ1.out; have := HK2.out; have := HJ8.out; have := HJ17.out; first | omega | exact Nat.le_refl _⟩, ⟨by (with_reducible repeat (first | refine blk_drewN ?_ _ | refine blk_drew ?_ | refine blk_alloc ?_ _)); exact BK214.out⟩, ⟨by repeat (first | (with_reducible first | exact HB.out | apply below_alloc | apply pw_below_drewN | apply below_drew1 | refine below_set ?_ GE214.out) | exact HB.out)⟩⟩
               case rest =>
                clear HC24
                try clear c1
                try clear c2
                try clear p2
                try clear c4
                try clear c4b0
                try clear c5
                try clear c7
                try clear c7b0
                try clear c10
                try clear c10b0
                try clear c10b1
                try clear c11
                try clear c11b0
                try clear c11b1
                try clear c12
                try clear c15
                try clear c15b0
                try clear c15b1
                try clear c19
                try clear c19b0
                try clear c19b1
                try clear c20
                try clear c20b0
                try clear c20b1
                try clear c21
                try clear c25
                try clear c25b0
                try clear c25b1
                try clear c26
                try clear c26b0
                try clear c26b1
                try clear hcz6_0
                try clear hcz6_1
                try clear hcz6_2
                try clear hcz6_3
                try clear hcz6_4
                try clear hfz6_0
                try clear hfz6_1
                try clear hfz6_2
                try clear hfz6_3
                try clear hfz6_4
                try clear p2
                obtain ⟨kq, x51_23, rfl, HA, HJ23, BK214, HB⟩ := hcut
                cases kq with
                | zero => exact absurd HA.out (by simp [portcullisref25_Decode.j4])
                | succ kj23 =>
                 have H := HA.out
                 clear HA
                 simp only [portcullisref25_Decode.j4] at H
                 by_cases c27 : x51_23 = true
                 ·
                  subst c27
                  have H1 : (portcullisref25_Decode.j5 kj23 a0 (Go.bits .and .i64 a0 31) (Go.bits .and .i64 (a0 / 32) 31) (Go.bits .and .i64 (a0 / 65536) 31) x7_2 (([1, 2, 4, 8] : List Int))) = some (r1, r2, r3, r4, r5, r6) := by rw [if_pos rfl] at H; exact H
                  clear H
                  have H := H1
                  clear H1
                  obtain ⟨y224, hy224⟩ : ∃ y_ : List Int, y_ = (([1, 2, 4, 8] : List Int)) := ⟨_, rfl⟩
                  replace H : (portcullisref25_Decode.j5 kj23 a0 (Go.bits .and .i64 a0 31) (Go.bits .and .i64 (a0 / 32) 31) (Go.bits .and .i64 (a0 / 65536) 31) x7_2 y224) = some (r1, r2, r3, r4, r5, r6) := by first | (rw [hy224]; with_reducible exact H) | (have H2_ := (Option.bind_some _ _).symm.trans H; rw [hy224]; with_reducible exact H2_) | (have H2_ := (Option.bind_some _ _).symm.trans H; with_reducible exact H2_) | with_reducible exact H | (rw [hy224]; exact H) | exact H
                  have Ny224 := Aside0.mk hy224
                  clear hy224
                  have H' := Aside0.mk H
                  clear H
                  go_wp2_with (first | ((with_reducible refine gate_dst (N := 55) rfl ?_); refine Kd.R_lit (Kd.int .i64) _ 3 ?hg (N := 55) ?hd (xs := ([1, 2, 4, 8] : List Int)) (inner := [.int .i64 1, .int .i64 2, .int .i64 4, .int .i64 8]) (ok := fun _ => True) (okp := fun _ => True) ?hr ?hp (fun _ hk => hk) trivial (Below.refl _ _) (Nat.le_refl _) (by simp) ?_; (case hd => rfl); (case hg => rfl); (case hr => first | (go_simp; done) | (go_simp; rfl)); (case hp => exact (Reps.one (show Kd.M (Kd.int .i64) _ _ _ 1 [.int .i64 1] from rfl) (Reps.one (show Kd.M (Kd.int .i64) _ _ _ 2 [.int .i64 2] from rfl) (Reps.one (show Kd.M (Kd.int .i64) _ _ _ 4 [.int .i64 4] from rfl) (Reps.one (show Kd.M (Kd.int .i64) _ _ _ 8 [.int .i64 8] from rfl) (Reps.none _ _)))))); intro v225 w28 ho29 hb hg_ hnew_; clear hg_ hnew_; (first | rw [← Ny224.out] at ho29 | (simp only [Int.reduceToNat] at ho29; rw [← Ny224.out] at ho29)); have n0_ := Aside0.mk (Kd.R_lower ho29 (below_size (by repeat (first | (with_reducible first | exact HB.out | apply below_alloc | apply pw_below_drewN | apply below_drew1 | refine below_set ?_ GE214.out) | exact HB.out)))); have n1_ := Aside0.mk (blk_below (g := gb214) (o := .cells #[.int .i64 x215000_2, .int .i64 x215001_2, .int .i64 x215002_2, .int .i64 x215003_2, .int .i64 x215004_2] 32 (0, 0)) (by (with_reducible repeat (first | refine blk_drewN ?_ _ | refine blk_drew ?_ | refine blk_alloc ?_ _)); exact BK214.out) hb); have n2_ := Aside0.mk (below_step (by repeat (first | (with_reducible first | exact HB.out | apply below_alloc | apply pw_below_drewN | apply below_drew1 | refine below_set ?_ GE214.out) | exact HB.out)) hb); clear BK214; clear HB; have HO226 := n0_; have BK214 := n1_; have HB := n2_; clear n0_ n1_ n2_; clear hb ho29))
                  go_meet
                  case rel => exact ⟨_, (y224), H', ⟨by have := HJ1.out; have := HK2.out; have := HJ8.out; have := HJ17.out; have := HJ23.out; first | omega | exact Nat.le_refl _⟩, ⟨by (with_reducible repeat (first | apply Kd.R_alloc | apply Kd.R_drewN | apply Kd.R_drew)); exact HO226.out⟩, ⟨by (with_reducible repeat (first | refine blk_drewN ?_ _ | refine blk_drew ?_ | refine blk_alloc ?_ _)); exact BK214.out⟩, ⟨by repeat (first | (with_reducible first | exact HB.out | apply below_alloc | apply pw_below_drewN | apply below_drew1 | refine below_set ?_ GE214.out) | exact HB.out)⟩⟩
                 ·
                  replace c27 := Bool.eq_false_iff.mpr c27
                  subst c27
                  have H1 : (if x7_2 = 23 then (portcullisref25_Decode.j5 kj23 a0 (Go.bits .and .i64 a0 31) (Go.bits .and .i64 (a0 / 32) 31) (Go.bits .and .i64 (a0 / 65536) 31) x7_2 (([Go.bits .and .i64 a0 67108863, wrap64 ((Go.bits .and .i64 a0 67108863) - 67108864)] : List Int))) else (if x7_2 = 24 then (portcullisref25_Decode.j5 kj23 a0 (Go.bits .and .i64 a0 31) (Go.bits .and .i64 (a0 / 32) 31) (Go.bits .and .i64 (a0 / 65536) 31) x7_2 (([Go.bits .and .i64 (a0 / 32) 524287, wrap64 ((Go.bits .and .i64 (a0 / 32) 524287) - 524288)] : List Int))) else (portcullisref25_Decode.j5 kj23 a0 (Go.bits .and .i64 a0 31) (Go.bits .and .i64 (a0 / 32) 31) (Go.bits .and .i64 (a0 / 65536) 31) x7_2 (([0] : List Int))))) = some (r1, r2, r3, r4, r5, r6) := by rw [if_neg (show ¬ (false = true) by decide)] at H; exact H
                  clear H
                  have H := H1
                  clear H1
                  by_cases c30 : x7_2 = 23
                  ·
                   rw [if_pos c30] at H
                   have c30b0 : (x7_2 == 23) = true := beq_iff_eq.mpr c30
                   have c30b1 : (x7_2 != 23) = false := bne_eq_false_iff_eq.mpr c30
                   clear c30
                   obtain ⟨y227, hy227⟩ : ∃ y_ : List Int, y_ = (([Go.bits .and .i64 a0 67108863, wrap64 ((Go.bits .and .i64 a0 67108863) - 67108864)] : List Int)) := ⟨_, rfl⟩
                   replace H : (portcullisref25_Decode.j5 kj23 a0 (Go.bits .and .i64 a0 31) (Go.bits .and .i64 (a0 / 32) 31) (Go.bits .and .i64 (a0 / 65536) 31) x7_2 y227) = some (r1, r2, r3, r4, r5, r6) := by first | (rw [hy227]; with_reducible exact H) | (have H2_ := (Option.bind_some _ _).symm.trans H; rw [hy227]; with_reducible exact H2_) | (have H2_ := (Option.bind_some _ _).symm.trans H; with_reducible exact H2_) | with_reducible exact H | (rw [hy227]; exact H) | exact H
                   have Ny227 := Aside0.mk hy227
                   clear hy227
                   have H' := Aside0.mk H
                   clear H
                   go_wp2_with (first | ((with_reducible refine gate_dst (N := 63) rfl ?_); refine Kd.R_lit (Kd.int .i64) _ 3 ?hg (N := 63) ?hd (xs := ([Go.bits .and .i64 a0 67108863, wrap64 ((Go.bits .and .i64 a0 67108863) - 67108864)] : List Int)) (inner := [.int .i64 (Go.bits .and .i64 a0 67108863), .int .i64 (wrap64 ((Go.bits .and .i64 a0 67108863) - 67108864))]) (ok := fun _ => True) (okp := fun _ => True) ?hr ?hp (fun _ hk => hk) trivial (Below.refl _ _) (Nat.le_refl _) (by simp) ?_; (case hd => rfl); (case hg => rfl); (case hr => first | (go_simp; done) | (go_simp; rfl)); (case hp => exact (Reps.one (show Kd.M (Kd.int .i64) _ _ _ (Go.bits .and .i64 a0 67108863) [.int .i64 (Go.bits .and .i64 a0 67108863)] from rfl) (Reps.one (show Kd.M (Kd.int .i64) _ _ _ (wrap64 ((Go.bits .and .i64 a0 67108863) - 67108864)) [.int .i64 (wrap64 ((Go.bits .and .i64 a0 67108863) - 67108864))] from rfl) (Reps.none _ _)))); intro v228 w31 ho32 hb hg_ hnew_; clear hg_ hnew_; (first | rw [← Ny227.out] at ho32 | (simp only [Int.reduceToNat] at ho32; rw [← Ny227.out] at ho32)); have n0_ := Aside0.mk (Kd.R_lower ho32 (below_size (by repeat (first | (with_reducible first | exact HB.out | apply below_alloc | apply pw_below_drewN | apply below_drew1 | refine below_set ?_ GE214.out) | exact HB.out)))); have n1_ := Aside0.mk (blk_below (g := gb214) (o := .cells #[.int .i64 x215000_2, .int .i64 x215001_2, .int .i64 x215002_2, .int .i64 x215003_2, .int .i64 x215004_2] 32 (0, 0)) (by (with_reducible repeat (first | refine blk_drewN ?_ _ | refine blk_drew ?_ | refine blk_alloc ?_ _)); exact BK214.out) hb); have n2_ := Aside0.mk (below_step (by repeat (first | (with_reducible first | exact HB.out | apply below_alloc | apply pw_below_drewN | apply below_drew1 | refine below_set ?_ GE214.out) | exact HB.out)) hb); clear BK214; clear HB; have HO229 := n0_; have BK214 := n1_; have HB := n2_; clear n0_ n1_ n2_; clear hb ho32))
                   go_meet
                   case rel => exact ⟨_, (y227), H', ⟨by have := HJ1.out; have := HK2.out; have := HJ8.out; have := HJ17.out; have := HJ23.out; first | omega | exact Nat.le_refl _⟩, ⟨by (with_reducible repeat (first | apply Kd.R_alloc | apply Kd.R_drewN | apply Kd.R_drew)); exact HO229.out⟩, ⟨by (with_reducible repeat (first | refine blk_drewN ?_ _ | refine blk_drew ?_ | refine blk_alloc ?_ _)); exact BK214.out⟩, ⟨by repeat (first | (with_reducible first | exact HB.out | apply below_alloc | apply pw_below_drewN | apply below_drew1 | refine below_set ?_ GE214.out) | exact HB.out)⟩⟩
                  ·
                   rw [if_neg c30] at H
                   have c30b0 : (x7_2 == 23) = false := beq_eq_false_iff_ne.mpr c30
                   have c30b1 : (x7_2 != 23) = true := bne_iff_ne.mpr c30
                   by_cases c33 : x7_2 = 24
                   ·
                    rw [if_pos c33] at H
                    have c33b0 : (x7_2 == 24) = true := beq_iff_eq.mpr c33
                    have c33b1 : (x7_2 != 24) = false := bne_eq_false_iff_eq.mpr c33
                    clear c33
                    obtain ⟨y230, hy230⟩ : ∃ y_ : List Int, y_ = (([Go.bits .and .i64 (a0 / 32) 524287, wrap64 ((Go.bits .and .i64 (a0 / 32) 524287) - 524288)] : List Int)) := ⟨_, rfl⟩
                    replace H : (portcullisref25_Decode.j5 kj23 a0 (Go.bits .and .i64 a0 31) (Go.bits .and .i64 (a0 / 32) 31) (Go.bits .and .i64 (a0 / 65536) 31) x7_2 y230) = some (r1, r2, r3, r4, r5, r6) := by first | (rw [hy230]; with_reducible exact H) | (have H2_ := (Option.bind_some _ _).symm.trans H; rw [hy230]; with_reducible exact H2_) | (have H2_ := (Option.bind_some _ _).symm.trans H; with_reducible exact H2_) | with_reducible exact H | (rw [hy230]; exact H) | exact H
                    have Ny230 := Aside0.mk hy230
                    clear hy230
                    have H' := Aside0.mk H
                    clear H
                    go_wp2_with (first | ((with_reducible refine gate_dst (N := 73) rfl ?_); refine Kd.R_lit (Kd.int .i64) _ 3 ?hg (N := 73) ?hd (xs := ([Go.bits .and .i64 (a0 / 32) 524287, wrap64 ((Go.bits .and .i64 (a0 / 32) 524287) - 524288)] : List Int)) (inner := [.int .i64 (Go.bits .and .i64 (a0 / 32) 524287), .int .i64 (wrap64 ((Go.bits .and .i64 (a0 / 32) 524287) - 524288))]) (ok := fun _ => True) (okp := fun _ => True) ?hr ?hp (fun _ hk => hk) trivial (Below.refl _ _) (Nat.le_refl _) (by simp) ?_; (case hd => rfl); (case hg => rfl); (case hr => first | (go_simp; done) | (go_simp; rfl)); (case hp => exact (Reps.one (show Kd.M (Kd.int .i64) _ _ _ (Go.bits .and .i64 (a0 / 32) 524287) [.int .i64 (Go.bits .and .i64 (a0 / 32) 524287)] from rfl) (Reps.one (show Kd.M (Kd.int .i64) _ _ _ (wrap64 ((Go.bits .and .i64 (a0 / 32) 524287) - 524288)) [.int .i64 (wrap64 ((Go.bits .and .i64 (a0 / 32) 524287) - 524288))] from rfl) (Reps.none _ _)))); intro v231 w34 ho35 hb hg_ hnew_; clear hg_ hnew_; (first | rw [← Ny230.out] at ho35 | (simp only [Int.reduceToNat] at ho35; rw [← Ny230.out] at ho35)); have n0_ := Aside0.mk (Kd.R_lower ho35 (below_size (by repeat (first | (with_reducible first | exact HB.out | apply below_alloc | apply pw_below_drewN | apply below_drew1 | refine below_set ?_ GE214.out) | exact HB.out)))); have n1_ := Aside0.mk (blk_below (g := gb214) (o := .cells #[.int .i64 x215000_2, .int .i64 x215001_2, .int .i64 x215002_2, .int .i64 x215003_2, .int .i64 x215004_2] 32 (0, 0)) (by (with_reducible repeat (first | refine blk_drewN ?_ _ | refine blk_drew ?_ | refine blk_alloc ?_ _)); exact BK214.out) hb); have n2_ := Aside0.mk (below_step (by repeat (first | (with_reducible first | exact HB.out | apply below_alloc | apply pw_below_drewN | apply below_drew1 | refine below_set ?_ GE214.out) | exact HB.out)) hb); clear BK214; clear HB; have HO232 := n0_; have BK214 := n1_; have HB := n2_; clear n0_ n1_ n2_; clear hb ho35))
                    go_meet
                    case rel => exact ⟨_, (y230), H', ⟨by have := HJ1.out; have := HK2.out; have := HJ8.out; have := HJ17.out; have := HJ23.out; first | omega | exact Nat.le_refl _⟩, ⟨by (with_reducible repeat (first | apply Kd.R_alloc | apply Kd.R_drewN | apply Kd.R_drew)); exact HO232.out⟩, ⟨by (with_reducible repeat (first | refine blk_drewN ?_ _ | refine blk_drew ?_ | refine blk_alloc ?_ _)); exact BK214.out⟩, ⟨by repeat (first | (with_reducible first | exact HB.out | apply below_alloc | apply pw_below_drewN | apply below_drew1 | refine below_set ?_ GE214.out) | exact HB.out)⟩⟩
                   ·
                    rw [if_neg c33] at H
                    have c33b0 : (x7_2 == 24) = false := beq_eq_false_iff_ne.mpr c33
                    have c33b1 : (x7_2 != 24) = true := bne_iff_ne.mpr c33
                    obtain ⟨y233, hy233⟩ : ∃ y_ : List Int, y_ = (([0] : List Int)) := ⟨_, rfl⟩
                    replace H : (portcullisref25_Decode.j5 kj23 a0 (Go.bits .and .i64 a0 31) (Go.bits .and .i64 (a0 / 32) 31) (Go.bits .and .i64 (a0 / 65536) 31) x7_2 y233) = some (r1, r2, r3, r4, r5, r6) := by first | (rw [hy233]; with_reducible exact H) | (have H2_ := (Option.bind_some _ _).symm.trans H; rw [hy233]; with_reducible exact H2_) | (have H2_ := (Option.bind_some _ _).symm.trans H; with_reducible exact H2_) | with_reducible exact H | (rw [hy233]; exact H) | exact H
                    have Ny233 := Aside0.mk hy233
                    clear hy233
                    have H' := Aside0.mk H
                    clear H
                    go_wp2_with (first | ((with_reducible refine gate_dst (N := 31) rfl ?_); refine Kd.R_lit (Kd.int .i64) _ 3 ?hg (N := 31) ?hd (xs := ([0] : List Int)) (inner := [.int .i64 0]) (ok := fun _ => True) (okp := fun _ => True) ?hr ?hp (fun _ hk => hk) trivial (Below.refl _ _) (Nat.le_refl _) (by simp) ?_; (case hd => rfl); (case hg => rfl); (case hr => first | (go_simp; done) | (go_simp; rfl)); (case hp => exact (Reps.one (show Kd.M (Kd.int .i64) _ _ _ 0 [.int .i64 0] from rfl) (Reps.none _ _))); intro v234 w36 ho37 hb hg_ hnew_; clear hg_ hnew_; (first | rw [← Ny233.out] at ho37 | (simp only [Int.reduceToNat] at ho37; rw [← Ny233.out] at ho37)); have n0_ := Aside0.mk (Kd.R_lower ho37 (below_size (by repeat (first | (with_reducible first | exact HB.out | apply below_alloc | apply pw_below_drewN | apply below_drew1 | refine below_set ?_ GE214.out) | exact HB.out)))); have n1_ := Aside0.mk (blk_below (g := gb214) (o := .cells #[.int .i64 x215000_2, .int .i64 x215001_2, .int .i64 x215002_2, .int .i64 x215003_2, .int .i64 x215004_2] 32 (0, 0)) (by (with_reducible repeat (first | refine blk_drewN ?_ _ | refine blk_drew ?_ | refine blk_alloc ?_ _)); exact BK214.out) hb); have n2_ := Aside0.mk (below_step (by repeat (first | (with_reducible first | exact HB.out | apply below_alloc | apply pw_below_drewN | apply below_drew1 | refine below_set ?_ GE214.out) | exact HB.out)) hb); clear BK214; clear HB; have HO235 := n0_; have BK214 := n1_; have HB := n2_; clear n0_ n1_ n2_; clear hb ho37))
                    go_meet
                    case rel => exact ⟨_, (y233), H', ⟨by have := HJ1.out; have := HK2.out; have := HJ8.out; have := HJ17.out; have := HJ23.out; first | omega | exact Nat.le_refl _⟩, ⟨by (with_reducible repeat (first | apply Kd.R_alloc | apply Kd.R_drewN | apply Kd.R_drew)); exact HO235.out⟩, ⟨by (with_reducible repeat (first | refine blk_drewN ?_ _ | refine blk_drew ?_ | refine blk_alloc ?_ _)); exact BK214.out⟩, ⟨by repeat (first | (with_reducible first | exact HB.out | apply below_alloc | apply pw_below_drewN | apply below_drew1 | refine below_set ?_ GE214.out) | exact HB.out)⟩⟩
       case rest =>
        clear HC8
        try clear c1
        try clear c2
        try clear p2
        try clear c3
        try clear c4
        try clear c4b0
        try clear c5
        try clear p6
        try clear c7
        try clear c7b0
        try clear c10
        try clear c10b0
        try clear c10b1
        try clear c11
        try clear c11b0
        try clear c11b1
        try clear c12
        try clear c15
        try clear c15b0
        try clear c15b1
        try clear c19
        try clear c19b0
        try clear c19b1
        try clear c20
        try clear c20b0
        try clear c20b1
        try clear c21
        try clear c25
        try clear c25b0
        try clear c25b1
        try clear c26
        try clear c26b0
        try clear c26b1
        try clear c27
        try clear c30
        try clear c30b0
        try clear c30b1
        try clear c33
        try clear c33b0
        try clear c33b1
        try clear hcz6_0
        try clear hcz6_1
        try clear hcz6_2
        try clear hcz6_3
        try clear hcz6_4
        try clear hfz6_0
        try clear hfz6_1
        try clear hfz6_2
        try clear hfz6_3
        try clear hfz6_4
        try clear p2
        obtain ⟨kq, x8_7, HA, HJ7, HO_8, BK214, HB⟩ := hcut
        cases kq with
        | zero => exact absurd HA.out (by simp [portcullisref25_Decode.j5])
        | succ kj7 =>
         have H := HA.out
         clear HA
         simp only [portcullisref25_Decode.j5] at H
         have H' := Aside0.mk H
         clear H
         go_wp2
         go_loopg [9] kj7 (fun kq v9 w' => ∃ (x9_4 : Int) (x215000_4 : Int) (x215001_4 : Int) (x215002_4 : Int) (x215003_4 : Int) (x215004_4 : Int), v9 = .int .i64 x9_4 ∧ Aside0 (portcullisref25_Decode.l1 kq a0 (Go.bits .and .i64 a0 31) (Go.bits .and .i64 (a0 / 32) 31) (Go.bits .and .i64 (a0 / 65536) 31) x7_2 x8_7 x9_4 = some (r1, r2, r3, r4, r5, r6)) ∧ Aside0 (kq ≤ kj7) ∧ Aside0 (Kd.R (Kd.int .i64) 3 w' w.heap.size (fun _ => True) u8 x8_7) ∧ Aside0 (w'.heap[gb214]? = some (.cells #[.int .i64 x215000_4, .int .i64 x215001_4, .int .i64 x215002_4, .int .i64 x215003_4, .int .i64 x215004_4] 32 (0, 0))) ∧ Aside0 (Below w.heap.size w w'))
         case atStart => exact ⟨(0), (x215000_2), (x215001_2), (x215002_2), (x215003_2), (x215004_2), (by first | rfl | (simp; done) | (simp [*]; done)), H', ⟨Nat.le_refl _⟩, ⟨by (with_reducible repeat (first | apply Kd.R_alloc | apply Kd.R_drewN | apply Kd.R_drew)); exact HO_8.out⟩, ⟨by (with_reducible repeat (first | refine blk_drewN ?_ _ | refine blk_drew ?_ | refine blk_alloc ?_ _)); exact BK214.out⟩, ⟨by repeat (first | (with_reducible first | exact HB.out | apply below_alloc | apply pw_below_drewN | apply below_drew1 | refine below_set ?_ GE214.out) | exact HB.out)⟩⟩
         case round =>
          clear H'
          try clear c1
          try clear c2
          try clear p2
          try clear c3
          try clear c4
          try clear c4b0
          try clear c5
          try clear p6
          try clear c7
          try clear c7b0
          try clear c10
          try clear c10b0
          try clear c10b1
          try clear c11
          try clear c11b0
          try clear c11b1
          try clear c12
          try clear c15
          try clear c15b0
          try clear c15b1
          try clear c19
          try clear c19b0
          try clear c19b1
          try clear c20
          try clear c20b0
          try clear c20b1
          try clear c21
          try clear c25
          try clear c25b0
          try clear c25b1
          try clear c26
          try clear c26b0
          try clear c26b1
          try clear c27
          try clear c30
          try clear c30b0
          try clear c30b1
          try clear c33
          try clear c33b0
          try clear c33b1
          try clear hcz6_0
          try clear hcz6_1
          try clear hcz6_2
          try clear hcz6_3
          try clear hcz6_4
          try clear hfz6_0
          try clear hfz6_1
          try clear hfz6_2
          try clear hfz6_3
          try clear hfz6_4
          try clear p2
          try clear p6
          obtain ⟨x9_4, x215000_4, x215001_4, x215002_4, x215003_4, x215004_4, rfl, HA, HK4, HO_8, BK214, HB⟩ := hrel
          cases gk with
          | zero => exact absurd HA.out (by simp [portcullisref25_Decode.l1])
          | succ k4 =>
           have H := HA.out
           clear HA
           simp only [portcullisref25_Decode.l1] at H
           by_cases c38 : x9_4 < (x8_7.length : Int)
           ·
            rw [if_pos c38] at H
            have c38b0 : decide (x9_4 < (x8_7.length : Int)) = true := decide_eq_true c38
            clear c38
            by_cases c39 : 0 ≤ x9_4
            ·
             rw [if_pos c39] at H
             have c39b0 : decide (0 ≤ x9_4) = true := decide_eq_true c39
             clear c39
             have HC40 := Aside0.mk H
             clear H
             obtain ⟨Ao41, co41, eo41⟩ := Kd.R_slice HO_8.out
             subst eo41
             have p236 : 0 ≤ (x9_4 : Int) := of_decide_eq_true (by first | (with_reducible assumption) | assumption)
             have q236 : x9_4 < (x8_7.length : Int) := of_decide_eq_true (by first | (with_reducible assumption) | assumption)
             obtain ⟨ad236, e236, hx236_0⟩ := Kd.at_int (Kd.R_reads' HO_8.out).2.2 x9_4 p236 q236
             cases e236
             replace p236 := eq_true p236
             replace q236 := eq_true q236
             go_upto_region 32 with (first | ((with_reducible refine gate_dst (N := 10) rfl ?_); refine box_event ?hg (N := 10) ?hd (cs := #[.int .i64 0, .int .i64 0, .int .i64 0, .int .i64 0, .int .i64 0]) (t := 32) ?hr ?_; (case hd => rfl); (case hg => rfl); (case hr => first | (go_simp; done) | (go_simp; rfl)); intro gb237 hg w42 hbox hb; have n0_ := Aside0.mk (Kd.R_below (by (with_reducible repeat (first | apply Kd.R_alloc | apply Kd.R_drewN | apply Kd.R_drew)); exact HO_8.out) hb); have n1_ := Aside0.mk (blk_below (g := gb214) (o := .cells #[.int .i64 x215000_4, .int .i64 x215001_4, .int .i64 x215002_4, .int .i64 x215003_4, .int .i64 x215004_4] 32 (0, 0)) (by (with_reducible repeat (first | refine blk_drewN ?_ _ | refine blk_drew ?_ | refine blk_alloc ?_ _)); exact BK214.out) hb); have n2_ := Aside0.mk (below_step (by repeat (first | (with_reducible first | exact HB.out | apply below_alloc | apply pw_below_drewN | apply below_drew1 | refine below_set ?_ GE214.out) | exact HB.out)) hb); have n3_ := Aside0.mk (hbox); have n4_ := Aside0.mk ((by rw [hg]; exact (below_size (by repeat (first | (with_reducible first | exact HB.out | apply below_alloc | apply pw_below_drewN | apply below_drew1 | refine below_set ?_ GE214.out) | exact HB.out))) : w.heap.size ≤ gb237)); have n5_ := Aside0.mk ((by rw [hg]; exact (below_size (by repeat (first | (with_reducible first | exact HB.out | apply below_alloc | apply pw_below_drewN | apply below_drew1 | refine below_set ?_ GE214.out) | exact HB.out))) : w.heap.size ≤ gb237)); have n6_ := Aside0.mk ((by rw [hg]; exact Nat.ne_of_lt (blk_lt (g := gb214) (o := .cells #[.int .i64 x215000_4, .int .i64 x215001_4, .int .i64 x215002_4, .int .i64 x215003_4, .int .i64 x215004_4] 32 (0, 0)) (by (with_reducible repeat (first | refine blk_drewN ?_ _ | refine blk_drew ?_ | refine blk_alloc ?_ _)); exact BK214.out)) : gb214 ≠ gb237)); have n7_ := Aside0.mk ((by rw [hg]; exact Nat.ne_of_gt (blk_lt (g := gb214) (o := .cells #[.int .i64 x215000_4, .int .i64 x215001_4, .int .i64 x215002_4, .int .i64 x215003_4, .int .i64 x215004_4] 32 (0, 0)) (by (with_reducible repeat (first | refine blk_drewN ?_ _ | refine blk_drew ?_ | refine blk_alloc ?_ _)); exact BK214.out)) : gb237 ≠ gb214)); clear HO_8; clear BK214; clear HB; have HO_8 := n0_; have BK214 := n1_; have HB := n2_; have BK237 := n3_; have GW237 := n4_; have GE237 := n5_; have NB214_237 := n6_; have NB237_214 := n7_; clear n0_ n1_ n2_ n3_ n4_ n5_ n6_ n7_; clear hb hbox hg; have hnb43 := NB237_214.out; have hnc43 := NB214_237.out; have hcz44_0 : w42.cell? ⟨gb237, 0, none⟩ = some (.int .i64 0) := (blk_cell BK237.out 0).trans rfl; have hcz44_1 : w42.cell? ⟨gb237, 1, none⟩ = some (.int .i64 0) := (blk_cell BK237.out 1).trans rfl; have hcz44_2 : w42.cell? ⟨gb237, 2, none⟩ = some (.int .i64 0) := (blk_cell BK237.out 2).trans rfl; have hcz44_3 : w42.cell? ⟨gb237, 3, none⟩ = some (.int .i64 0) := (blk_cell BK237.out 3).trans rfl; have hcz44_4 : w42.cell? ⟨gb237, 4, none⟩ = some (.int .i64 0) := (blk_cell BK237.out 4).trans rfl; have hfz44_0 := blk_frozen BK237.out 0; have hfz44_1 := blk_frozen BK237.out 1; have hfz44_2 := blk_frozen BK237.out 2; have hfz44_3 := blk_frozen BK237.out 3; have hfz44_4 := blk_frozen BK237.out 4))
             (try simp only [Act.put, List.setIfInBounds_toArray, List.set_cons_zero, List.set_cons_succ])
             go_cut [94] (fun v94 wc => ∃ (kq : Nat) (x94_39 : Bool), v94 = .bool x94_39 ∧ Aside0 (portcullisref25_Decode.j7 kq a0 (Go.bits .and .i64 a0 31) (Go.bits .and .i64 (a0 / 32) 31) (Go.bits .and .i64 (a0 / 65536) 31) x7_2 x8_7 x9_4 x94_39 x7_2 (Go.bits .and .i64 a0 31) (Go.bits .and .i64 (a0 / 32) 31) (Go.bits .and .i64 (a0 / 65536) 31) (rd x8_7 x9_4) = some (r1, r2, r3, r4, r5, r6)) ∧ Aside0 (kq ≤ k4) ∧ Aside0 (Kd.R (Kd.int .i64) 3 wc w.heap.size (fun _ => True) (.slice (some ad236) x8_7.length co41) x8_7) ∧ Aside0 (wc.heap[gb214]? = some (.cells #[.int .i64 x215000_4, .int .i64 x215001_4, .int .i64 x215002_4, .int .i64 x215003_4, .int .i64 x215004_4] 32 (0, 0))) ∧ Aside0 (wc.heap[gb237]? = some (.cells #[.int .i64 x7_2, .int .i64 (Go.bits .and .i64 a0 31), .int .i64 (Go.bits .and .i64 (a0 / 32) 31), .int .i64 (Go.bits .and .i64 (a0 / 65536) 31), .int .i64 (rd x8_7 x9_4)] 32 (0, 0))) ∧ Aside0 (Below w.heap.size w wc))
             case first =>
              have H := HC40.out
              clear HC40
              by_cases c45 : x7_2 = 1
              ·
               rw [if_pos c45] at H
               have c45b0 : (x7_2 == 1) = true := beq_iff_eq.mpr c45
               have c45b1 : (x7_2 != 1) = false := bne_eq_false_iff_eq.mpr c45
               clear c45
               (first | rw [c45b0] | (simp only [i64_w, i32_w]; rw [c45b0]) | skip)
               have H' := Aside0.mk H
               clear H
               go_wp2
               go_meet
               case rel => exact ⟨_, (true), (by first | rfl | (simp; done) | (simp [*]; done)), H', ⟨by have := HJ1.out; have := HK2.out; have := HJ7.out; have := HK4.out; first | omega | exact Nat.le_refl _⟩, ⟨by (with_reducible repeat (first | apply Kd.R_alloc | apply Kd.R_drewN | apply Kd.R_drew)); exact Kd.R_mono (Kd.R_far (p := ⟨gb237, 4, none⟩) (Kd.R_far (p := ⟨gb237, 3, none⟩) (Kd.R_far (p := ⟨gb237, 2, none⟩) (Kd.R_far (p := ⟨gb237, 1, none⟩) (Kd.R_far (p := ⟨gb237, 0, none⟩) (Kd.R_types HO_8.out BK237.out (by decide)) (fun _ hk => hk.2) (.int .i64 x7_2)) (fun _ hk => hk.2) (.int .i64 (Go.bits .and .i64 a0 31))) (fun _ hk => hk.2) (.int .i64 (Go.bits .and .i64 (a0 / 32) 31))) (fun _ hk => hk.2) (.int .i64 (Go.bits .and .i64 (a0 / 65536) 31))) (fun _ hk => hk.2) (.int .i64 (rd x8_7 x9_4))) (fun _ hk => trivial)⟩, ⟨by (with_reducible repeat (first | refine blk_drewN ?_ _ | refine blk_drew ?_ | refine blk_alloc ?_ _)); refine blk_far ?_ NB214_237.out _; (with_reducible repeat (first | refine blk_drewN ?_ _ | refine blk_drew ?_ | refine blk_alloc ?_ _)); refine blk_far ?_ NB214_237.out _; (with_reducible repeat (first | refine blk_drewN ?_ _ | refine blk_drew ?_ | refine blk_alloc ?_ _)); refine blk_far ?_ NB214_237.out _; (with_reducible repeat (first | refine blk_drewN ?_ _ | refine blk_drew ?_ | refine blk_alloc ?_ _)); refine blk_far ?_ NB214_237.out _; (with_reducible repeat (first | refine blk_drewN ?_ _ | refine blk_drew ?_ | refine blk_alloc ?_ _)); refine blk_far ?_ NB214_237.out _; (with_reducible repeat (first | refine blk_drewN ?_ _ | refine blk_drew ?_ | refine blk_alloc ?_ _)); exact BK214.out⟩, ⟨by (with_reducible repeat (first | refine blk_drewN ?_ _ | refine blk_drew ?_ | refine blk_alloc ?_ _)); refine blk_put (cs := #[.int .i64 x7_2, .int .i64 (Go.bits .and .i64 a0 31), .int .i64 (Go.bits .and .i64 (a0 / 32) 31), .int .i64 (Go.bits .and .i64 (a0 / 65536) 31), .int .i64 0]) ?_ 4 _ rfl; (with_reducible repeat (first | refine blk_drewN ?_ _ | refine blk_drew ?_ | refine blk_alloc ?_ _)); refine blk_put (cs := #[.int .i64 x7_2, .int .i64 (Go.bits .and .i64 a0 31), .int .i64 (Go.bits .and .i64 (a0 / 32) 31), .int .i64 0, .int .i64 0]) ?_ 3 _ rfl; (with_reducible repeat (first | refine blk_drewN ?_ _ | refine blk_drew ?_ | refine blk_alloc ?_ _)); refine blk_put (cs := #[.int .i64 x7_2, .int .i64 (Go.bits .and .i64 a0 31), .int .i64 0, .int .i64 0, .int .i64 0]) ?_ 2 _ rfl; (with_reducible repeat (first | refine blk_drewN ?_ _ | refine blk_drew ?_ | refine blk_alloc ?_ _)); refine blk_put (cs := #[.int .i64 x7_2, .int .i64 0, .int .i64 0, .int .i64 0, .int .i64 0]) ?_ 1 _ rfl; (with_reducible repeat (first | refine blk_drewN ?_ _ | refine blk_drew ?_ | refine blk_alloc ?_ _)); refine blk_put (cs := #[.int .i64 0, .int .i64 0, .int .i64 0, .int .i64 0, .int .i64 0]) ?_ 0 _ rfl; (with_reducible repeat (first | refine blk_drewN ?_ _ | refine blk_drew ?_ | refine blk_alloc ?_ _)); exact BK237.out⟩, ⟨by repeat (first | (with_reducible first | exact HB.out | apply below_alloc | apply pw_below_drewN | apply below_drew1 | refine below_set ?_ GE214.out | refine below_set ?_ GE237.out) | exact HB.out)⟩⟩
              ·
               rw [if_neg c45] at H
               have c45b0 : (x7_2 == 1) = false := beq_eq_false_iff_ne.mpr c45
               have c45b1 : (x7_2 != 1) = true := bne_iff_ne.mpr c45
               (first | rw [c45b0] | (simp only [i64_w, i32_w]; rw [c45b0]) | skip)
               have H' := Aside0.mk H
               clear H
               go_wp2
               go_meet
               case rel => exact ⟨_, ((x7_2 == 2)), (by first | rfl | (simp; done) | (simp [*]; done)), H', ⟨by have := HJ1.out; have := HK2.out; have := HJ7.out; have := HK4.out; first | omega | exact Nat.le_refl _⟩, ⟨by (with_reducible repeat (first | apply Kd.R_alloc | apply Kd.R_drewN | apply Kd.R_drew)); exact Kd.R_mono (Kd.R_far (p := ⟨gb237, 4, none⟩) (Kd.R_far (p := ⟨gb237, 3, none⟩) (Kd.R_far (p := ⟨gb237, 2, none⟩) (Kd.R_far (p := ⟨gb237, 1, none⟩) (Kd.R_far (p := ⟨gb237, 0, none⟩) (Kd.R_types HO_8.out BK237.out (by decide)) (fun _ hk => hk.2) (.int .i64 x7_2)) (fun _ hk => hk.2) (.int .i64 (Go.bits .and .i64 a0 31))) (fun _ hk => hk.2) (.int .i64 (Go.bits .and .i64 (a0 / 32) 31))) (fun _ hk => hk.2) (.int .i64 (Go.bits .and .i64 (a0 / 65536) 31))) (fun _ hk => hk.2) (.int .i64 (rd x8_7 x9_4))) (fun _ hk => trivial)⟩, ⟨by (with_reducible repeat (first | refine blk_drewN ?_ _ | refine blk_drew ?_ | refine blk_alloc ?_ _)); refine blk_far ?_ NB214_237.out _; (with_reducible repeat (first | refine blk_drewN ?_ _ | refine blk_drew ?_ | refine blk_alloc ?_ _)); refine blk_far ?_ NB214_237.out _; (with_reducible repeat (first | refine blk_drewN ?_ _ | refine blk_drew ?_ | refine blk_alloc ?_ _)); refine blk_far ?_ NB214_237.out _; (with_reducible repeat (first | refine blk_drewN ?_ _ | refine blk_drew ?_ | refine blk_alloc ?_ _)); refine blk_far ?_ NB214_237.out _; (with_reducible repeat (first | refine blk_drewN ?_ _ | refine blk_drew ?_ | refine blk_alloc ?_ _)); refine blk_far ?_ NB214_237.out _; (with_reducible repeat (first | refine blk_drewN ?_ _ | refine blk_drew ?_ | refine blk_alloc ?_ _)); exact BK214.out⟩, ⟨by (with_reducible repeat (first | refine blk_drewN ?_ _ | refine blk_drew ?_ | refine blk_alloc ?_ _)); refine blk_put (cs := #[.int .i64 x7_2, .int .i64 (Go.bits .and .i64 a0 31), .int .i64 (Go.bits .and .i64 (a0 / 32) 31), .int .i64 (Go.bits .and .i64 (a0 / 65536) 31), .int .i64 0]) ?_ 4 _ rfl; (with_reducible repeat (first | refine blk_drewN ?_ _ | refine blk_drew ?_ | refine blk_alloc ?_ _)); refine blk_put (cs := #[.int .i64 x7_2, .int .i64 (Go.bits .and .i64 a0 31), .int .i64 (Go.bits .and .i64 (a0 / 32) 31), .int .i64 0, .int .i64 0]) ?_ 3 _ rfl; (with_reducible repeat (first | refine blk_drewN ?_ _ | refine blk_drew ?_ | refine blk_alloc ?_ _)); refine blk_put (cs := #[.int .i64 x7_2, .int .i64 (Go.bits .and .i64 a0 31), .int .i64 0, .int .i64 0, .int .i64 0]) ?_ 2 _ rfl; (with_reducible repeat (first | refine blk_drewN ?_ _ | refine blk_drew ?_ | refine blk_alloc ?_ _)); refine blk_put (cs := #[.int .i64 x7_2, .int .i64 0, .int .i64 0, .int .i64 0, .int .i64 0]) ?_ 1 _ rfl; (with_reducible repeat (first | refine blk_drewN ?_ _ | refine blk_drew ?_ | refine blk_alloc ?_ _)); refine blk_put (cs := #[.int .i64 0, .int .i64 0, .int .i64 0, .int .i64 0, .int .i64 0]) ?_ 0 _ rfl; (with_reducible repeat (first | refine blk_drewN ?_ _ | refine blk_drew ?_ | refine blk_alloc ?_ _)); exact BK237.out⟩, ⟨by repeat (first | (with_reducible first | exact HB.out | apply below_alloc | apply pw_below_drewN | apply below_drew1 | refine below_set ?_ GE214.out | refine below_set ?_ GE237.out) | exact HB.out)⟩⟩
             case rest =>
              clear HC40
              try clear c1
              try clear c2
              try clear p2
              try clear q2
              try clear hx2
              try clear c3
              try clear c4
              try clear c4b0
              try clear c5
              try clear p6
              try clear c7
              try clear c7b0
              try clear c10
              try clear c10b0
              try clear c10b1
              try clear c11
              try clear c11b0
              try clear c11b1
              try clear c12
              try clear c15
              try clear c15b0
              try clear c15b1
              try clear c19
              try clear c19b0
              try clear c19b1
              try clear c20
              try clear c20b0
              try clear c20b1
              try clear c21
              try clear p23
              try clear q23
              try clear hx23
              try clear c25
              try clear c25b0
              try clear c25b1
              try clear c26
              try clear c26b0
              try clear c26b1
              try clear c27
              try clear c30
              try clear c30b0
              try clear c30b1
              try clear c33
              try clear c33b0
              try clear c33b1
              try clear c38
              try clear c38b0
              try clear c39
              try clear c39b0
              try clear c43
              try clear c45
              try clear c45b0
              try clear c45b1
              try clear hcz44_0
              try clear hcz44_1
              try clear hcz44_2
              try clear hcz44_3
              try clear hcz44_4
              try clear hcz6_0
              try clear hcz6_1
              try clear hcz6_2
              try clear hcz6_3
              try clear hcz6_4
              try clear hfz44_0
              try clear hfz44_1
              try clear hfz44_2
              try clear hfz44_3
              try clear hfz44_4
              try clear hfz6_0
              try clear hfz6_1
              try clear hfz6_2
              try clear hfz6_3
              try clear hfz6_4
              try clear hx236_0
              try clear p2
              try clear p236
              try clear p6
              try clear q236
              obtain ⟨kq, x94_39, rfl, HA, HJ39, HO_8, BK214, BK237, HB⟩ := hcut
              cases kq with
              | zero => exact absurd HA.out (by simp [portcullisref25_Decode.j7])
              | succ kj39 =>
               have H := HA.out
               clear HA
               simp only [portcullisref25_Decode.j7] at H
               have HC46 := Aside0.mk H
               clear H
               go_upto_if 94 with (fail)
               go_cut [] (fun wc => ∃ (kq : Nat) (x238002_45 : Int), Aside0 (portcullisref25_Decode.j8 kq a0 (Go.bits .and .i64 a0 31) (Go.bits .and .i64 (a0 / 32) 31) (Go.bits .and .i64 (a0 / 65536) 31) x7_2 x8_7 x9_4 x7_2 (Go.bits .and .i64 a0 31) x238002_45 (Go.bits .and .i64 (a0 / 65536) 31) (rd x8_7 x9_4) = some (r1, r2, r3, r4, r5, r6)) ∧ Aside0 (kq ≤ kj39) ∧ Aside0 (Kd.R (Kd.int .i64) 3 wc w.heap.size (fun _ => True) (.slice (some ad236) x8_7.length co41) x8_7) ∧ Aside0 (wc.heap[gb214]? = some (.cells #[.int .i64 x215000_4, .int .i64 x215001_4, .int .i64 x215002_4, .int .i64 x215003_4, .int .i64 x215004_4] 32 (0, 0))) ∧ Aside0 (wc.heap[gb237]? = some (.cells #[.int .i64 x7_2, .int .i64 (Go.bits .and .i64 a0 31), .int .i64 x238002_45, .int .i64 (Go.bits .and .i64 (a0 / 65536) 31), .int .i64 (rd x8_7 x9_4)] 32 (0, 0))) ∧ Aside0 (Below w.heap.size w wc))
               case first =>
                have H := HC46.out
                clear HC46
                by_cases c47 : x94_39 = true
                ·
                 subst c47
                 have H1 : (portcullisref25_Decode.j8 kj39 a0 (Go.bits .and .i64 a0 31) (Go.bits .and .i64 (a0 / 32) 31) (Go.bits .and .i64 (a0 / 65536) 31) x7_2 x8_7 x9_4 x7_2 (Go.bits .and .i64 a0 31) (Go.bits .and .i64 (a0 / 2097152) 3) (Go.bits .and .i64 (a0 / 65536) 31) (rd x8_7 x9_4)) = some (r1, r2, r3, r4, r5, r6) := by rw [if_pos rfl] at H; exact H
                 clear H
                 have H := H1
                 clear H1
                 have H' := Aside0.mk H
                 clear H
                 have hnb48 := NB237_214.out
                 have hnc48 := NB214_237.out
                 have hcz49_0 : wc.cell? ⟨gb237, 0, none⟩ = some (.int .i64 x7_2) := (blk_cell BK237.out 0).trans rfl
                 have hcz49_1 : wc.cell? ⟨gb237, 1, none⟩ = some (.int .i64 (Go.bits .and .i64 a0 31)) := (blk_cell BK237.out 1).trans rfl
                 have hcz49_2 : wc.cell? ⟨gb237, 2, none⟩ = some (.int .i64 (Go.bits .and .i64 (a0 / 32) 31)) := (blk_cell BK237.out 2).trans rfl
                 have hcz49_3 : wc.cell? ⟨gb237, 3, none⟩ = some (.int .i64 (Go.bits .and .i64 (a0 / 65536) 31)) := (blk_cell BK237.out 3).trans rfl
                 have hcz49_4 : wc.cell? ⟨gb237, 4, none⟩ = some (.int .i64 (rd x8_7 x9_4)) := (blk_cell BK237.out 4).trans rfl
                 have hfz49_0 := blk_frozen BK237.out 0
                 have hfz49_1 := blk_frozen BK237.out 1
                 have hfz49_2 := blk_frozen BK237.out 2
                 have hfz49_3 := blk_frozen BK237.out 3
                 have hfz49_4 := blk_frozen BK237.out 4
                 go_wp2
                 go_meet
                 case rel => exact ⟨_, (Go.bits .and .i64 (a0 / 2097152) 3), H', ⟨by have := HJ1.out; have := HK2.out; have := HJ7.out; have := HK4.out; have := HJ39.out; first | omega | exact Nat.le_refl _⟩, ⟨by (with_reducible repeat (first | apply Kd.R_alloc | apply Kd.R_drewN | apply Kd.R_drew)); exact Kd.R_mono (Kd.R_far (p := ⟨gb237, 2, none⟩) (Kd.R_types HO_8.out BK237.out (by decide)) (fun _ hk => hk.2) (.int .i64 (Go.bits .and .i64 (a0 / 2097152) 3))) (fun _ hk => trivial)⟩, ⟨by (with_reducible repeat (first | refine blk_drewN ?_ _ | refine blk_drew ?_ | refine blk_alloc ?_ _)); refine blk_far ?_ NB214_237.out _; (with_reducible repeat (first | refine blk_drewN ?_ _ | refine blk_drew ?_ | refine blk_alloc ?_ _)); exact BK214.out⟩, ⟨by (with_reducible repeat (first | refine blk_drewN ?_ _ | refine blk_drew ?_ | refine blk_alloc ?_ _)); refine blk_put (cs := #[.int .i64 x7_2, .int .i64 (Go.bits .and .i64 a0 31), .int .i64 (Go.bits .and .i64 (a0 / 32) 31), .int .i64 (Go.bits .and .i64 (a0 / 65536) 31), .int .i64 (rd x8_7 x9_4)]) ?_ 2 _ rfl; (with_reducible repeat (first | refine blk_drewN ?_ _ | refine blk_drew ?_ | refine blk_alloc ?_ _)); exact BK237.out⟩, ⟨by repeat (first | (with_reducible first | exact HB.out | apply below_alloc | apply pw_below_drewN | apply below_drew1 | refine below_set ?_ GE214.out | refine below_set ?_ GE237.out) | exact HB.out)⟩⟩
                ·
                 replace c47 := Bool.eq_false_iff.mpr c47
                 subst c47
                 have H1 : (portcullisref25_Decode.j8 kj39 a0 (Go.bits .and .i64 a0 31) (Go.bits .and .i64 (a0 / 32) 31) (Go.bits .and .i64 (a0 / 65536) 31) x7_2 x8_7 x9_4 x7_2 (Go.bits .and .i64 a0 31) (Go.bits .and .i64 (a0 / 32) 31) (Go.bits .and .i64 (a0 / 65536) 31) (rd x8_7 x9_4)) = some (r1, r2, r3, r4, r5, r6) := by rw [if_neg (show ¬ (false = true) by decide)] at H; exact H
                 clear H
                 have H := H1
                 clear H1
                 have H' := Aside0.mk H
                 clear H
                 go_wp2
                 go_meet
                 case rel => exact ⟨_, ((Go.bits .and .i64 (a0 / 32) 31)), H', ⟨by have := HJ1.out; have := HK2.out; have := HJ7.out; have := HK4.out; have := HJ39.out; first | omega | exact Nat.le_refl _⟩, ⟨by (with_reducible repeat (first | apply Kd.R_alloc | apply Kd.R_drewN | apply Kd.R_drew)); exact HO_8.out⟩, ⟨by (with_reducible repeat (first | refine blk_drewN ?_ _ | refine blk_drew ?_ | refine blk_alloc ?_ _)); exact BK214.out⟩, ⟨by (with_reducible repeat (first | refine blk_drewN ?_ _ | refine blk_drew ?_ | refine blk_alloc ?_ _)); exact BK237.out⟩, ⟨by repeat (first | (with_reducible first | exact HB.out | apply below_alloc | apply pw_below_drewN | apply below_drew1 | refine below_set ?_ GE214.out | refine below_set ?_ GE237.out) | exact HB.out)⟩⟩
               case rest =>
                clear HC46
                try clear c1
                try clear c2
                try clear p2
                try clear q2
                try clear hx2
                try clear c3
                try clear c4
                try clear c4b0
                try clear c5
                try clear p6
                try clear c7
                try clear c7b0
                try clear c10
                try clear c10b0
                try clear c10b1
                try clear c11
                try clear c11b0
                try clear c11b1
                try clear c12
                try clear c15
                try clear c15b0
                try clear c15b1
                try clear c19
                try clear c19b0
                try clear c19b1
                try clear c20
                try clear c20b0
                try clear c20b1
                try clear c21
                try clear p23
                try clear q23
                try clear hx23
                try clear c25
                try clear c25b0
                try clear c25b1
                try clear c26
                try clear c26b0
                try clear c26b1
                try clear c27
                try clear c30
                try clear c30b0
                try clear c30b1
                try clear c33
                try clear c33b0
                try clear c33b1
                try clear c38
                try clear c38b0
                try clear c39
                try clear c39b0
                try clear c43
                try clear c45
                try clear c45b0
                try clear c45b1
                try clear c47
                try clear c48
                try clear hcz44_0
                try clear hcz44_1
                try clear hcz44_2
                try clear hcz44_3
                try clear hcz44_4
                try clear hcz49_0
                try clear hcz49_1
                try clear hcz49_2
                try clear hcz49_3
                try clear hcz49_4
                try clear hcz6_0
                try clear hcz6_1
                try clear hcz6_2
                try clear hcz6_3
                try clear hcz6_4
                try clear hfz44_0
                try clear hfz44_1
                try clear hfz44_2
                try clear hfz44_3
                try clear hfz44_4
                try clear hfz49_0
                try clear hfz49_1
                try clear hfz49_2
                try clear hfz49_3
                try clear hfz49_4
                try clear hfz6_0
                try clear hfz6_1
                try clear hfz6_2
                try clear hfz6_3
                try clear hfz6_4
                try clear hx236_0
                try clear p2
                try clear p23
                try clear p236
                try clear p6
                try clear q2
                try clear q23
                try clear q236
                obtain ⟨kq, x238002_45, HA, HJ45, HO_8, BK214, BK237, HB⟩ := hcut
                cases kq with
                | zero => exact absurd HA.out (by simp [portcullisref25_Decode.j8])
                | succ kj45 =>
                 have H := HA.out
                 clear HA
                 simp only [portcullisref25_Decode.j8] at H
                 have HC50 := Aside0.mk H
                 clear H
                 go_upto_if 100 with (fail)
                 go_cut [] (fun wc => ∃ (kq : Nat) (x238001_49 : Int), Aside0 (portcullisref25_Decode.j9 kq a0 (Go.bits .and .i64 a0 31) (Go.bits .and .i64 (a0 / 32) 31) (Go.bits .and .i64 (a0 / 65536) 31) x7_2 x8_7 x9_4 x7_2 x238001_49 x238002_45 (Go.bits .and .i64 (a0 / 65536) 31) (rd x8_7 x9_4) = some (r1, r2, r3, r4, r5, r6)) ∧ Aside0 (kq ≤ kj45) ∧ Aside0 (Kd.R (Kd.int .i64) 3 wc w.heap.size (fun _ => True) (.slice (some ad236) x8_7.length co41) x8_7) ∧ Aside0 (wc.heap[gb214]? = some (.cells #[.int .i64 x215000_4, .int .i64 x215001_4, .int .i64 x215002_4, .int .i64 x215003_4, .int .i64 x215004_4] 32 (0, 0))) ∧ Aside0 (wc.heap[gb237]? = some (.cells #[.int .i64 x7_2, .int .i64 x238001_49, .int .i64 x238002_45, .int .i64 (Go.bits .and .i64 (a0 / 65536) 31), .int .i64 (rd x8_7 x9_4)] 32 (0, 0))) ∧ Aside0 (Below w.heap.size w wc))
                 case first =>
                  have H := HC50.out
                  clear HC50
                  by_cases c51 : x7_2 = 24
                  ·
                   rw [if_pos c51] at H
                   have c51b0 : (x7_2 == 24) = true := beq_iff_eq.mpr c51
                   have c51b1 : (x7_2 != 24) = false := bne_eq_false_iff_eq.mpr c51
                   clear c51
                   (first | rw [c51b0] | (simp only [i64_w, i32_w]; rw [c51b0]) | skip)
                   have H' := Aside0.mk H
                   clear H
                   have hnb52 := NB237_214.out
                   have hnc52 := NB214_237.out
                   have hcz53_0 : wc.cell? ⟨gb237, 0, none⟩ = some (.int .i64 x7_2) := (blk_cell BK237.out 0).trans rfl
                   have hcz53_1 : wc.cell? ⟨gb237, 1, none⟩ = some (.int .i64 (Go.bits .and .i64 a0 31)) := (blk_cell BK237.out 1).trans rfl
                   have hcz53_2 : wc.cell? ⟨gb237, 2, none⟩ = some (.int .i64 x238002_45) := (blk_cell BK237.out 2).trans rfl
                   have hcz53_3 : wc.cell? ⟨gb237, 3, none⟩ = some (.int .i64 (Go.bits .and .i64 (a0 / 65536) 31)) := (blk_cell BK237.out 3).trans rfl
                   have hcz53_4 : wc.cell? ⟨gb237, 4, none⟩ = some (.int .i64 (rd x8_7 x9_4)) := (blk_cell BK237.out 4).trans rfl
                   have hfz53_0 := blk_frozen BK237.out 0
                   have hfz53_1 := blk_frozen BK237.out 1
                   have hfz53_2 := blk_frozen BK237.out 2
                   have hfz53_3 := blk_frozen BK237.out 3
                   have hfz53_4 := blk_frozen BK237.out 4
                   go_wp2
                   go_meet
                   case rel => exact ⟨_, (Go.bits .and .i64 a0 15), H', ⟨by have := HJ1.out; have := HK2.out; have := HJ7.out; have := HK4.out; have := HJ39.out; have := HJ45.out; first | omega | exact Nat.le_refl _⟩, ⟨by (with_reducible repeat (first | apply Kd.R_alloc | apply Kd.R_drewN | apply Kd.R_drew)); exact Kd.R_mono (Kd.R_far (p := ⟨gb237, 1, none⟩) (Kd.R_types HO_8.out BK237.out (by decide)) (fun _ hk => hk.2) (.int .i64 (Go.bits .and .i64 a0 15))) (fun _ hk => trivial)⟩, ⟨by (with_reducible repeat (first | refine blk_drewN ?_ _ | refine blk_drew ?_ | refine blk_alloc ?_ _)); refine blk_far ?_ NB214_237.out _; (with_reducible repeat (first | refine blk_drewN ?_ _ | refine blk_drew ?_ | refine blk_alloc ?_ _)); exact BK214.out⟩, ⟨by (with_reducible repeat (first | refine blk_drewN ?_ _ | refine blk_drew ?_ | refine blk_alloc ?_ _)); refine blk_put (cs := #[.int .i64 x7_2, .int .i64 (Go.bits .and .i64 a0 31), .int .i64 x238002_45, .int .i64 (Go.bits .and .i64 (a0 / 65536) 31), .int .i64 (rd x8_7 x9_4)]) ?_ 1 _ rfl; (with_reducible repeat (first | refine blk_drewN ?_ _ | refine blk_drew ?_ | refine blk_alloc ?_ _)); exact BK237.out⟩, ⟨by repeat (first | (with_reducible first | exact HB.out | apply below_alloc | apply pw_below_drewN | apply below_drew1 | refine below_set ?_ GE214.out | refine below_set ?_ GE237.out) | exact HB.out)⟩⟩
                  ·
                   rw [if_neg c51] at H
                   have c51b0 : (x7_2 == 24) = false := beq_eq_false_iff_ne.mpr c51
                   have c51b1 : (x7_2 != 24) = true := bne_iff_ne.mpr c51
                   (first | rw [c51b0] | (simp only [i64_w, i32_w]; rw [c51b0]) | skip)
                   have H' := Aside0.mk H
                   clear H
                   go_wp2
                   go_meet
                   case rel => exact ⟨_, ((Go.bits .and .i64 a0 31)), H', ⟨by have := HJ1.out; have := HK2.out; have := HJ7.out; have := HK4.out; have := HJ39.out; have := HJ45.out; first | omega | exact Nat.le_refl _⟩, ⟨by (with_reducible repeat (first | apply Kd.R_alloc | apply Kd.R_drewN | apply Kd.R_drew)); exact HO_8.out⟩, ⟨by (with_reducible repeat (first | refine blk_drewN ?_ _ | refine blk_drew ?_ | refine blk_alloc ?_ _)); exact BK214.out⟩, ⟨by (with_reducible repeat (first | refine blk_drewN ?_ _ | refine blk_drew ?_ | refine blk_alloc ?_ _)); exact BK237.out⟩, ⟨by repeat (first | (with_reducible first | exact HB.out | apply below_alloc | apply pw_below_drewN | apply below_drew1 | refine below_set ?_ GE214.out | refine below_set ?_ GE237.out) | exact HB.out)⟩⟩
                 case rest =>
                  clear HC50
                  try clear c1
                  try clear c2
                  try clear p2
                  try clear q2
                  try clear hx2
                  try clear c3
                  try clear c4
                  try clear c4b0
                  try clear c5
                  try clear p6
                  try clear c7
                  try clear c7b0
                  try clear c10
                  try clear c10b0
                  try clear c10b1
                  try clear c11
                  try clear c11b0
                  try clear c11b1
                  try clear c12
                  try clear c15
                  try clear c15b0
                  try clear c15b1
                  try clear c19
                  try clear c19b0
                  try clear c19b1
                  try clear c20
                  try clear c20b0
                  try clear c20b1
                  try clear c21
                  try clear p23
                  try clear q23
                  try clear hx23
                  try clear c25
                  try clear c25b0
                  try clear c25b1
                  try clear c26
                  try clear c26b0
                  try clear c26b1
                  try clear c27
                  try clear c30
                  try clear c30b0
                  try clear c30b1
                  try clear c33
                  try clear c33b0
                  try clear c33b1
                  try clear c38
                  try clear c38b0
                  try clear c39
                  try clear c39b0
                  try clear c43
                  try clear c45
                  try clear c45b0
                  try clear c45b1
                  try clear c47
                  try clear c48
                  try clear c51
                  try clear c51b0
                  try clear c51b1
                  try clear c52
                  try clear hcz44_0
                  try clear hcz44_1
                  try clear hcz44_2
                  try clear hcz44_3
                  try clear hcz44_4
                  try clear hcz49_0
                  try clear hcz49_1
                  try clear hcz49_2
                  try clear hcz49_3
                  try clear hcz49_4
                  try clear hcz53_0
                  try clear hcz53_1
                  try clear hcz53_2
                  try clear hcz53_3
                  try clear hcz53_4
                  try clear hcz6_0
                  try clear hcz6_1
                  try clear hcz6_2
                  try clear hcz6_3
                  try clear hcz6_4
                  try clear hfz44_0
                  try clear hfz44_1
                  try clear hfz44_2
                  try clear hfz44_3
                  try clear hfz44_4
                  try clear hfz49_0
                  try clear hfz49_1
                  try clear hfz49_2
                  try clear hfz49_3
                  try clear hfz49_4
                  try clear hfz53_0
                  try clear hfz53_1
                  try clear hfz53_2
                  try clear hfz53_3
                  try clear hfz53_4
                  try clear hfz6_0
                  try clear hfz6_1
                  try clear hfz6_2
                  try clear hfz6_3
                  try clear hfz6_4
                  try clear hx236_0
                  try clear p2
                  try clear p23
                  try clear p236
                  try clear p6
                  try clear q2
                  try clear q23
                  try clear q236
                  obtain ⟨kq, x238001_49, HA, HJ49, HO_8, BK214, BK237, HB⟩ := hcut
                  cases kq with
                  | zero => exact absurd HA.out (by simp [portcullisref25_Decode.j9])
                  | succ kj49 =>
                   have H := HA.out
                   clear HA
                   simp only [portcullisref25_Decode.j9] at H
                   replace H := Option.bind_eq_some_iff.mp H
                   obtain ⟨⟨t238, t239, t240, t241, t242⟩, A540, H⟩ := H
                   replace H : ((portcullisref25_Word.f kj49 t238 t239 t240 t241 t242).bind fun t243 => (if t243 = a0 then (some (t238, t239, t240, t241, t242, 0)) else (portcullisref25_Decode.l1 kj49 a0 (Go.bits .and .i64 a0 31) (Go.bits .and .i64 (a0 / 32) 31) (Go.bits .and .i64 (a0 / 65536) 31) x7_2 x8_7 (wrap64 (x9_4 + 1))))) = some (r1, r2, r3, r4, r5, r6) := H
                   have A54 := Aside0.mk A540
                   clear A540
                   replace H := Option.bind_eq_some_iff.mp H
                   obtain ⟨t243, A550, H⟩ := H
                   replace H : (if t243 = a0 then (some (t238, t239, t240, t241, t242, 0)) else (portcullisref25_Decode.l1 kj49 a0 (Go.bits .and .i64 a0 31) (Go.bits .and .i64 (a0 / 32) 31) (Go.bits .and .i64 (a0 / 65536) 31) x7_2 x8_7 (wrap64 (x9_4 + 1)))) = some (r1, r2, r3, r4, r5, r6) := H
                   have A55 := Aside0.mk A550
                   clear A550
                   by_cases c56 : t243 = a0
                   ·
                    rw [if_pos c56] at H
                    have c56b0 : (t243 == a0) = true := beq_iff_eq.mpr c56
                    have c56b1 : (t243 != a0) = false := bne_eq_false_iff_eq.mpr c56
                    clear c56
                    simp only [Option.some.injEq, Prod.mk.injEq] at H
                    obtain ⟨rfl, rfl, rfl, rfl, rfl, rfl⟩ := H
                    have hnb57 := NB237_214.out
                    have hnc57 := NB214_237.out
                    have hcz58_0 : wc.cell? ⟨gb237, 0, none⟩ = some (.int .i64 x7_2) := (blk_cell BK237.out 0).trans rfl
                    have hcz58_1 : wc.cell? ⟨gb237, 1, none⟩ = some (.int .i64 x238001_49) := (blk_cell BK237.out 1).trans rfl
                    have hcz58_2 : wc.cell? ⟨gb237, 2, none⟩ = some (.int .i64 x238002_45) := (blk_cell BK237.out 2).trans rfl
                    have hcz58_3 : wc.cell? ⟨gb237, 3, none⟩ = some (.int .i64 (Go.bits .and .i64 (a0 / 65536) 31)) := (blk_cell BK237.out 3).trans rfl
                    have hcz58_4 : wc.cell? ⟨gb237, 4, none⟩ = some (.int .i64 (rd x8_7 x9_4)) := (blk_cell BK237.out 4).trans rfl
                    have hfz58_0 := blk_frozen BK237.out 0
                    have hfz58_1 := blk_frozen BK237.out 1
                    have hfz58_2 := blk_frozen BK237.out 2
                    have hfz58_3 := blk_frozen BK237.out 3
                    have hfz58_4 := blk_frozen BK237.out 4
                    go_wp2_with (first | ((with_reducible refine gate_callee (f := 16) rfl ?_); refine goesL_ (some 105) rfl rfl Try.func16 (by kernel_rfl) rfl #[.agg #[.int .i64 x7_2, .int .i64 x238001_49, .int .i64 x238002_45, .int .i64 (Go.bits .and .i64 (a0 / 65536) 31), .int .i64 (rd x8_7 x9_4)]] rfl (by (try simp only [List.map_toArray, List.map_cons, List.map_nil]); first | done | rfl | (simp only [List.length_drop, List.length_take]; rfl)) ?_; (with_reducible refine (portcullisref25_bare.calls kj49 x7_2 x238001_49 x238002_45 (Go.bits .and .i64 (a0 / 65536) 31) (rd x8_7 x9_4) t238 t239 t240 t241 t242 _ A54.out).mono ?_); rintro e w59 ⟨rfl, hb⟩; refine ⟨_, rfl, ?_⟩; have n0_ := Aside0.mk (Kd.R_below (by (with_reducible repeat (first | apply Kd.R_alloc | apply Kd.R_drewN | apply Kd.R_drew)); exact HO_8.out) hb); have n1_ := Aside0.mk (blk_below (g := gb214) (o := .cells #[.int .i64 x215000_4, .int .i64 x215001_4, .int .i64 x215002_4, .int .i64 x215003_4, .int .i64 x215004_4] 32 (0, 0)) (by (with_reducible repeat (first | refine blk_drewN ?_ _ | refine blk_drew ?_ | refine blk_alloc ?_ _)); exact BK214.out) hb); have n2_ := Aside0.mk (blk_below (g := gb237) (o := .cells #[.int .i64 x7_2, .int .i64 x238001_49, .int .i64 x238002_45, .int .i64 (Go.bits .and .i64 (a0 / 65536) 31), .int .i64 (rd x8_7 x9_4)] 32 (0, 0)) (by (with_reducible repeat (first | refine blk_drewN ?_ _ | refine blk_drew ?_ | refine blk_alloc ?_ _)); exact BK237.out) hb); have n3_ := Aside0.mk (below_step (by repeat (first | (with_reducible first | exact HB.out | apply below_alloc | apply pw_below_drewN | apply below_drew1 | refine below_set ?_ GE214.out | refine below_set ?_ GE237.out) | exact HB.out)) hb); clear HO_8; clear BK214; clear BK237; clear HB; have HO_8 := n0_; have BK214 := n1_; have BK237 := n2_; have HB := n3_; clear n0_ n1_ n2_ n3_; (try clear hb); (try clear hb2); (try clear hk); (try clear hi); have hcz60_0 : w59.cell? ⟨gb237, 0, none⟩ = some (.int .i64 x7_2) := (blk_cell BK237.out 0).trans rfl; have hcz60_1 : w59.cell? ⟨gb237, 1, none⟩ = some (.int .i64 x238001_49) := (blk_cell BK237.out 1).trans rfl; have hcz60_2 : w59.cell? ⟨gb237, 2, none⟩ = some (.int .i64 x238002_45) := (blk_cell BK237.out 2).trans rfl; have hcz60_3 : w59.cell? ⟨gb237, 3, none⟩ = some (.int .i64 (Go.bits .and .i64 (a0 / 65536) 31)) := (blk_cell BK237.out 3).trans rfl; have hcz60_4 : w59.cell? ⟨gb237, 4, none⟩ = some (.int .i64 (rd x8_7 x9_4)) := (blk_cell BK237.out 4).trans rfl; have hfz60_0 := blk_frozen BK237.out 0; have hfz60_1 := blk_frozen BK237.out 1; have hfz60_2 := blk_frozen BK237.out 2; have hfz60_3 := blk_frozen BK237.out 3; have hfz60_4 := blk_frozen BK237.out 4) | ((with_reducible refine gate_callee (f := 13) rfl ?_); refine goesL_ (some 107) rfl rfl Try.func13 (by kernel_rfl) rfl #[.agg #[.int .i64 t238, .int .i64 t239, .int .i64 t240, .int .i64 t241, .int .i64 t242]] rfl (by (try simp only [List.map_toArray, List.map_cons, List.map_nil]); first | done | rfl | (simp only [List.length_drop, List.length_take]; rfl)) ?_; (with_reducible refine (portcullisref25_Word.calls kj49 t238 t239 t240 t241 t242 t243 _ A55.out).mono ?_); rintro e w61 ⟨rfl, hb⟩; refine ⟨_, rfl, ?_⟩; have n0_ := Aside0.mk (Kd.R_below (by (with_reducible repeat (first | apply Kd.R_alloc | apply Kd.R_drewN | apply Kd.R_drew)); exact (Kd.R_mono (Kd.R_far (p := ⟨gb237, 4, none⟩) (Kd.R_far (p := ⟨gb237, 3, none⟩) (Kd.R_far (p := ⟨gb237, 2, none⟩) (Kd.R_far (p := ⟨gb237, 1, none⟩) (Kd.R_far (p := ⟨gb237, 0, none⟩) (Kd.R_types HO_8.out BK237.out (by decide)) (fun _ hk => hk.2) (.int .i64 t238)) (fun _ hk => hk.2) (.int .i64 t239)) (fun _ hk => hk.2) (.int .i64 t240)) (fun _ hk => hk.2) (.int .i64 t241)) (fun _ hk => hk.2) (.int .i64 t242)) (fun _ h_ => h_.1))) hb); have n1_ := Aside0.mk (blk_below (g := gb214) (o := .cells #[.int .i64 x215000_4, .int .i64 x215001_4, .int .i64 x215002_4, .int .i64 x215003_4, .int .i64 x215004_4] 32 (0, 0)) (by (with_reducible repeat (first | refine blk_drewN ?_ _ | refine blk_drew ?_ | refine blk_alloc ?_ _)); refine blk_far ?_ NB214_237.out _; (with_reducible repeat (first | refine blk_drewN ?_ _ | refine blk_drew ?_ | refine blk_alloc ?_ _)); refine blk_far ?_ NB214_237.out _; (with_reducible repeat (first | refine blk_drewN ?_ _ | refine blk_drew ?_ | refine blk_alloc ?_ _)); refine blk_far ?_ NB214_237.out _; (with_reducible repeat (first | refine blk_drewN ?_ _ | refine blk_drew ?_ | refine blk_alloc ?_ _)); refine blk_far ?_ NB214_237.out _; (with_reducible repeat (first | refine blk_drewN ?_ _ | refine blk_drew ?_ | refine blk_alloc ?_ _)); refine blk_far ?_ NB214_237.out _; (with_reducible repeat (first | refine blk_drewN ?_ _ | refine blk_drew ?_ | refine blk_alloc ?_ _)); exact BK214.out) hb); have n2_ := Aside0.mk (blk_below (g := gb237) (o := .cells #[.int .i64 t238, .int .i64 t239, .int .i64 t240, .int .i64 t241, .int .i64 t242] 32 (0, 0)) (by (with_reducible repeat (first | refine blk_drewN ?_ _ | refine blk_drew ?_ | refine blk_alloc ?_ _)); refine blk_put (cs := #[.int .i64 t238, .int .i64 t239, .int .i64 t240, .int .i64 t241, .int .i64 (rd x8_7 x9_4)]) ?_ 4 _ rfl; (with_reducible repeat (first | refine blk_drewN ?_ _ | refine blk_drew ?_ | refine blk_alloc ?_ _)); refine blk_put (cs := #[.int .i64 t238, .int .i64 t239, .int .i64 t240, .int .i64 (Go.bits .and .i64 (a0 / 65536) 31), .int .i64 (rd x8_7 x9_4)]) ?_ 3 _ rfl; (with_reducible repeat (first | refine blk_drewN ?_ _ | refine blk_drew ?_ | refine blk_alloc ?_ _)); refine blk_put (cs := #[.int .i64 t238, .int .i64 t239, .int .i64 x238002_45, .int .i64 (Go.bits .and .i64 (a0 / 65536) 31), .int .i64 (rd x8_7 x9_4)]) ?_ 2 _ rfl; (with_reducible repeat (first | refine blk_drewN ?_ _ | refine blk_drew ?_ | refine blk_alloc ?_ _)); refine blk_put (cs := #[.int .i64 t238, .int .i64 x238001_49, .int .i64 x238002_45, .int .i64 (Go.bits .and .i64 (a0 / 65536) 31), .int .i64 (rd x8_7 x9_4)]) ?_ 1 _ rfl; (with_reducible repeat (first | refine blk_drewN ?_ _ | refine blk_drew ?_ | refine blk_alloc ?_ _)); refine blk_put (cs := #[.int .i64 x7_2, .int .i64 x238001_49, .int .i64 x238002_45, .int .i64 (Go.bits .and .i64 (a0 / 65536) 31), .int .i64 (rd x8_7 x9_4)]) ?_ 0 _ rfl; (with_reducible repeat (first | refine blk_drewN ?_ _ | refine blk_drew ?_ | refine blk_alloc ?_ _)); exact BK237.out) hb); have n3_ := Aside0.mk (below_step (by repeat (first | (with_reducible first | exact HB.out | apply below_alloc | apply pw_below_drewN | apply below_drew1 | refine below_set ?_ GE214.out | refine below_set ?_ GE237.out) | exact HB.out)) hb); clear HO_8; clear BK214; clear BK237; clear HB; have HO_8 := n0_; have BK214 := n1_; have BK237 := n2_; have HB := n3_; clear n0_ n1_ n2_ n3_; (try clear hb); (try clear hb2); (try clear hk); (try clear hi); have hcz62_0 : w61.cell? ⟨gb237, 0, none⟩ = some (.int .i64 t238) := (blk_cell BK237.out 0).trans rfl; have hcz62_1 : w61.cell? ⟨gb237, 1, none⟩ = some (.int .i64 t239) := (blk_cell BK237.out 1).trans rfl; have hcz62_2 : w61.cell? ⟨gb237, 2, none⟩ = some (.int .i64 t240) := (blk_cell BK237.out 2).trans rfl; have hcz62_3 : w61.cell? ⟨gb237, 3, none⟩ = some (.int .i64 t241) := (blk_cell BK237.out 3).trans rfl; have hcz62_4 : w61.cell? ⟨gb237, 4, none⟩ = some (.int .i64 t242) := (blk_cell BK237.out 4).trans rfl; have hfz62_0 := blk_frozen BK237.out 0; have hfz62_1 := blk_frozen BK237.out 1; have hfz62_2 := blk_frozen BK237.out 2; have hfz62_3 := blk_frozen BK237.out 3; have hfz62_4 := blk_frozen BK237.out 4; have hcz63_0 : w61.cell? ⟨gb214, 0, none⟩ = some (.int .i64 x215000_4) := (blk_cell BK214.out 0).trans rfl; have hcz63_1 : w61.cell? ⟨gb214, 1, none⟩ = some (.int .i64 x215001_4) := (blk_cell BK214.out 1).trans rfl; have hcz63_2 : w61.cell? ⟨gb214, 2, none⟩ = some (.int .i64 x215002_4) := (blk_cell BK214.out 2).trans rfl; have hcz63_3 : w61.cell? ⟨gb214, 3, none⟩ = some (.int .i64 x215003_4) := (blk_cell BK214.out 3).trans rfl; have hcz63_4 : w61.cell? ⟨gb214, 4, none⟩ = some (.int .i64 x215004_4) := (blk_cell BK214.out 4).trans rfl; have hfz63_0 := blk_frozen BK214.out 0; have hfz63_1 := blk_frozen BK214.out 1; have hfz63_2 := blk_frozen BK214.out 2; have hfz63_3 := blk_frozen BK214.out 3; have hfz63_4 := blk_frozen BK214.out 4))
                    refine bodyPost_ret (results_ct rfl _ _ gb214 32 #[.int .i64 t238, .int .i64 t239, .int .i64 t240, .int .i64 t241, .int .i64 t242] (0, 0) _ rfl (by (with_reducible repeat (first | refine blk_drewN ?_ _ | refine blk_drew ?_ | refine blk_alloc ?_ _)); refine blk_put (cs := #[.int .i64 t238, .int .i64 t239, .int .i64 t240, .int .i64 t241, .int .i64 x215004_4]) ?_ 4 _ rfl; (with_reducible repeat (first | refine blk_drewN ?_ _ | refine blk_drew ?_ | refine blk_alloc ?_ _)); refine blk_put (cs := #[.int .i64 t238, .int .i64 t239, .int .i64 t240, .int .i64 x215003_4, .int .i64 x215004_4]) ?_ 3 _ rfl; (with_reducible repeat (first | refine blk_drewN ?_ _ | refine blk_drew ?_ | refine blk_alloc ?_ _)); refine blk_put (cs := #[.int .i64 t238, .int .i64 t239, .int .i64 x215002_4, .int .i64 x215003_4, .int .i64 x215004_4]) ?_ 2 _ rfl; (with_reducible repeat (first | refine blk_drewN ?_ _ | refine blk_drew ?_ | refine blk_alloc ?_ _)); refine blk_put (cs := #[.int .i64 t238, .int .i64 x215001_4, .int .i64 x215002_4, .int .i64 x215003_4, .int .i64 x215004_4]) ?_ 1 _ rfl; (with_reducible repeat (first | refine blk_drewN ?_ _ | refine blk_drew ?_ | refine blk_alloc ?_ _)); refine blk_put (cs := #[.int .i64 x215000_4, .int .i64 x215001_4, .int .i64 x215002_4, .int .i64 x215003_4, .int .i64 x215004_4]) ?_ 0 _ rfl; (with_reducible repeat (first | refine blk_drewN ?_ _ | refine blk_drew ?_ | refine blk_alloc ?_ _)); exact BK214.out) Try.underlying32 rfl (by kernel_rfl)) rfl ?_
                    exact ⟨by first | rfl | (simp [errW_none, errW_some] <;> rfl) | (simp [*, errW_none, errW_some] <;> rfl), by repeat (first | (with_reducible first | exact HB.out | apply below_alloc | apply pw_below_drewN | apply below_drew1 | refine below_set ?_ GE214.out | refine below_set ?_ GE237.out) | exact HB.out)⟩
                   ·
                    rw [if_neg c56] at H
                    have c56b0 : (t243 == a0) = false := beq_eq_false_iff_ne.mpr c56
                    have c56b1 : (t243 != a0) = true := bne_iff_ne.mpr c56
                    have H' := Aside0.mk H
                    clear H
                    have hnb64 := NB237_214.out
                    have hnc64 := NB214_237.out
                    have hcz65_0 : wc.cell? ⟨gb237, 0, none⟩ = some (.int .i64 x7_2) := (blk_cell BK237.out 0).trans rfl
                    have hcz65_1 : wc.cell? ⟨gb237, 1, none⟩ = some (.int .i64 x238001_49) := (blk_cell BK237.out 1).trans rfl
                    have hcz65_2 : wc.cell? ⟨gb237, 2, none⟩ = some (.int .i64 x238002_45) := (blk_cell BK237.out 2).trans rfl
                    have hcz65_3 : wc.cell? ⟨gb237, 3, none⟩ = some (.int .i64 (Go.bits .and .i64 (a0 / 65536) 31)) := (blk_cell BK237.out 3).trans rfl
                    have hcz65_4 : wc.cell? ⟨gb237, 4, none⟩ = some (.int .i64 (rd x8_7 x9_4)) := (blk_cell BK237.out 4).trans rfl
                    have hfz65_0 := blk_frozen BK237.out 0
                    have hfz65_1 := blk_frozen BK237.out 1
                    have hfz65_2 := blk_frozen BK237.out 2
                    have hfz65_3 := blk_frozen BK237.out 3
                    have hfz65_4 := blk_frozen BK237.out 4
                    go_wp2_with (first | ((with_reducible refine gate_callee (f := 16) rfl ?_); refine goesL_ (some 105) rfl rfl Try.func16 (by kernel_rfl) rfl #[.agg #[.int .i64 x7_2, .int .i64 x238001_49, .int .i64 x238002_45, .int .i64 (Go.bits .and .i64 (a0 / 65536) 31), .int .i64 (rd x8_7 x9_4)]] rfl (by (try simp only [List.map_toArray, List.map_cons, List.map_nil]); first | done | rfl | (simp only [List.length_drop, List.length_take]; rfl)) ?_; (with_reducible refine (portcullisref25_bare.calls kj49 x7_2 x238001_49 x238002_45 (Go.bits .and .i64 (a0 / 65536) 31) (rd x8_7 x9_4) t238 t239 t240 t241 t242 _ A54.out).mono ?_); rintro e w66 ⟨rfl, hb⟩; refine ⟨_, rfl, ?_⟩; have n0_ := Aside0.mk (Kd.R_below (by (with_reducible repeat (first | apply Kd.R_alloc | apply Kd.R_drewN | apply Kd.R_drew)); exact HO_8.out) hb); have n1_ := Aside0.mk (blk_below (g := gb214) (o := .cells #[.int .i64 x215000_4, .int .i64 x215001_4, .int .i64 x215002_4, .int .i64 x215003_4, .int .i64 x215004_4] 32 (0, 0)) (by (with_reducible repeat (first | refine blk_drewN ?_ _ | refine blk_drew ?_ | refine blk_alloc ?_ _)); exact BK214.out) hb); have n2_ := Aside0.mk (blk_below (g := gb237) (o := .cells #[.int .i64 x7_2, .int .i64 x238001_49, .int .i64 x238002_45, .int .i64 (Go.bits .and .i64 (a0 / 65536) 31), .int .i64 (rd x8_7 x9_4)] 32 (0, 0)) (by (with_reducible repeat (first | refine blk_drewN ?_ _ | refine blk_drew ?_ | refine blk_alloc ?_ _)); exact BK237.out) hb); have n3_ := Aside0.mk (below_step (by repeat (first | (with_reducible first | exact HB.out | apply below_alloc | apply pw_below_drewN | apply below_drew1 | refine below_set ?_ GE214.out | refine below_set ?_ GE237.out) | exact HB.out)) hb); clear HO_8; clear BK214; clear BK237; clear HB; have HO_8 := n0_; have BK214 := n1_; have BK237 := n2_; have HB := n3_; clear n0_ n1_ n2_ n3_; (try clear hb); (try clear hb2); (try clear hk); (try clear hi); have hcz67_0 : w66.cell? ⟨gb237, 0, none⟩ = some (.int .i64 x7_2) := (blk_cell BK237.out 0).trans rfl; have hcz67_1 : w66.cell? ⟨gb237, 1, none⟩ = some (.int .i64 x238001_49) := (blk_cell BK237.out 1).trans rfl; have hcz67_2 : w66.cell? ⟨gb237, 2, none⟩ = some (.int .i64 x238002_45) := (blk_cell BK237.out 2).trans rfl; have hcz67_3 : w66.cell? ⟨gb237, 3, none⟩ = some (.int .i64 (Go.bits .and .i64 (a0 / 65536) 31)) := (blk_cell BK237.out 3).trans rfl; have hcz67_4 : w66.cell? ⟨gb237, 4, none⟩ = some (.int .i64 (rd x8_7 x9_4)) := (blk_cell BK237.out 4).trans rfl; have hfz67_0 := blk_frozen BK237.out 0; have hfz67_1 := blk_frozen BK237.out 1; have hfz67_2 := blk_frozen BK237.out 2; have hfz67_3 := blk_frozen BK237.out 3; have hfz67_4 := blk_frozen BK237.out 4) | ((with_reducible refine gate_callee (f := 13) rfl ?_); refine goesL_ (some 107) rfl rfl Try.func13 (by kernel_rfl) rfl #[.agg #[.int .i64 t238, .int .i64 t239, .int .i64 t240, .int .i64 t241, .int .i64 t242]] rfl (by (try simp only [List.map_toArray, List.map_cons, List.map_nil]); first | done | rfl | (simp only [List.length_drop, List.length_take]; rfl)) ?_; (with_reducible refine (portcullisref25_Word.calls kj49 t238 t239 t240 t241 t242 t243 _ A55.out).mono ?_); rintro e w68 ⟨rfl, hb⟩; refine ⟨_, rfl, ?_⟩; have n0_ := Aside0.mk (Kd.R_below (by (with_reducible repeat (first | apply Kd.R_alloc | apply Kd.R_drewN | apply Kd.R_drew)); exact (Kd.R_mono (Kd.R_far (p := ⟨gb237, 4, none⟩) (Kd.R_far (p := ⟨gb237, 3, none⟩) (Kd.R_far (p := ⟨gb237, 2, none⟩) (Kd.R_far (p := ⟨gb237, 1, none⟩) (Kd.R_far (p := ⟨gb237, 0, none⟩) (Kd.R_types HO_8.out BK237.out (by decide)) (fun _ hk => hk.2) (.int .i64 t238)) (fun _ hk => hk.2) (.int .i64 t239)) (fun _ hk => hk.2) (.int .i64 t240)) (fun _ hk => hk.2) (.int .i64 t241)) (fun _ hk => hk.2) (.int .i64 t242)) (fun _ h_ => h_.1))) hb); have n1_ := Aside0.mk (blk_below (g := gb214) (o := .cells #[.int .i64 x215000_4, .int .i64 x215001_4, .int .i64 x215002_4, .int .i64 x215003_4, .int .i64 x215004_4] 32 (0, 0)) (by (with_reducible repeat (first | refine blk_drewN ?_ _ | refine blk_drew ?_ | refine blk_alloc ?_ _)); refine blk_far ?_ NB214_237.out _; (with_reducible repeat (first | refine blk_drewN ?_ _ | refine blk_drew ?_ | refine blk_alloc ?_ _)); refine blk_far ?_ NB214_237.out _; (with_reducible repeat (first | refine blk_drewN ?_ _ | refine blk_drew ?_ | refine blk_alloc ?_ _)); refine blk_far ?_ NB214_237.out _; (with_reducible repeat (first | refine blk_drewN ?_ _ | refine blk_drew ?_ | refine blk_alloc ?_ _)); refine blk_far ?_ NB214_237.out _; (with_reducible repeat (first | refine blk_drewN ?_ _ | refine blk_drew ?_ | refine blk_alloc ?_ _)); refine blk_far ?_ NB214_237.out _; (with_reducible repeat (first | refine blk_drewN ?_ _ | refine blk_drew ?_ | refine blk_alloc ?_ _)); exact BK214.out) hb); have n2_ := Aside0.mk (blk_below (g := gb237) (o := .cells #[.int .i64 t238, .int .i64 t239, .int .i64 t240, .int .i64 t241, .int .i64 t242] 32 (0, 0)) (by (with_reducible repeat (first | refine blk_drewN ?_ _ | refine blk_drew ?_ | refine blk_alloc ?_ _)); refine blk_put (cs := #[.int .i64 t238, .int .i64 t239, .int .i64 t240, .int .i64 t241, .int .i64 (rd x8_7 x9_4)]) ?_ 4 _ rfl; (with_reducible repeat (first | refine blk_drewN ?_ _ | refine blk_drew ?_ | refine blk_alloc ?_ _)); refine blk_put (cs := #[.int .i64 t238, .int .i64 t239, .int .i64 t240, .int .i64 (Go.bits .and .i64 (a0 / 65536) 31), .int .i64 (rd x8_7 x9_4)]) ?_ 3 _ rfl; (with_reducible repeat (first | refine blk_drewN ?_ _ | refine blk_drew ?_ | refine blk_alloc ?_ _)); refine blk_put (cs := #[.int .i64 t238, .int .i64 t239, .int .i64 x238002_45, .int .i64 (Go.bits .and .i64 (a0 / 65536) 31), .int .i64 (rd x8_7 x9_4)]) ?_ 2 _ rfl; (with_reducible repeat (first | refine blk_drewN ?_ _ | refine blk_drew ?_ | refine blk_alloc ?_ _)); refine blk_put (cs := #[.int .i64 t238, .int .i64 x238001_49, .int .i64 x238002_45, .int .i64 (Go.bits .and .i64 (a0 / 65536) 31), .int .i64 (rd x8_7 x9_4)]) ?_ 1 _ rfl; (with_reducible repeat (first | refine blk_drewN ?_ _ | refine blk_drew ?_ | refine blk_alloc ?_ _)); refine blk_put (cs := #[.int .i64 x7_2, .int .i64 x238001_49, .int .i64 x238002_45, .int .i64 (Go.bits .and .i64 (a0 / 65536) 31), .int .i64 (rd x8_7 x9_4)]) ?_ 0 _ rfl; (with_reducible repeat (first | refine blk_drewN ?_ _ | refine blk_drew ?_ | refine blk_alloc ?_ _)); exact BK237.out) hb); have n3_ := Aside0.mk (below_step (by repeat (first | (with_reducible first | exact HB.out | apply below_alloc | apply pw_below_drewN | apply below_drew1 | refine below_set ?_ GE214.out | refine below_set ?_ GE237.out) | exact HB.out)) hb); clear HO_8; clear BK214; clear BK237; clear HB; have HO_8 := n0_; have BK214 := n1_; have BK237 := n2_; have HB := n3_; clear n0_ n1_ n2_ n3_; (try clear hb); (try clear hb2); (try clear hk); (try clear hi)))
                    go_roundg kj49
                    case measure => have := HJ1.out; have := HK2.out; have := HJ7.out; have := HK4.out; have := HJ39.out; have := HJ45.out; have := HJ49.out; omega
                    case rel => exact ⟨(wrap64 (x9_4 + 1)), (x215000_4), (x215001_4), (x215002_4), (x215003_4), (x215004_4), (by first | rfl | (simp; done) | (simp [*]; done)), H', ⟨by have := HJ1.out; have := HK2.out; have := HJ7.out; have := HK4.out; have := HJ39.out; have := HJ45.out; have := HJ49.out; omega⟩, ⟨by (with_reducible repeat (first | apply Kd.R_alloc | apply Kd.R_drewN | apply Kd.R_drew)); exact HO_8.out⟩, ⟨by (with_reducible repeat (first | refine blk_drewN ?_ _ | refine blk_drew ?_ | refine blk_alloc ?_ _)); exact BK214.out⟩, ⟨by repeat (first | (with_reducible first | exact HB.out | apply below_alloc | apply pw_below_drewN | apply below_drew1 | refine below_set ?_ GE214.out | refine below_set ?_ GE237.out) | exact HB.out)⟩⟩
            ·
             rw [if_neg c39] at H
             exact absurd H (by simp)
           ·
            rw [if_neg c38] at H
            have c38b0 : decide (x9_4 < (x8_7.length : Int)) = false := decide_eq_false c38
            clear c38
            have H' := Aside0.mk H
            clear H
            obtain ⟨Ao69, co69, eo69⟩ := Kd.R_slice HO_8.out
            subst eo69
            go_wp2
            go_roundg k4
            case measure => have := HJ1.out; have := HK2.out; have := HJ7.out; have := HK4.out; omega
            case rel => exact ⟨(wrap64 (x7_2 + 1)), (x215000_4), (x215001_4), (x215002_4), (x215003_4), (x215004_4), (by first | rfl | (simp; done) | (simp [*]; done)), H', ⟨by have := HJ1.out; have := HK2.out; have := HJ7.out; have := HK4.out; omega⟩, ⟨by (with_reducible repeat (first | refine blk_drewN ?_ _ | refine blk_drew ?_ | refine blk_alloc ?_ _)); exact BK214.out⟩, ⟨by repeat (first | (with_reducible first | exact HB.out | apply below_alloc | apply pw_below_drewN | apply below_drew1 | refine below_set ?_ GE214.out) | exact HB.out)⟩⟩
      ·
       rw [if_neg c7] at H
       have c7b0 : decide (x7_2 ≤ 26) = false := decide_eq_false c7
       clear c7
       simp only [Option.some.injEq, Prod.mk.injEq] at H
       obtain ⟨rfl, rfl, rfl, rfl, rfl, rfl⟩ := H
       have hcz70_0 : wr.cell? ⟨gb214, 0, none⟩ = some (.int .i64 x215000_2) := (blk_cell BK214.out 0).trans rfl
       have hcz70_1 : wr.cell? ⟨gb214, 1, none⟩ = some (.int .i64 x215001_2) := (blk_cell BK214.out 1).trans rfl
       have hcz70_2 : wr.cell? ⟨gb214, 2, none⟩ = some (.int .i64 x215002_2) := (blk_cell BK214.out 2).trans rfl
       have hcz70_3 : wr.cell? ⟨gb214, 3, none⟩ = some (.int .i64 x215003_2) := (blk_cell BK214.out 3).trans rfl
       have hcz70_4 : wr.cell? ⟨gb214, 4, none⟩ = some (.int .i64 x215004_2) := (blk_cell BK214.out 4).trans rfl
       have hfz70_0 := blk_frozen BK214.out 0
       have hfz70_1 := blk_frozen BK214.out 1
       have hfz70_2 := blk_frozen BK214.out 2
       have hfz70_3 := blk_frozen BK214.out 3
       have hfz70_4 := blk_frozen BK214.out 4
       go_wp2
       refine bodyPost_ret (results_ct rfl _ _ gb214 32 #[.int .i64 0, .int .i64 0, .int .i64 0, .int .i64 0, .int .i64 0] (0, 0) _ rfl (by (with_reducible repeat (first | refine blk_drewN ?_ _ | refine blk_drew ?_ | refine blk_alloc ?_ _)); refine blk_put (cs := #[.int .i64 0, .int .i64 0, .int .i64 0, .int .i64 0, .int .i64 x215004_2]) ?_ 4 _ rfl; (with_reducible repeat (first | refine blk_drewN ?_ _ | refine blk_drew ?_ | refine blk_alloc ?_ _)); refine blk_put (cs := #[.int .i64 0, .int .i64 0, .int .i64 0, .int .i64 x215003_2, .int .i64 x215004_2]) ?_ 3 _ rfl; (with_reducible repeat (first | refine blk_drewN ?_ _ | refine blk_drew ?_ | refine blk_alloc ?_ _)); refine blk_put (cs := #[.int .i64 0, .int .i64 0, .int .i64 x215002_2, .int .i64 x215003_2, .int .i64 x215004_2]) ?_ 2 _ rfl; (with_reducible repeat (first | refine blk_drewN ?_ _ | refine blk_drew ?_ | refine blk_alloc ?_ _)); refine blk_put (cs := #[.int .i64 0, .int .i64 x215001_2, .int .i64 x215002_2, .int .i64 x215003_2, .int .i64 x215004_2]) ?_ 1 _ rfl; (with_reducible repeat (first | refine blk_drewN ?_ _ | refine blk_drew ?_ | refine blk_alloc ?_ _)); refine blk_put (cs := #[.int .i64 x215000_2, .int .i64 x215001_2, .int .i64 x215002_2, .int .i64 x215003_2, .int .i64 x215004_2]) ?_ 0 _ rfl; (with_reducible repeat (first | refine blk_drewN ?_ _ | refine blk_drew ?_ | refine blk_alloc ?_ _)); exact BK214.out) Try.underlying32 rfl (by kernel_rfl)) rfl ?_
       exact ⟨by first | rfl | (simp [errW_none, errW_some] <;> rfl) | (simp [*, errW_none, errW_some] <;> rfl), by repeat (first | (with_reducible first | exact HB.out | apply below_alloc | apply pw_below_drewN | apply below_drew1 | refine below_set ?_ GE214.out) | exact HB.out)⟩

end Go.Proofs.Ythkbncoklgpobaa.QArmDecodes
