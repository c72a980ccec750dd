/- Several texts of this claim in one: each is told where it begins. -/
import Derived.Test.YtpahjllcomejbaaBareH
import Derived.Test.YtpahjllcomejbaaPX86Encodesx0
import Derived.Test.YtpahjllcomejbaaWMore
import Derived.Deep.RegionWith
import Derived.Deep.RegionHeld3
import Derived.Deep.DeepCutAuto
/- An instruction with its own fields alone, as the program and the reference tell it; no condition. -/
set_option linter.unusedVariables false
set_option linter.unusedSimpArgs false
namespace Go.Proofs.Ytpahjllcomejbaa
open Go.RowKit Go.MapKept
open Go.Proofs.YtpahjllcomejbaaW.PrintWords Go.Proofs.YtpahjllcomejbaaW.PrintLast Go.Proofs.YtpahjllcomejbaaW.PrintMore

abbrev X6 := Int × Int × Int × Int × Int × Int
def bareS (kd d s n i wd : Int) : X6 :=
  if kd = 17 ∨ kd = 28 ∨ kd = 29 then (kd, 0, 0, 0, 0, 0)
  else if kd = 21 then (kd, 0, 0, 0, i, 0)
  else if kd = 22 then (kd, d, 0, 0, i, 0)
  else if kd = 2 then (kd, d, 0, 0, 0, wd)
  else if kd = 18 ∨ kd = 19 ∨ kd = 20 then (kd, d, s, n, i, 0)
  else if kd = 26 ∨ kd = 27 then (kd, d, s, n, 0, 0)
  else if kd = 11 ∨ kd = 12 ∨ kd = 13 ∨ kd = 14 ∨ kd = 15 ∨ kd = 16 ∨ kd = 23 ∨ kd = 24 ∨ kd = 25 then (kd, d, 0, 0, 0, 0)
  else (kd, d, s, 0, 0, 0)
theorem below_fr {w W : World} (h : Below w.heap.size w W) : Fr [] [] w W := ⟨h.os, h.tape, h.output, h.size, fun k hk _ => h.block k hk, fun _ hk => by simp at hk⟩
theorem bare_calls (kd d s n i wd : Int) (w : World) : Calls Try.prog 12 #[.agg #[.int .i64 kd, .int .i64 d, .int .i64 s, .int .i64 n, .int .i64 i, .int .u64 wd]] w
    (TwoPost w (.agg #[.int .i64 (bareS kd d s n i wd).1, .int .i64 (bareS kd d s n i wd).2.1, .int .i64 (bareS kd d s n i wd).2.2.1, .int .i64 (bareS kd d s n i wd).2.2.2.1, .int .i64 (bareS kd d s n i wd).2.2.2.2.1, .int .u64 (bareS kd d s n i wd).2.2.2.2.2])) := by
  by_cases c17 : kd = 17
  · subst c17; exact hbare_17 d s n i wd w
  by_cases c28 : kd = 28
  · subst c28; exact hbare_28 d s n i wd w
  by_cases c29 : kd = 29
  · subst c29; exact hbare_29 d s n i wd w
  by_cases c21 : kd = 21
  · subst c21; exact hbare_21 d s n i wd w
  by_cases c22 : kd = 22
  · subst c22; exact hbare_22 d s n i wd w
  by_cases c2 : kd = 2
  · subst c2; exact hbare_2 d s n i wd w
  by_cases c18 : kd = 18
  · subst c18; exact hbare_18 d s n i wd w
  by_cases c19 : kd = 19
  · subst c19; exact hbare_19 d s n i wd w
  by_cases c20 : kd = 20
  · subst c20; exact hbare_20 d s n i wd w
  by_cases c26 : kd = 26
  · subst c26; exact hbare_26 d s n i wd w
  by_cases c27 : kd = 27
  · subst c27; exact hbare_27 d s n i wd w
  by_cases c11 : kd = 11
  · subst c11; exact hbare_11 d s n i wd w
  by_cases c12 : kd = 12
  · subst c12; exact hbare_12 d s n i wd w
  by_cases c13 : kd = 13
  · subst c13; exact hbare_13 d s n i wd w
  by_cases c14 : kd = 14
  · subst c14; exact hbare_14 d s n i wd w
  by_cases c15 : kd = 15
  · subst c15; exact hbare_15 d s n i wd w
  by_cases c16 : kd = 16
  · subst c16; exact hbare_16 d s n i wd w
  by_cases c23 : kd = 23
  · subst c23; exact hbare_23 d s n i wd w
  by_cases c24 : kd = 24
  · subst c24; exact hbare_24 d s n i wd w
  by_cases c25 : kd = 25
  · subst c25; exact hbare_25 d s n i wd w
  have e : bareS kd d s n i wd = (kd, d, s, 0, 0, 0) := by simp [bareS, c17, c28, c29, c21, c22, c2, c18, c19, c20, c26, c27, c11, c12, c13, c14, c15, c16, c23, c24, c25]
  rw [e]
  exact hbare_x kd d s n i wd ⟨c17, c28, c29, c21, c22, c2, c18, c19, c20, c26, c27, c11, c12, c13, c14, c15, c16, c23, c24, c25⟩ w
end Go.Proofs.Ytpahjllcomejbaa

/- What the program encodes; condition: the instructions lie in memory, and their bytes fit. -/
set_option linter.unusedVariables false
set_option linter.unusedSimpArgs false
namespace Go.Proofs.Ytpahjllcomejbaa
open Go.RowKit Go.MapKept
open Go.Proofs.YtpahjllcomejbaaW.PrintWords Go.Proofs.YtpahjllcomejbaaW.PrintLast Go.Proofs.YtpahjllcomejbaaW.PrintMore
open PX86Encodes (S32 k32 z32)

theorem eqX (d : Nat) (w : World) (x0 y0 x1 y1 x2 y2 x3 y3 x4 y4 x5 y5 : Int) :
    (Op.equalIn (d + 2) 32 (.agg #[.int .i64 x0, .int .i64 x1, .int .i64 x2, .int .i64 x3, .int .i64 x4, .int .u64 x5]) (.agg #[.int .i64 y0, .int .i64 y1, .int .i64 y2, .int .i64 y3, .int .i64 y4, .int .u64 y5])).run Try.prog w = .ok (x0 == y0 && (x1 == y1 && (x2 == y2 && (x3 == y3 && (x4 == y4 && x5 == y5))))) w := by
  refine eqA_of Try.underlying32 (by kernel_rfl) ?_
  refine eqf_cons (by rfl) (by go_simp; rfl) (by go_simp; rfl) (by go_simp) ?_
  refine eqf_cons (by rfl) (by go_simp; rfl) (by go_simp; rfl) (by go_simp) ?_
  refine eqf_cons (by rfl) (by go_simp; rfl) (by go_simp; rfl) (by go_simp) ?_
  refine eqf_cons (by rfl) (by go_simp; rfl) (by go_simp; rfl) (by go_simp) ?_
  refine eqf_cons (by rfl) (by go_simp; rfl) (by go_simp; rfl) (by go_simp) ?_
  exact eqf_last (by rfl) (by go_simp; rfl) (by go_simp; rfl) (by go_simp)
def sameX (p q : X6) : Bool := p.1 == q.1 && (p.2.1 == q.2.1 && (p.2.2.1 == q.2.2.1 && (p.2.2.2.1 == q.2.2.2.1 && (p.2.2.2.2.1 == q.2.2.2.2.1 && p.2.2.2.2.2 == q.2.2.2.2.2))))
theorem sameX_iff (p q : X6) : sameX p q = true ↔ p = q := by
  obtain ⟨a, b, c, d, e, f⟩ := p
  obtain ⟨a', b', c', d', e', f'⟩ := q
  simp [sameX]
def sx (x : S32) : X6 := (x.f0, x.f1, x.f2, x.f3, x.f4, x.f5)
def layX (x : S32) : List Int × Bool := layS x.f0 x.f1 x.f2 x.f3 x.f4 x.f5
def bareX (x : S32) : X6 := bareS x.f0 x.f1 x.f2 x.f3 x.f4 x.f5
/-- May an instruction be laid? -/
def goodX (x : S32) : Bool := !(layX x).2 && sameX (sx x) (bareX x)
def encX : List S32 → Option (List Int)
  | [] => some []
  | x :: l => if goodX x = true then (encX l).map ((layX x).1 ++ ·) else none
theorem encX_snoc : ∀ (l : List S32) (x : S32), encX (l ++ [x]) = (encX l).bind fun bs => if goodX x = true then some (bs ++ (layX x).1) else none
  | [], x => by simp [encX]
  | y :: l, x => by
    rw [List.cons_append, encX, encX, encX_snoc l x]
    by_cases hy : goodX y = true
    · rw [if_pos hy, if_pos hy]
      cases encX l with
      | none => rfl
      | some bs =>
        simp only [Option.bind_some, Option.map_some]
        by_cases hx : goodX x = true <;> simp [hx]
    · rw [if_neg hy, if_neg hy]; rfl
theorem encX_bad : ∀ (l : List S32) (i : Nat) (h : i < l.length), goodX l[i] = false → encX l = none
  | x :: l, 0, h, hg => by rw [encX, if_neg]; simpa using hg
  | x :: l, i + 1, h, hg => by
    rw [encX, encX_bad l i (by simpa using h) (by simpa using hg)]
    split <;> rfl
theorem b4_len (n : Int) : (b4 n).length = 4 := rfl
theorem ite20 {c : Prop} [Decidable c] {a b : List Int × Bool} (ha : a.1.length ≤ 20) (hb : b.1.length ≤ 20) : (if c then a else b).1.length ≤ 20 := by split <;> assumption
theorem layS_len (kd d s n i wd : Int) : (layS kd d s n i wd).1.length ≤ 20 := by
  have h1 := memB_len d s i
  have h2 := memB_len s d i
  have h3 := readsB_len n false
  have h4 := readsB_len n true
  have h5 : (leB wd 8).length = 8 := by simp [leB]
  have h6 : (storeB d s n i).length ≤ 12 := by unfold storeB; split <;> simp <;> omega
  unfold layS
  repeat' (refine ite20 ?_ ?_)
  all_goals first
    | (simp [b4_len]; done)
    | (simp [b4_len]; omega)
    | (simp; omega)
def encR (o : Option (List Int)) : ByteArray × Int := match o with
  | some bs => (strOfNums bs, 0)
  | none => (⟨#[]⟩, 30)
def EncPost (w : World) (p : ByteArray × Int) (e : Ending) (W : World) : Prop := e = .returned (.tuple #[.string p.1, .int .i64 p.2]) ∧ Below w.heap.size w W
theorem x86_elem {w : World} {A : Option Addr} {n : Nat} {xs : List S32} (h : Kd.C k32 w A n xs) (i : Nat) (hi : i < n) (hx : i < xs.length) : ∃ b o, A = some ⟨b, o, none⟩ ∧
    w.cell? ⟨b, o + i * 6, none⟩ = some (.int .i64 xs[i].f0) ∧ w.cell? ⟨b, o + i * 6 + 1, none⟩ = some (.int .i64 xs[i].f1) ∧ w.cell? ⟨b, o + i * 6 + 2, none⟩ = some (.int .i64 xs[i].f2) ∧
    w.cell? ⟨b, o + i * 6 + 3, none⟩ = some (.int .i64 xs[i].f3) ∧ w.cell? ⟨b, o + i * 6 + 4, none⟩ = some (.int .i64 xs[i].f4) ∧ w.cell? ⟨b, o + i * 6 + 5, none⟩ = some (.int .u64 xs[i].f5) := by
  obtain ⟨hl, hm, hc⟩ := h
  obtain ⟨ad, rfl, hc2⟩ := hc (by omega)
  obtain ⟨c, hcl, hk, hcell⟩ := hc2 i xs[i] (List.getElem?_eq_getElem hx)
  have hk' : c = [.int .i64 xs[i].f0, .int .i64 xs[i].f1, .int .i64 xs[i].f2, .int .i64 xs[i].f3, .int .i64 xs[i].f4, .int .u64 xs[i].f5] := by
    obtain ⟨c0, r0, rfl, rfl, c1, r1, rfl, rfl, c2, r2, rfl, rfl, c3, r3, rfl, rfl, c4, c5, rfl, rfl, rfl⟩ := hk
    rfl
  subst hk'
  obtain ⟨b, o, sp⟩ := ad
  have hsp : sp = none := by
    obtain ⟨c', hcl', hk', hcell'⟩ := hc2 0 xs[0] (List.getElem?_eq_getElem (by omega))
    obtain ⟨u, hu⟩ : ∃ u, c'[0]? = some u := ⟨c'[0]'(by rw [hcl']; decide), List.getElem?_eq_getElem _⟩
    have := World.cell?_spot (hcell' 0 u hu)
    simpa [Addr.add] using this
  subst hsp
  have key : ∀ m, (⟨b, o, none⟩ : Addr).add m = ⟨b, o + m, none⟩ := by
    intro m
    unfold Addr.add
    split <;> simp_all
  refine ⟨b, o, rfl, ?_, ?_, ?_, ?_, ?_, ?_⟩
  · have := hcell 0 _ rfl; rw [key] at this; exact this
  · have := hcell 1 _ rfl; rw [key] at this; exact this
  · have := hcell 2 _ rfl; rw [key] at this; exact this
  · have := hcell 3 _ rfl; rw [key] at this; exact this
  · have := hcell 4 _ rfl; rw [key] at this; exact this
  · have := hcell 5 _ rfl; rw [key] at this; exact this
end Go.Proofs.Ytpahjllcomejbaa
