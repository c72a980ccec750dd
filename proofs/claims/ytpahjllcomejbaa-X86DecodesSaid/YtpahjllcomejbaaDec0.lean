/- Several texts of this claim in one: each is told where it begins. -/
import Derived.Test.YtpahjllcomejbaaBareH
import Derived.Test.YtpahjllcomejbaaPX86Encodesx0
import Derived.Test.YtpahjllcomejbaaWMore
import Derived.Test.YtpahjllcomejbaaWEqStruct
import Derived.Deep.RegionWith
import Derived.Deep.RegionHeld3
import Derived.Deep.DeepCutAuto
import Derived.Test.YtpahjllcomejbaaRd
/- An instruction with its own fields alone, as the program and the reference tell it; no condition. -/
set_option linter.unusedVariables false
set_option linter.unusedSimpArgs false
namespace Go.Proofs.Ytpahjllcomejbaa
open Go.RowKit Go.MapKept
open Go.Proofs.YtpahjllcomejbaaW.PrintWords Go.Proofs.YtpahjllcomejbaaW.PrintLast Go.Proofs.YtpahjllcomejbaaW.PrintMore

abbrev X6 := Int × Int × Int × Int × Int × Int
def bareS (kd d s n i wd : Int) : X6 :=
  if kd = 17 ∨ kd = 28 ∨ kd = 29 then (kd, 0, 0, 0, 0, 0)
  else if kd = 21 then (kd, 0, 0, 0, i, 0)
  else if kd = 22 then (kd, d, 0, 0, i, 0)
  else if kd = 2 then (kd, d, 0, 0, 0, wd)
  else if kd = 18 ∨ kd = 19 ∨ kd = 20 then (kd, d, s, n, i, 0)
  else if kd = 26 ∨ kd = 27 then (kd, d, s, n, 0, 0)
  else if kd = 11 ∨ kd = 12 ∨ kd = 13 ∨ kd = 14 ∨ kd = 15 ∨ kd = 16 ∨ kd = 23 ∨ kd = 24 ∨ kd = 25 then (kd, d, 0, 0, 0, 0)
  else (kd, d, s, 0, 0, 0)
theorem below_fr {w W : World} (h : Below w.heap.size w W) : Fr [] [] w W := ⟨h.os, h.tape, h.output, h.size, fun k hk _ => h.block k hk, fun _ hk => by simp at hk⟩
theorem bare_calls (kd d s n i wd : Int) (w : World) : Calls Try.prog 12 #[.agg #[.int .i64 kd, .int .i64 d, .int .i64 s, .int .i64 n, .int .i64 i, .int .u64 wd]] w
    (TwoPost w (.agg #[.int .i64 (bareS kd d s n i wd).1, .int .i64 (bareS kd d s n i wd).2.1, .int .i64 (bareS kd d s n i wd).2.2.1, .int .i64 (bareS kd d s n i wd).2.2.2.1, .int .i64 (bareS kd d s n i wd).2.2.2.2.1, .int .u64 (bareS kd d s n i wd).2.2.2.2.2])) := by
  by_cases c17 : kd = 17
  · subst c17; exact hbare_17 d s n i wd w
  by_cases c28 : kd = 28
  · subst c28; exact hbare_28 d s n i wd w
  by_cases c29 : kd = 29
  · subst c29; exact hbare_29 d s n i wd w
  by_cases c21 : kd = 21
  · subst c21; exact hbare_21 d s n i wd w
  by_cases c22 : kd = 22
  · subst c22; exact hbare_22 d s n i wd w
  by_cases c2 : kd = 2
  · subst c2; exact hbare_2 d s n i wd w
  by_cases c18 : kd = 18
  · subst c18; exact hbare_18 d s n i wd w
  by_cases c19 : kd = 19
  · subst c19; exact hbare_19 d s n i wd w
  by_cases c20 : kd = 20
  · subst c20; exact hbare_20 d s n i wd w
  by_cases c26 : kd = 26
  · subst c26; exact hbare_26 d s n i wd w
  by_cases c27 : kd = 27
  · subst c27; exact hbare_27 d s n i wd w
  by_cases c11 : kd = 11
  · subst c11; exact hbare_11 d s n i wd w
  by_cases c12 : kd = 12
  · subst c12; exact hbare_12 d s n i wd w
  by_cases c13 : kd = 13
  · subst c13; exact hbare_13 d s n i wd w
  by_cases c14 : kd = 14
  · subst c14; exact hbare_14 d s n i wd w
  by_cases c15 : kd = 15
  · subst c15; exact hbare_15 d s n i wd w
  by_cases c16 : kd = 16
  · subst c16; exact hbare_16 d s n i wd w
  by_cases c23 : kd = 23
  · subst c23; exact hbare_23 d s n i wd w
  by_cases c24 : kd = 24
  · subst c24; exact hbare_24 d s n i wd w
  by_cases c25 : kd = 25
  · subst c25; exact hbare_25 d s n i wd w
  have e : bareS kd d s n i wd = (kd, d, s, 0, 0, 0) := by simp [bareS, c17, c28, c29, c21, c22, c2, c18, c19, c20, c26, c27, c11, c12, c13, c14, c15, c16, c23, c24, c25]
  rw [e]
  exact hbare_x kd d s n i wd ⟨c17, c28, c29, c21, c22, c2, c18, c19, c20, c26, c27, c11, c12, c13, c14, c15, c16, c23, c24, c25⟩ w
end Go.Proofs.Ytpahjllcomejbaa

/- What the program encodes; condition: the instructions lie in memory, and their bytes fit. -/
set_option linter.unusedVariables false
set_option linter.unusedSimpArgs false
namespace Go.Proofs.Ytpahjllcomejbaa
open Go.RowKit Go.MapKept
open Go.Proofs.YtpahjllcomejbaaW.PrintWords Go.Proofs.YtpahjllcomejbaaW.PrintLast Go.Proofs.YtpahjllcomejbaaW.PrintMore
open PX86Encodes (S32 k32 z32)

theorem eqX (d : Nat) (w : World) (x0 y0 x1 y1 x2 y2 x3 y3 x4 y4 x5 y5 : Int) :
    (Op.equalIn (d + 2) 32 (.agg #[.int .i64 x0, .int .i64 x1, .int .i64 x2, .int .i64 x3, .int .i64 x4, .int .u64 x5]) (.agg #[.int .i64 y0, .int .i64 y1, .int .i64 y2, .int .i64 y3, .int .i64 y4, .int .u64 y5])).run Try.prog w = .ok (x0 == y0 && (x1 == y1 && (x2 == y2 && (x3 == y3 && (x4 == y4 && x5 == y5))))) w := by
  refine eqA_of Try.underlying32 (by kernel_rfl) ?_
  refine eqf_cons (by rfl) (by go_simp; rfl) (by go_simp; rfl) (by go_simp) ?_
  refine eqf_cons (by rfl) (by go_simp; rfl) (by go_simp; rfl) (by go_simp) ?_
  refine eqf_cons (by rfl) (by go_simp; rfl) (by go_simp; rfl) (by go_simp) ?_
  refine eqf_cons (by rfl) (by go_simp; rfl) (by go_simp; rfl) (by go_simp) ?_
  refine eqf_cons (by rfl) (by go_simp; rfl) (by go_simp; rfl) (by go_simp) ?_
  exact eqf_last (by rfl) (by go_simp; rfl) (by go_simp; rfl) (by go_simp)
def sameX (p q : X6) : Bool := p.1 == q.1 && (p.2.1 == q.2.1 && (p.2.2.1 == q.2.2.1 && (p.2.2.2.1 == q.2.2.2.1 && (p.2.2.2.2.1 == q.2.2.2.2.1 && p.2.2.2.2.2 == q.2.2.2.2.2))))
theorem sameX_iff (p q : X6) : sameX p q = true ↔ p = q := by
  obtain ⟨a, b, c, d, e, f⟩ := p
  obtain ⟨a', b', c', d', e', f'⟩ := q
  simp [sameX]
def sx (x : S32) : X6 := (x.f0, x.f1, x.f2, x.f3, x.f4, x.f5)
def layX (x : S32) : List Int × Bool := layS x.f0 x.f1 x.f2 x.f3 x.f4 x.f5
def bareX (x : S32) : X6 := bareS x.f0 x.f1 x.f2 x.f3 x.f4 x.f5
/-- May an instruction be laid? -/
def goodX (x : S32) : Bool := !(layX x).2 && sameX (sx x) (bareX x)
def encX : List S32 → Option (List Int)
  | [] => some []
  | x :: l => if goodX x = true then (encX l).map ((layX x).1 ++ ·) else none
theorem encX_snoc : ∀ (l : List S32) (x : S32), encX (l ++ [x]) = (encX l).bind fun bs => if goodX x = true then some (bs ++ (layX x).1) else none
  | [], x => by simp [encX]
  | y :: l, x => by
    rw [List.cons_append, encX, encX, encX_snoc l x]
    by_cases hy : goodX y = true
    · rw [if_pos hy, if_pos hy]
      cases encX l with
      | none => rfl
      | some bs =>
        simp only [Option.bind_some, Option.map_some]
        by_cases hx : goodX x = true <;> simp [hx]
    · rw [if_neg hy, if_neg hy]; rfl
theorem encX_bad : ∀ (l : List S32) (i : Nat) (h : i < l.length), goodX l[i] = false → encX l = none
  | x :: l, 0, h, hg => by rw [encX, if_neg]; simpa using hg
  | x :: l, i + 1, h, hg => by
    rw [encX, encX_bad l i (by simpa using h) (by simpa using hg)]
    split <;> rfl
theorem b4_len (n : Int) : (b4 n).length = 4 := rfl
theorem ite20 {c : Prop} [Decidable c] {a b : List Int × Bool} (ha : a.1.length ≤ 20) (hb : b.1.length ≤ 20) : (if c then a else b).1.length ≤ 20 := by split <;> assumption
theorem layS_len (kd d s n i wd : Int) : (layS kd d s n i wd).1.length ≤ 20 := by
  have h1 := memB_len d s i
  have h2 := memB_len s d i
  have h3 := readsB_len n false
  have h4 := readsB_len n true
  have h5 : (leB wd 8).length = 8 := by simp [leB]
  have h6 : (storeB d s n i).length ≤ 12 := by unfold storeB; split <;> simp <;> omega
  unfold layS
  repeat' (refine ite20 ?_ ?_)
  all_goals first
    | (simp [b4_len]; done)
    | (simp [b4_len]; omega)
    | (simp; omega)
def encR (o : Option (List Int)) : ByteArray × Int := match o with
  | some bs => (strOfNums bs, 0)
  | none => (⟨#[]⟩, 30)
def EncPost (w : World) (p : ByteArray × Int) (e : Ending) (W : World) : Prop := e = .returned (.tuple #[.string p.1, .int .i64 p.2]) ∧ Below w.heap.size w W
theorem x86_elem {w : World} {A : Option Addr} {n : Nat} {xs : List S32} (h : Kd.C k32 w A n xs) (i : Nat) (hi : i < n) (hx : i < xs.length) : ∃ b o, A = some ⟨b, o, none⟩ ∧
    w.cell? ⟨b, o + i * 6, none⟩ = some (.int .i64 xs[i].f0) ∧ w.cell? ⟨b, o + i * 6 + 1, none⟩ = some (.int .i64 xs[i].f1) ∧ w.cell? ⟨b, o + i * 6 + 2, none⟩ = some (.int .i64 xs[i].f2) ∧
    w.cell? ⟨b, o + i * 6 + 3, none⟩ = some (.int .i64 xs[i].f3) ∧ w.cell? ⟨b, o + i * 6 + 4, none⟩ = some (.int .i64 xs[i].f4) ∧ w.cell? ⟨b, o + i * 6 + 5, none⟩ = some (.int .u64 xs[i].f5) := by
  obtain ⟨hl, hm, hc⟩ := h
  obtain ⟨ad, rfl, hc2⟩ := hc (by omega)
  obtain ⟨c, hcl, hk, hcell⟩ := hc2 i xs[i] (List.getElem?_eq_getElem hx)
  have hk' : c = [.int .i64 xs[i].f0, .int .i64 xs[i].f1, .int .i64 xs[i].f2, .int .i64 xs[i].f3, .int .i64 xs[i].f4, .int .u64 xs[i].f5] := by
    obtain ⟨c0, r0, rfl, rfl, c1, r1, rfl, rfl, c2, r2, rfl, rfl, c3, r3, rfl, rfl, c4, c5, rfl, rfl, rfl⟩ := hk
    rfl
  subst hk'
  obtain ⟨b, o, sp⟩ := ad
  have hsp : sp = none := by
    obtain ⟨c', hcl', hk', hcell'⟩ := hc2 0 xs[0] (List.getElem?_eq_getElem (by omega))
    obtain ⟨u, hu⟩ : ∃ u, c'[0]? = some u := ⟨c'[0]'(by rw [hcl']; decide), List.getElem?_eq_getElem _⟩
    have := World.cell?_spot (hcell' 0 u hu)
    simpa [Addr.add] using this
  subst hsp
  have key : ∀ m, (⟨b, o, none⟩ : Addr).add m = ⟨b, o + m, none⟩ := by
    intro m
    unfold Addr.add
    split <;> simp_all
  refine ⟨b, o, rfl, ?_, ?_, ?_, ?_, ?_, ?_⟩
  · have := hcell 0 _ rfl; rw [key] at this; exact this
  · have := hcell 1 _ rfl; rw [key] at this; exact this
  · have := hcell 2 _ rfl; rw [key] at this; exact this
  · have := hcell 3 _ rfl; rw [key] at this; exact this
  · have := hcell 4 _ rfl; rw [key] at this; exact this
  · have := hcell 5 _ rfl; rw [key] at this; exact this
end Go.Proofs.Ytpahjllcomejbaa

/- The program's Encode; condition: the instructions lie in memory, and their bytes fit. -/
set_option linter.unusedVariables false
set_option linter.unusedSimpArgs false
namespace Go.Proofs.Ytpahjllcomejbaa
open Go.RowKit Go.MapKept
open Go.Proofs.YtpahjllcomejbaaW.PrintWords Go.Proofs.YtpahjllcomejbaaW.PrintLast Go.Proofs.YtpahjllcomejbaaW.PrintMore
open PX86Encodes (S32 k32 z32)
attribute [local go_sem high] eqX

theorem x86_elem' {w : World} {A : Option Addr} {n : Nat} {xs : List S32} (h : Kd.C k32 w A n xs) (i : Nat) (hi : i < n) (hx : xs.length = n) : ∃ b o k d s m j u, A = some ⟨b, o, none⟩ ∧ xs[i]? = some ⟨k, d, s, m, j, u⟩ ∧
    w.cell? ⟨b, o + i * 6, none⟩ = some (.int .i64 k) ∧ w.cell? ⟨b, o + i * 6 + 1, none⟩ = some (.int .i64 d) ∧ w.cell? ⟨b, o + i * 6 + 2, none⟩ = some (.int .i64 s) ∧
    w.cell? ⟨b, o + i * 6 + 3, none⟩ = some (.int .i64 m) ∧ w.cell? ⟨b, o + i * 6 + 4, none⟩ = some (.int .i64 j) ∧ w.cell? ⟨b, o + i * 6 + 5, none⟩ = some (.int .u64 u) := by
  have hx' : i < xs.length := by omega
  obtain ⟨b, o, e, h1⟩ := x86_elem h i hi hx'
  exact ⟨b, o, _, _, _, _, _, _, e, List.getElem?_eq_getElem hx', h1⟩
def EncRel (w wb : World) (x : Nat) (xs : List S32) (v : Value) (wr : World) : Prop := ∃ i : Nat, i ≤ xs.length ∧ v = .int .i64 i ∧ ∃ bs F, encX (xs.take i) = some bs ∧ bs.length ≤ 20 * i ∧ Cod wr x F bs false ∧ Fr [x] F wb wr
set_option maxRecDepth 100000 in
set_option maxHeartbeats 4000000 in
theorem xenc_calls (A : Option Addr) (cap : Nat) (xs : List S32) (w : World) (hc : Kd.C k32 w A xs.length xs) (hcap : xs.length ≤ cap) (hA : ∀ b o, 0 < xs.length → A = some ⟨b, o, none⟩ → b < w.heap.size)
    (hw : ∀ x ∈ xs, 0 ≤ x.f5 ∧ x.f5 < 18446744073709551616) (hl : xs.length * 48 ≤ 140737488355328) :
    Calls Try.prog 6 #[.slice A xs.length cap] w (EncPost w (encR (encX xs))) := by
  have hu := Try.underlying22
  have hu1 := Try.underlying39
  have hu2 := Try.underlying41
  have hu3 := Try.underlying32
  have HC := hide hc
  have HA := hide hA
  have HW := hide hw
  have hn0 : xs.length ≤ 2932031007403 := by omega
  have HB : Hid (Cod (w.alloc (.cells #[.slice none 0 0, .bool false] 41)) w.heap.size [w.heap.size] [] false) := hide ⟨.slice none 0 0, heap_alloc_new w _, ⟨rfl, .inl ⟨rfl, rfl⟩⟩, by simp [Value.ownBlock], by simp [Value.ownBlock]⟩
  have HS := hide (show EncRel w (w.alloc (.cells #[.slice none 0 0, .bool false] 41)) w.heap.size xs (.int .i64 0) (w.alloc (.cells #[.slice none 0 0, .bool false] 41)) from ⟨0, Nat.zero_le _, rfl, [], _, rfl, by simp, HB.out, Fr.refl _ _⟩)
  clear hc hA hw
  generalize hnn : xs.length = n at *
  have HN := hide hnn
  clear hnn hl
  go_enter Try.func6, Try.ntmps6
  go_wp2_with fail
  go_loopw [11] (fun v wr => EncRel w (w.alloc (.cells #[.slice none 0 0, .bool false] 41)) w.heap.size xs v wr) (fun v _ => n - (intOf v).toNat)
  case atStart => exact HS.out
  case round =>
    obtain ⟨i, hi, rfl, bs, F, he, hbl, hcod, hfr⟩ := hrel
    rw [HN.out] at hi
    clear HS HB
    have hbelow : Below w.heap.size w wr := by
      have h1 : Fr [] [] w (w.alloc (.cells #[.slice none 0 0, .bool false] 41)) := (Fr.refl [] w).alloc' _
      refine ⟨hfr.os.trans h1.os, hfr.tape.trans h1.tape, hfr.output.trans h1.output, Nat.le_trans h1.size hfr.size, fun k hk => ?_⟩
      rw [hfr.block k (by have := h1.size; omega) (by simp; omega), h1.block k hk (by simp)]
    by_cases hlt : i < n
    · obtain ⟨b, o, k, d, s, m, j, u, rfl, hX, c0, c1, c2, c3, c4, c5⟩ := x86_elem' (Kd.C_below HC.out hbelow) i hlt HN.out
      have hbw := HA.out b o (by omega) rfl
      have hxw := HW.out _ (List.mem_of_getElem? hX)
      have HL := hide (lay_calls (wr.alloc (boxed k d s m j u)) w.heap.size F bs false (hcod.alloc _) k d s m j u hxw (by omega))
      unfold boxed at HL
      have HXX := hide hX
      have HF := hide hfr
      have HCOD := hide hcod
      have HBE := hide hbelow
      have HE := hide (And.intro he hbl)
      have hi0 : 0 ≤ (i : Int) := by omega
      have hil : (i : Int) < n := by omega
      clear hcod hfr hbelow hbw hxw he hbl hX
      have HBN : Hid (wr.heap.size ∉ F) := hide fun hk => by have := HCOD.out.lt _ hk; omega
      have HBR := hide (bare_calls k d s m j u)
      have hgood : goodX ⟨k, d, s, m, j, u⟩ = (!(layS k d s m j u).2 && sameX (k, d, s, m, j, u) (bareS k d s m j u)) := rfl
      have hlx : layX ⟨k, d, s, m, j, u⟩ = layS k d s m j u := rfl
      have hll := layS_len k d s m j u
      have HG := hide hgood
      have HLX := hide hlx
      have HLL := hide hll
      clear hgood hlx hll
      generalize layS k d s m j u = p at *
      obtain ⟨pb, pq⟩ := p
      go_wp2_with fail
      refine HL.out.mono ?_
      rintro e W2 ⟨rfl, F2, hc2, hf2⟩
      have HBX : Hid (W2.heap[wr.heap.size]? = some (boxed k d s m j u)) := hide (hf2.keep (heap_alloc_new wr _) HBN.out)
      have hlt2 : wr.heap.size < W2.heap.size := by have := hf2.size; simp at this; omega
      clear c0 c1 c2 c3 c4 c5
      obtain ⟨c0, c1, c2, c3, c4, c5⟩ := box_at HBX.out
      obtain ⟨v, k0, k1, k2, k3⟩ := hc2.cells
      have HC2 := hide hc2
      have HF2 := hide (HF.out.trans (((Fr.refl F wr).alloc' _).trans hf2))
      have HB2 := hide (show Below w.heap.size w W2 from HBE.out.trans ((hf2.below (B := w.heap.size) (by simp; have := HBE.out.size; omega) (fun q hq => HF.out.from_ (by simp) (by simp) q hq)).trans (Below.refl _ _) |> fun h => ⟨h.os, h.tape, h.output, by have := h.size; simp at this; omega, fun q hq => (h.block q hq).trans (Below.heap_alloc _ _ q (by have := HBE.out.size; omega))⟩))
      clear hc2 hf2
      cases pq with
      | true =>
        have HR : Hid (encX xs = none) := hide (by
          obtain ⟨h1, h2⟩ := List.getElem?_eq_some_iff.1 HXX.out
          exact encX_bad xs i h1 (by rw [h2, HG.out]; rfl))
        simp only [Bool.or_true] at k1
        go_wp2_with fail
        go_quiet (fail)
        go_wp2
        go_ret2
        refine ⟨by rw [HR.out]; rfl, ?_⟩
        exact ⟨HB2.out.os, HB2.out.tape, HB2.out.output, HB2.out.size, HB2.out.block⟩
      | false =>
        simp only [Bool.or_false] at k1
        have HC3 : Hid (∀ W3, Fr [] [] W2 W3 → (W3.cell? ⟨w.heap.size, 1, none⟩ = some (.bool false) ∧ BoxAt W3 wr.heap.size k d s m j u)) := hide fun W3 h3 => by
          refine ⟨?_, box_at (h3.keep HBX.out (by simp))⟩
          obtain ⟨v', q0, q1, q2, q3⟩ := (HC2.out.fr h3).cells
          simpa using q1
        generalize hbs : bareS k d s m j u = r at *
        obtain ⟨r0, r1, r2, r3, r4, r5⟩ := r
        have HBS := hide hbs
        clear hbs
        have HX3 : Hid (∀ W3, Fr [] [] W2 W3 → Below w.heap.size w W3) := hide fun W3 h3 =>
          ⟨h3.os.trans HB2.out.os, h3.tape.trans HB2.out.tape, h3.output.trans HB2.out.output, Nat.le_trans HB2.out.size h3.size, fun q hq => (h3.block q (Nat.lt_of_lt_of_le hq HB2.out.size) (by simp)).trans (HB2.out.block q hq)⟩
        cases hsm : sameX (k, d, s, m, j, u) (r0, r1, r2, r3, r4, r5) with
        | false =>
          have HR : Hid (encX xs = none) := hide (by
            obtain ⟨h1, h2⟩ := List.getElem?_eq_some_iff.1 HXX.out
            exact encX_bad xs i h1 (by rw [h2, HG.out, hsm]; rfl))
          have hq : (k == r0 && (d == r1 && (s == r2 && (m == r3 && (j == r4 && u == r5))))) = false := hsm
          clear hsm
          go_wp2_with fail
          go_region_with (go_at_call 12; refine (HBR.out _).mono ?_; rintro e W3 ⟨rfl, hf3⟩; obtain ⟨e1, e2, e3, e4, e5, e6, e7⟩ := HC3.out W3 ⟨hf3.os, hf3.tape, hf3.output, hf3.size, hf3.block, hf3.foot⟩; have HF3 := hide (HX3.out W3 ⟨hf3.os, hf3.tape, hf3.output, hf3.size, hf3.block, hf3.foot⟩); clear hf3)
          all_goals
            go_wp2
            go_ret2
            refine ⟨by rw [HR.out]; rfl, ?_⟩
            exact ⟨HF3.out.os, HF3.out.tape, HF3.out.output, HF3.out.size, HF3.out.block⟩
        | true =>
          have HR : Hid (∀ W3, Fr [] [] W2 W3 → EncRel w (w.alloc (.cells #[.slice none 0 0, .bool false] 41)) w.heap.size xs (.int .i64 ((i + 1 : Nat) : Int)) W3) := hide fun W3 h3 => by
            obtain ⟨h1, h2⟩ := List.getElem?_eq_some_iff.1 HXX.out
            refine ⟨i + 1, by omega, rfl, bs ++ pb, F2, ?_, ?_, by simpa using HC2.out.fr h3, ?_⟩
            · rw [List.take_succ_eq_append_getElem h1, encX_snoc, HE.out.1, h2, Option.bind_some, if_pos (by rw [HG.out, hsm]; rfl), HLX.out]
            · have := HE.out.2; have := HLL.out; simp; omega
            · exact (show Fr [w.heap.size] F2 _ W3 from (Fr.sub (HF2.out.more h3) (fun q hq => .inl hq)))
          have hq : (k == r0 && (d == r1 && (s == r2 && (m == r3 && (j == r4 && u == r5))))) = true := hsm
          clear hsm
          go_wp2_with fail
          go_region_with (go_at_call 12; refine (HBR.out _).mono ?_; rintro e W3 ⟨rfl, hf3⟩; obtain ⟨e1, e2, e3, e4, e5, e6, e7⟩ := HC3.out W3 ⟨hf3.os, hf3.tape, hf3.output, hf3.size, hf3.block, hf3.foot⟩; have HF3 := hide (show ∀ W4, W4.heap = W3.heap → W4.os = W3.os → W4.tape = W3.tape → W4.output = W3.output → EncRel w (w.alloc (.cells #[.slice none 0 0, .bool false] 41)) w.heap.size xs (.int .i64 ((i + 1 : Nat) : Int)) W4 from fun W4 a1 a2 a3 a4 => HR.out W4 ⟨a2.trans hf3.os, a3.trans hf3.tape, a4.trans hf3.output, by rw [a1]; exact hf3.size, fun q h1 h2 => by rw [a1]; exact hf3.block q h1 h2, hf3.foot⟩); clear hf3)
          all_goals
            go_wp2
            refine ⟨?_, by simp [intOf]; omega⟩
            have := HF3.out _ rfl rfl rfl rfl
            simpa using this
    · obtain rfl : i = n := by omega
      have HR : Hid (encX xs = some bs) := hide (by rw [← he, ← HN.out, List.take_length])
      obtain ⟨v, q1, q2, q3, q4⟩ := hcod.ex
      have k0 := cell_at q1 0
      have HBE := hide hbelow
      have hcv : ∀ W, W = wr → (convert 39 9 v).run Try.prog W = .ok (.string (strOfNums bs)) W := fun W e => by subst e; exact own_string hu1 Try.underlying5 Try.underlying9 q2
      have hcv := hcv wr rfl
      simp only [List.getElem?_toArray, List.getElem?_cons_zero] at k0
      clear q1 q2 q3 q4 hcod hfr hbelow he hbl
      go_wp2
      go_ret2
      refine ⟨by rw [HR.out]; rfl, ?_⟩
      exact HBE.out
end Go.Proofs.Ytpahjllcomejbaa

/- What the walk of Decode has at hand; condition: the reader, the result and the instruction lie in memory. -/
set_option linter.unusedVariables false
set_option linter.unusedSimpArgs false
namespace Go.Proofs.Ytpahjllcomejbaa
open Go.RowKit Go.MapKept
open Go.Proofs.YtpahjllcomejbaaW.PrintWords Go.Proofs.YtpahjllcomejbaaW.PrintLast Go.Proofs.YtpahjllcomejbaaW.PrintMore
open PX86Encodes

structure Dh (w W : World) (s : ByteArray) (a : Int) (e : Bool) (x : Obj) : Prop where
  hg : W.heap[w.heap.size + 1]? = some (rdO s a e)
  z : W.heap[w.heap.size]? = some (boxed 0 0 0 0 0 0)
  x : W.heap[w.heap.size + 2]? = some x
  f : Fr [] [] w W
theorem Dh.start (w : World) (s : ByteArray) (a : Int) : Dh w (((w.alloc (boxed 0 0 0 0 0 0)).alloc (rdO s a false)).alloc (boxed 0 0 0 0 0 0)) s a false (boxed 0 0 0 0 0 0) where
  hg := by have := heap_alloc_new (w.alloc (boxed 0 0 0 0 0 0)) (rdO s a false); simp only [World.size_alloc] at this; exact heap_alloc_some this
  z := heap_alloc_some (heap_alloc_some (heap_alloc_new w _))
  x := by have := heap_alloc_new ((w.alloc (boxed 0 0 0 0 0 0)).alloc (rdO s a false)) (boxed 0 0 0 0 0 0); simp only [World.size_alloc] at this; exact this
  f := (((Fr.refl [] w).alloc' _).alloc' _).alloc' _
theorem Dh.next {w W W' : World} {s s' : ByteArray} {a a' : Int} {e e' : Bool} {x : Obj} (h : Dh w W s a e x) (h1 : W'.heap[w.heap.size + 1]? = some (rdO s' a' e')) (h2 : Fr [w.heap.size + 1] [w.heap.size + 1] W W') : Dh w W' s' a' e' x where
  hg := h1
  z := h2.keep h.z (by simp)
  x := h2.keep h.x (by simp)
  f := ⟨h2.os.trans h.f.os, h2.tape.trans h.f.tape, h2.output.trans h.f.output, Nat.le_trans h.f.size h2.size, fun k hk hn => (h2.block k (Nat.lt_of_lt_of_le hk h.f.size) (by simp; omega)).trans (h.f.block k hk hn), by simp⟩
theorem Dh.more {w W W' : World} {s : ByteArray} {a : Int} {e : Bool} {x : Obj} (h : Dh w W s a e x) (h2 : Fr [] [] W W') : Dh w W' s a e x where
  hg := h2.keep h.hg (by simp)
  z := h2.keep h.z (by simp)
  x := h2.keep h.x (by simp)
  f := h.f.trans h2
theorem Dh.putx {w W : World} {s : ByteArray} {a : Int} {e : Bool} {y0 y1 y2 y3 y4 y5 : Int} (h : Dh w W s a e (boxed y0 y1 y2 y3 y4 y5)) (x0 x1 x2 x3 x4 x5 : Int) : Dh w (put6 W (w.heap.size + 2) x0 x1 x2 x3 x4 x5) s a e (boxed x0 x1 x2 x3 x4 x5) where
  hg := heap_setCell_some (a := ⟨_, _, none⟩) (by simp) (heap_setCell_some (a := ⟨_, _, none⟩) (by simp) (heap_setCell_some (a := ⟨_, _, none⟩) (by simp) (heap_setCell_some (a := ⟨_, _, none⟩) (by simp) (heap_setCell_some (a := ⟨_, _, none⟩) (by simp) (heap_setCell_some (a := ⟨_, _, none⟩) (by simp) h.hg)))))
  z := heap_setCell_some (a := ⟨_, _, none⟩) (by simp) (heap_setCell_some (a := ⟨_, _, none⟩) (by simp) (heap_setCell_some (a := ⟨_, _, none⟩) (by simp) (heap_setCell_some (a := ⟨_, _, none⟩) (by simp) (heap_setCell_some (a := ⟨_, _, none⟩) (by simp) (heap_setCell_some (a := ⟨_, _, none⟩) (by simp) h.z)))))
  x := by
    have hz := h.x
    unfold boxed at hz
    exact heap_setCell_same (heap_setCell_same (heap_setCell_same (heap_setCell_same (heap_setCell_same (heap_setCell_same hz)))))
  f := (((((h.f.setCell' (a := ⟨_, _, none⟩) (.inr (by simp)) _).setCell' (a := ⟨_, _, none⟩) (.inr (by simp)) _).setCell' (a := ⟨_, _, none⟩) (.inr (by simp)) _).setCell' (a := ⟨_, _, none⟩) (.inr (by simp)) _).setCell' (a := ⟨_, _, none⟩) (.inr (by simp)) _).setCell' (a := ⟨_, _, none⟩) (.inr (by simp)) _
theorem Dh.putz {w W : World} {s : ByteArray} {a : Int} {e : Bool} {x : Obj} (h : Dh w W s a e x) (x0 x1 x2 x3 x4 x5 : Int) : (put6 W w.heap.size x0 x1 x2 x3 x4 x5).heap[w.heap.size]? = some (boxed x0 x1 x2 x3 x4 x5) ∧ Below w.heap.size w (put6 W w.heap.size x0 x1 x2 x3 x4 x5) := by
  constructor
  · have hz := h.z
    unfold boxed at hz
    exact heap_setCell_same (heap_setCell_same (heap_setCell_same (heap_setCell_same (heap_setCell_same (heap_setCell_same hz)))))
  · exact ((((((h.f.setCell' (a := ⟨_, _, none⟩) (.inr (by simp)) _).setCell' (a := ⟨_, _, none⟩) (.inr (by simp)) _).setCell' (a := ⟨_, _, none⟩) (.inr (by simp)) _).setCell' (a := ⟨_, _, none⟩) (.inr (by simp)) _).setCell' (a := ⟨_, _, none⟩) (.inr (by simp)) _).setCell' (a := ⟨_, _, none⟩) (.inr (by simp)) _).below (Nat.le_refl _) (by simp)
theorem Dh.cells {w W : World} {s : ByteArray} {a : Int} {e : Bool} {x0 x1 x2 x3 x4 x5 : Int} (h : Dh w W s a e (boxed x0 x1 x2 x3 x4 x5)) :
    BoxAt W w.heap.size 0 0 0 0 0 0 ∧ BoxAt W (w.heap.size + 2) x0 x1 x2 x3 x4 x5 ∧ (∀ i, W.frozen? ⟨w.heap.size, i, none⟩ = false) ∧ (∀ i, W.frozen? ⟨w.heap.size + 2, i, none⟩ = false) ∧ W.cell? ⟨w.heap.size + 1, 1, none⟩ = some (.int .i64 a) ∧ W.cell? ⟨w.heap.size + 1, 2, none⟩ = some (.bool e) :=
  ⟨box_at h.z, box_at h.x, fun i => by have := h.z; unfold boxed at this; exact frozen_at this i, fun i => by have := h.x; unfold boxed at this; exact frozen_at this i, by have := h.hg; unfold rdO at this; exact cell_at this 1, by have := h.hg; unfold rdO at this; exact cell_at this 2⟩
/-- Encode of one instruction that was just laid. -/
theorem enc_one (x0 x1 x2 x3 x4 x5 : Int) (h5 : 0 ≤ x5 ∧ x5 < 18446744073709551616) (W : World) (B : Nat) (hB : W.heap.size = B) :
    Calls Try.prog 6 #[.slice (some ⟨B, 0, none⟩) 1 1] (W.alloc (.cells #[.int .i64 x0, .int .i64 x1, .int .i64 x2, .int .i64 x3, .int .i64 x4, .int .u64 x5] 32)) fun e W' => e = .returned (.tuple #[.string (encR (encX [⟨x0, x1, x2, x3, x4, x5⟩])).1, .int .i64 (encR (encX [⟨x0, x1, x2, x3, x4, x5⟩])).2]) ∧ Fr [] [] W W' := by
  subst hB
  have hb := heap_alloc_new W (.cells #[.int .i64 x0, .int .i64 x1, .int .i64 x2, .int .i64 x3, .int .i64 x4, .int .u64 x5] 32)
  have add : ∀ m, (⟨W.heap.size, 0, none⟩ : Addr).add m = ⟨W.heap.size, m, none⟩ := fun m => by unfold Addr.add; split <;> simp_all
  have hC : Kd.C k32 (W.alloc (.cells #[.int .i64 x0, .int .i64 x1, .int .i64 x2, .int .i64 x3, .int .i64 x4, .int .u64 x5] 32)) (some ⟨W.heap.size, 0, none⟩) 1 [(⟨x0, x1, x2, x3, x4, x5⟩ : S32)] := by
    refine ⟨rfl, by omega, fun _ => ⟨_, rfl, fun j p hp => ?_⟩⟩
    have hj : j = 0 := by
      have := (List.getElem?_eq_some_iff.1 hp).1
      simp at this
      exact this
    subst hj
    cases hp
    refine ⟨[.int .i64 x0, .int .i64 x1, .int .i64 x2, .int .i64 x3, .int .i64 x4, .int .u64 x5], rfl, ?_, fun i u hu => ?_⟩
    · exact ⟨[_], [_, _, _, _, _], rfl, rfl, [_], [_, _, _, _], rfl, rfl, [_], [_, _, _], rfl, rfl, [_], [_, _], rfl, rfl, [_], [_], rfl, rfl, rfl⟩
    · rw [add, cell_at hb]
      match i, hu with
      | 0, hu => cases hu; rfl
      | 1, hu => cases hu; rfl
      | 2, hu => cases hu; rfl
      | 3, hu => cases hu; rfl
      | 4, hu => cases hu; rfl
      | 5, hu => cases hu; rfl
  have := xenc_calls (some ⟨W.heap.size, 0, none⟩) 1 [(⟨x0, x1, x2, x3, x4, x5⟩ : S32)] _ hC (Nat.le_refl _) (fun b o _ e => by cases e; simp) (fun x hx => by simp at hx; subst hx; exact h5) (by simp)
  refine this.mono ?_
  rintro e W' ⟨rfl, hbl⟩
  exact ⟨rfl, ((Fr.refl [] W).alloc' _).trans (below_fr hbl)⟩
end Go.Proofs.Ytpahjllcomejbaa
