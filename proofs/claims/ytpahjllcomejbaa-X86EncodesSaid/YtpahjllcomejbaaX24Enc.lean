/- X86Encodes: the program and the reference lay the same bytes; condition: the instructions lie in memory, and their bytes fit. -/
import Derived.Test.YtpahjllcomejbaaXRow24
import Derived.Test.YtpahjllcomejbaaQREx2
import Derived.Maps.AppendAt
import Derived.OwnWalk
import Derived.Laws.Strings
set_option linter.unusedVariables false
set_option linter.unusedSimpArgs false
namespace Go.Proofs.Ytpahjllcomejbaa
open Go.RowKit Go.MapKept
open Go.Proofs.YtpahjllcomejbaaW.PrintWords Go.Proofs.YtpahjllcomejbaaW.PrintLast Go.Proofs.YtpahjllcomejbaaW.PrintMore
open PX86Encodes (S32 k32)
open QRE (portcullisref24_Encode.f portcullisref24_Encode.l0 portcullisref24_One.f)

def cvX (x : S32) : QRE.S32 := ⟨x.f0, x.f1, x.f2, x.f3, x.f4, x.f5⟩
theorem cvX_C {w : World} {A : Option Addr} {n : Nat} {xs : List S32} (h : Kd.C k32 w A n xs) : Kd.C QRE.k32 w A n (xs.map cvX) := by
 obtain ⟨h1, h2, h3⟩ := h
 refine ⟨by simpa using h1, h2, fun h0 => ?_⟩
 obtain ⟨ad, e, hc⟩ := h3 h0
 refine ⟨ad, e, fun j p hp => ?_⟩
 rw [List.getElem?_map] at hp
 obtain ⟨q, hq, rfl⟩ := Option.map_eq_some_iff.1 hp
 exact hc j q hq
theorem bytesOf_str (l : List Int) (h : ByteL l) : Go.Proofs.YtpahjllcomejbaaW.PrintWords.bytesOf (strOfNums l) = l := by
 simp only [bytesOf, strOfNums, List.map_map]
 rw [List.map_congr_left (g := id)]
 ·
  simp
 ·
  intro a ha
  have := h a ha
  simp
  omega
theorem imm_bad (kd d s n i wd : Int) (hb : bareS kd d s n i wd = (kd, d, s, n, i, wd)) (hf : fits32 i = false) : (layS kd d s n i wd).2 = true := by
 have hi : i ≠ 0 := by rintro rfl; simp [fits32] at hf
 unfold bareS at hb
 by_cases c1 : kd = 17 ∨ kd = 28 ∨ kd = 29
 ·
  rw [if_pos c1] at hb; exact absurd (by have := congrArg (fun q : X6 => q.2.2.2.2.1) hb; exact this.symm) hi
 rw [if_neg c1] at hb
 by_cases c21 : kd = 21
 ·
  subst c21; simp [layS, twoB, oneB, hf]
 rw [if_neg c21] at hb
 by_cases c22 : kd = 22
 ·
  subst c22; simp [layS, twoB, oneB, hf]
 rw [if_neg c22] at hb
 by_cases c2 : kd = 2
 ·
  rw [if_pos c2] at hb; exact absurd (by have := congrArg (fun q : X6 => q.2.2.2.2.1) hb; exact this.symm) hi
 rw [if_neg c2] at hb
 by_cases c3 : kd = 18 ∨ kd = 19 ∨ kd = 20
 ·
  rcases c3 with rfl | rfl | rfl <;> simp [layS, twoB, oneB, hf]
 rw [if_neg c3] at hb
 by_cases c4 : kd = 26 ∨ kd = 27
 ·
  rw [if_pos c4] at hb; exact absurd (by have := congrArg (fun q : X6 => q.2.2.2.2.1) hb; exact this.symm) hi
 rw [if_neg c4] at hb
 split at hb <;> exact absurd (by have := congrArg (fun q : X6 => q.2.2.2.2.1) hb; exact this.symm) hi
theorem one_eq (x : S32) (h5 : 0 ≤ x.f5 ∧ x.f5 < 18446744073709551616) : portcullisref24_One.f x.f0 x.f1 x.f2 x.f3 x.f4 x.f5 = some (if goodX x = true then strOfNums (layX x).1 else ⟨#[]⟩) := by
 unfold portcullisref24_One.f rbare.f
 rw [Option.bind_some]
 have hsm : (!(x.f0 == (bareS x.f0 x.f1 x.f2 x.f3 x.f4 x.f5).1) || (!(x.f1 == (bareS x.f0 x.f1 x.f2 x.f3 x.f4 x.f5).2.1) || (!(x.f2 == (bareS x.f0 x.f1 x.f2 x.f3 x.f4 x.f5).2.2.1) || (!(x.f3 == (bareS x.f0 x.f1 x.f2 x.f3 x.f4 x.f5).2.2.2.1) || (!(x.f4 == (bareS x.f0 x.f1 x.f2 x.f3 x.f4 x.f5).2.2.2.2.1) || (!(x.f5 == (bareS x.f0 x.f1 x.f2 x.f3 x.f4 x.f5).2.2.2.2.2))))))) = !sameX (sx x) (bareX x) := by
  simp only [sameX, sx, bareX, Bool.not_and]
 rw [hsm]
 cases hs : sameX (sx x) (bareX x) with
 | false =>
  rw [if_pos (by rfl), if_neg (by simp [goodX, hs])]
 | true =>
  rw [if_neg (by simp)]
  have hb : bareS x.f0 x.f1 x.f2 x.f3 x.f4 x.f5 = (x.f0, x.f1, x.f2, x.f3, x.f4, x.f5) := ((sameX_iff _ _).1 hs).symm
  have hg : goodX x = !(layX x).2 := by simp [goodX, hs]
  by_cases c1 : x.f4 < -2147483648
  ·
   have hf : fits32 x.f4 = false := by simp [fits32]; omega
   rw [if_pos c1, if_neg (by rw [hg]; have : (layX x).2 = true := imm_bad _ _ _ _ _ _ hb hf; simp [this])]
  rw [if_neg c1]
  by_cases c2 : x.f4 > 2147483647
  ·
   have hf : fits32 x.f4 = false := by simp [fits32]; omega
   rw [if_pos c2, if_neg (by rw [hg]; have : (layX x).2 = true := imm_bad _ _ _ _ _ _ hb hf; simp [this])]
  rw [if_neg c2]
  have hf : fits32 x.f4 = true := by simp [fits32]; omega
  unfold rlay.f
  rw [if_pos ⟨hb, hf, h5.1, h5.2⟩, Option.bind_some, hg]
  unfold okB
  show some (strOfNums (if (layX x).2 = true then [] else (layX x).1)) = _
  cases (layX x).2 <;> rfl
theorem refenc_l0 (l : List S32) (h5 : ∀ x ∈ l, 0 ≤ x.f5 ∧ x.f5 < 18446744073709551616) (hl : l.length * 48 ≤ 140737488355328) : ∀ (n i k : Nat) (acc : List Int), i + n = l.length → n < k → acc.length ≤ 20 * i →
  portcullisref24_Encode.l0 k (l.map cvX) acc i = some (encR ((encX (l.drop i)).map (acc ++ ·))) := by
 intro n
 induction n with
 | zero =>
  intro i k acc hi hk ha
  obtain ⟨k, rfl⟩ : ∃ m, k = m + 1 := ⟨k - 1, by omega⟩
  rw [portcullisref24_Encode.l0, if_neg (by simp; omega), List.drop_eq_nil_of_le (by omega)]
  simp [encX, encR]
 | succ n ih =>
  intro i k acc hi hk ha
  obtain ⟨k, rfl⟩ : ∃ m, k = m + 1 := ⟨k - 1, by omega⟩
  have hi' : i < l.length := by omega
  have e : QRE.rd_T32 (l.map cvX) i = cvX l[i] := by simp [QRE.rd_T32, List.getD, hi']
  have h1 := one_eq l[i] (h5 _ (List.getElem_mem hi'))
  rw [portcullisref24_Encode.l0, if_pos (by simp; omega), if_pos (by omega), e]
  show (portcullisref24_One.f l[i].f0 l[i].f1 l[i].f2 l[i].f3 l[i].f4 l[i].f5).bind _ = _
  rw [h1, Option.bind_some, List.drop_eq_getElem_cons hi', encX]
  cases hg : goodX l[i] with
  | false =>
   simp only [Bool.false_eq_true, if_false]
   rw [if_pos (by rw [ByteArray.toList_eq])]
   rfl
  | true =>
   simp only [if_true]
   have hne := layS_ne _ _ _ _ _ _ (good_bare _ hg).1
   have hby : ByteL (layX l[i]).1 := layS_bytes _ _ _ _ _ _
   have hln : (layX l[i]).1.length ≤ 20 := layS_len _ _ _ _ _ _
   rw [if_neg (by rw [ByteArray.toList_eq]; simp [strOfNums]; exact hne), if_pos (by rw [strOfNums_size]; omega), bytesOf_str _ hby, show wrap64 ((i : Int) + 1) = ((i + 1 : Nat) : Int) by unfold wrap64; omega]
   refine (ih (i + 1) k (acc ++ (layX l[i]).1) (by omega) (by omega) (by simp; omega)).trans ?_
   rw [Option.map_map]
   congr 3
   funext x
   simp
theorem refenc_eq (l : List S32) (h5 : ∀ x ∈ l, 0 ≤ x.f5 ∧ x.f5 < 18446744073709551616) (hl : l.length * 48 ≤ 140737488355328) (k : Nat) (hk : l.length < k) : portcullisref24_Encode.f k (l.map cvX) = some (encR (encX l)) := by
 have := refenc_l0 l h5 hl l.length 0 k [] (by omega) hk (by simp)
 unfold portcullisref24_Encode.f
 simpa using this
theorem Reps.one_cells {w : World} {xs : List S32} {inner : List Value} (h : Reps (k32.K w) 6 xs inner) : ∀ u ∈ inner, u.oneCell' = true := by
 intro u hu
 obtain ⟨i, hi, rfl⟩ := List.getElem_of_mem hu
 have hl := h.1
 have hq : i / 6 < xs.length := by omega
 have hk := h.2 (i / 6) xs[i / 6] (List.getElem?_eq_getElem hq)
 refine k32.K_one hk _ ?_
 have hlt : i % 6 < ((inner.drop (i / 6 * 6)).take 6).length := by simp; omega
 have e : ((inner.drop (i / 6 * 6)).take 6)[i % 6] = inner[i] := by
  rw [List.getElem_take, List.getElem_drop]
  congr 1
  omega
 rw [← e]
 exact List.getElem_mem hlt
theorem x86_info : (Try.prog.info? 32).map (fun i => (i.zero, i.size, i.bytes)) = some (some (.agg #[.int .i64 0, .int .i64 0, .int .i64 0, .int .i64 0, .int .i64 0, .int .u64 0]), 6, 48) := by kernel_rfl
set_option maxRecDepth 100000 in
set_option maxHeartbeats 2000000 in
theorem enc_calls (A : Option Addr) (cap : Nat) (xs : List S32) (w : World) (hc : Kd.C k32 w A xs.length xs) (hcap : xs.length ≤ cap) (hA : ∀ b o, 0 < xs.length → A = some ⟨b, o, none⟩ → b < w.heap.size) (hw : ∀ x ∈ xs, 0 ≤ x.f5 ∧ x.f5 < 18446744073709551616) (hy : xs.length * 48 ≤ 140737488351232) :
  Calls Try.prog 3 #[.slice A xs.length cap] w fun e W => e = .returned (.bool true) ∧ Below w.heap.size w W := by
 have HC := hide hc
 have HP := hide hcap
 have HY := hide hy
 have hau := Try.underlying22
 obtain ⟨i0, hi, hz0, hz1, hz2⟩ := info_parts x86_info
 have HE : Hid (∀ (A' : Option Addr) (c' : Nat) (W : World), Kd.C k32 W A' xs.length xs → xs.length ≤ c' → (∀ b o, 0 < xs.length → A' = some ⟨b, o, none⟩ → b < W.heap.size) → Calls Try.prog 6 #[.slice A' xs.length c'] W (EncPost W (encR (encX xs)))) :=
  hide fun A' c' W h1 h2 h3 => xenc_calls A' c' xs W h1 h2 h3 hw (by omega)
 have HF : Hid (∀ (W : World), Kd.C k32 W A xs.length xs → Calls Try.prog 7 #[.slice A xs.length cap] W (EncPost W (encR (encX xs)))) :=
  hide fun W h1 => by
   have := QRE.portcullisref24_Encode.calls (xs.length + 1) A cap (xs.map cvX) (encR (encX xs)).1 (encR (encX xs)).2 W (by simpa using cvX_C h1) (by simpa using hcap) (refenc_eq xs hw (by omega) _ (by omega))
   unfold EncPost
   simpa using this
 generalize encR (encX xs) = r at *
 obtain ⟨s, er⟩ := r
 unfold EncPost at HE HF
 clear hc hcap hy hA hw
 cases A with
 | none =>
  have h0 : xs.length = 0 := by
   have := HC.out.2.2
   rcases Nat.eq_zero_or_pos xs.length with h | h
   ·
    exact h
   ·
    obtain ⟨ad, e, _⟩ := this h; cases e
  generalize hn : xs.length = n at *
  subst h0
  have HN := hide hn
  clear hn
  go_enter Try.func3, Try.ntmps3
  go_wp2_with fail
  refine (HE.out none 0 w ⟨HN.out, by omega, fun h => by omega⟩ (Nat.le_refl _) (fun _ _ h => by omega)).mono ?_
  rintro e W ⟨rfl, hb⟩
  have HB := hide hb
  clear hb
  go_wp2_with fail
  refine (HF.out _ (Kd.C_below HC.out HB.out)).mono ?_
  rintro e W' ⟨rfl, hb'⟩
  have HB' := hide hb'
  clear hb'
  go_wp2_with fail
  refine (awake_calls _).mono ?_
  rintro e W'' ⟨rfl, hb''⟩
  have HB2 := hide ((HB.out.trans (HB'.out.mono HB.out.size)).trans (hb''.below (B := w.heap.size) (Nat.le_trans HB.out.size HB'.out.size) (by simp)))
  clear hb''
  go_wp2
  go_ret
  exact ⟨rfl, HB2.out⟩
 | some ad =>
  obtain ⟨inner, hr, hcell⟩ : ∃ inner, Reps (k32.K w) 6 xs inner ∧ ∀ j u, inner[j]? = some u → w.cell? (ad.add j) = some u := ReadsRow.inner_ HC.out
  have h1 : ∀ u ∈ inner, u.oneCell' = true := Reps.one_cells hr
  have hrl : inner.length = xs.length * 6 := hr.1
  have HR := hide hr
  generalize hn : xs.length = n at *
  have HN := hide hn
  clear hr hn
  have HCELL := hide hcell
  have H1 := hide h1
  have HRL := hide hrl
  have hn0 : n ≤ 2932031007320 := by have := HY.out; omega
  clear hcell h1 hrl
  go_enter Try.func3, Try.ntmps3
  go_wp2_with (at_builtin; refine wpList_append_own_at _ rfl _ _ 22 rfl w.heap.size 32 i0 _ 6 48 hau hi hz0 hz1 hz2 rfl (by decide) (.slice none 0 0) 0 [] rfl (World.ownsRow_nil _ _ _ _) ad n cap inner rfl HRL.out HCELL.out H1.out (by unfold maxLen; omega) (by omega) (Nat.le_refl _) ?_; intro v1 w1 hown1 hg1 _ hat1)
  have HO : OwnRow (k32.K w) 32 6 w1 w.heap.size v1 xs := ⟨inner, by rw [HN.out]; simpa using hown1, HR.out⟩
  obtain ⟨A', c', hv, hle, hrd⟩ := HO.reads
  rw [HN.out] at hv hle hrd
  subst hv
  have hb1 : Below w.heap.size w w1 := (Below.refl _ _).grown hg1 (Nat.le_refl _) (by simp [Value.ownBlock])
  have HB1 := hide hb1
  have HRD : Hid (Kd.C k32 w1 A' n xs) := hide hrd
  have HLE := hide hle
  have HLT : Hid (∀ b o, 0 < n → A' = some ⟨b, o, none⟩ → b < w1.heap.size) := hide fun b o h0 e => by
   obtain ⟨b', o', e', c, _⟩ := x86_elem HRD.out 0 h0 (by rw [HN.out]; exact h0)
   rw [e] at e'
   cases e'
   exact World.block_lt_of_cell? _ _ c
  clear hown1 hg1 hat1 HO hle hrd hb1
  refine (HE.out A' c' w1 HRD.out HLE.out HLT.out).mono ?_
  rintro e W ⟨rfl, hb⟩
  have HB := hide (HB1.out.trans (hb.mono HB1.out.size))
  clear hb
  go_wp2_with fail
  refine (HF.out _ (Kd.C_below HC.out HB.out)).mono ?_
  rintro e W' ⟨rfl, hb'⟩
  have HB' := hide hb'
  clear hb'
  go_wp2_with fail
  refine (awake_calls _).mono ?_
  rintro e W'' ⟨rfl, hb''⟩
  have HB2 := hide ((HB.out.trans (HB'.out.mono HB.out.size)).trans (hb''.below (B := w.heap.size) (Nat.le_trans HB.out.size HB'.out.size) (by simp)))
  clear hb''
  go_wp2
  go_ret
  exact ⟨rfl, HB2.out⟩
theorem enc_row {w : World} {a : Option Addr} {len cap : Nat} (h : RowF w a len cap x86Fs) (hy : len * 48 ≤ 140737488351232) :
  Calls Try.prog 3 #[.slice a len cap] w fun e w' => e = .returned (.bool true) ∧ Below w.heap.size w w' := by
 have hcap : len ≤ cap := by
  rcases h with h | ⟨b, o, rfl, h1, h2, h3⟩ <;> omega
 obtain ⟨xs, rfl, hC, hw⟩ := row_x86 h (by omega)
 refine enc_calls _ _ _ _ hC hcap (fun b' o' h0 e => ?_) hw hy
 obtain ⟨b, o, e', hb⟩ := h.block (by decide) h0
 rw [e'] at e
 cases e
 exact hb
end Go.Proofs.Ytpahjllcomejbaa
