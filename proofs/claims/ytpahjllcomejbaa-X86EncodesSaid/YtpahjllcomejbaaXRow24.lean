/- Several texts of this claim in one: each is told where it begins. -/
import Derived.Test.YtpahjllcomejbaaReadAll
import Derived.Test.YtpahjllcomejbaaFr
/- What was encoded is decoded as it was: Decode at an instruction's place; condition: the bytes lie in the text. -/
set_option linter.unusedVariables false
set_option linter.unusedSimpArgs false
namespace Go.Proofs.Ytpahjllcomejbaa
open Go.RowKit Go.MapKept
open Go.Proofs.YtpahjllcomejbaaW.PrintWords Go.Proofs.YtpahjllcomejbaaW.PrintLast Go.Proofs.YtpahjllcomejbaaW.PrintMore
open PX86Encodes (S32)

def ByteL (l : List Int) : Prop := ∀ b ∈ l, 0 ≤ b ∧ b < 256
theorem ByteL.append {a b : List Int} (h1 : ByteL a) (h2 : ByteL b) : ByteL (a ++ b) := fun c hc => (List.mem_append.1 hc).elim (h1 c) (h2 c)
theorem ByteL.cons {a : Int} {b : List Int} (h1 : 0 ≤ a ∧ a < 256) (h2 : ByteL b) : ByteL (a :: b) := fun c hc => by
  rcases List.mem_cons.1 hc with rfl | hc
  · exact h1
  · exact h2 c hc
theorem ByteL.nil : ByteL [] := fun c hc => by simp at hc
theorem b_rex (w : Bool) (p q : Int) : 0 ≤ rexB w p q ∧ rexB w p q < 256 := by unfold rexB; cases w <;> simp <;> omega
theorem b_dir (p q : Int) : 0 ≤ dirB p q ∧ dirB p q < 256 := by unfold dirB; omega
theorem b_b4 (n : Int) : ByteL (b4 n) := .cons (by omega) (.cons (by omega) (.cons (by omega) (.cons (by omega) .nil)))
theorem b_leB (n : Int) (m : Nat) : ByteL (leB n m) := fun c hc => by
  obtain ⟨j, _, rfl⟩ := List.mem_map.1 hc
  omega
theorem b_mem (p q n : Int) : ByteL (memB p q n) := by
  unfold memB
  refine ((ByteL.cons (by omega) .nil).append ?_).append (b_b4 n)
  split
  · exact .cons (by decide) .nil
  · exact .nil
theorem b_two (kd : Int) : 0 ≤ twoB kd ∧ twoB kd < 256 := by unfold twoB; (repeat' split) <;> decide
theorem b_one (kd : Int) : 0 ≤ (oneB kd).1 ∧ (oneB kd).1 < 256 := by unfold oneB; (repeat' split) <;> decide
theorem b_reads (n : Int) (g : Bool) : ByteL (readsB n g).2 := by
  unfold readsB
  (repeat' split) <;> first | exact .nil | exact .cons (by decide) .nil | exact .cons (by decide) (.cons (by decide) .nil)
theorem b_store (d t n i : Int) : ByteL (storeB d t n i) := by
  unfold storeB
  refine (((ByteL.append ?_ (.cons (b_rex _ _ _) .nil)).append ?_).append (b_mem _ _ _))
  · split
    · exact .cons (by decide) .nil
    · exact .nil
  · split
    · exact .cons (by decide) .nil
    · exact .cons (by decide) .nil
theorem ite_b {c : Prop} [Decidable c] {a b : List Int × Bool} (ha : ByteL a.1) (hb : ByteL b.1) : ByteL (if c then a else b).1 := by split <;> assumption
theorem layS_bytes (kd d s n i wd : Int) : ByteL (layS kd d s n i wd).1 := by
  unfold layS
  refine ite_b (.cons (b_rex _ _ _) (.cons (b_two _) (.cons (b_dir _ _) .nil))) ?_
  refine ite_b (.cons (b_rex _ _ _) (.cons (b_one _) (.cons (b_dir _ _) .nil))) ?_
  refine ite_b (((ByteL.cons (b_rex _ _ _) .nil).append (b_reads _ _)).append (b_mem _ _ _)) ?_
  refine ite_b (((ByteL.cons (b_rex _ _ _) .nil).append (b_reads _ _)).append (b_mem _ _ _)) ?_
  refine ite_b (((ByteL.cons (b_rex _ _ _) .nil).append (b_reads _ _)).append (.cons (b_dir _ _) .nil)) ?_
  refine ite_b (((ByteL.cons (b_rex _ _ _) .nil).append (b_reads _ _)).append (.cons (b_dir _ _) .nil)) ?_
  refine ite_b (b_store _ _ _ _) ?_
  refine ite_b ((ByteL.cons (b_rex _ _ _) (.cons (by omega) .nil)).append (b_leB _ _)) ?_
  refine ite_b (.cons (b_rex _ _ _) (.cons (by decide) (.cons (by decide) (.cons (b_dir _ _) .nil)))) ?_
  refine ite_b (.cons (by decide) (.cons (by decide) .nil)) ?_
  refine ite_b ((ByteL.cons (by decide) .nil).append (b_b4 _)) ?_
  refine ite_b ((ByteL.cons (by decide) (.cons (by omega) .nil)).append (b_b4 _)) ?_
  refine ite_b (.cons (b_rex _ _ _) (.cons (by omega) .nil)) ?_
  refine ite_b (.cons (b_rex _ _ _) (.cons (by omega) .nil)) ?_
  refine ite_b (.cons (b_rex _ _ _) (.cons (by decide) (.cons (by omega) .nil))) ?_
  refine ite_b (.cons (by decide) (.cons (by decide) .nil)) ?_
  exact ite_b (.cons (by decide) .nil) .nil
theorem ite_ne {c : Prop} [Decidable c] {a b : List Int × Bool} (ha : a.2 = false → a.1 ≠ []) (hb : b.2 = false → b.1 ≠ []) : (if c then a else b).2 = false → (if c then a else b).1 ≠ [] := by split <;> assumption
theorem layS_ne (kd d s n i wd : Int) : (layS kd d s n i wd).2 = false → (layS kd d s n i wd).1 ≠ [] := by
  unfold layS
  repeat' (refine ite_ne ?_ ?_)
  all_goals first
    | (intro _; simp; done)
    | (intro _; simp [storeB]; done)
    | (intro h; simp at h; done)
theorem bt_str (l : List Int) (hl : ByteL l) (i : Nat) (hi : i < l.length) : bt (strOfNums l) i = l.getD i 0 := by
  have h1 : ((i : Int)).toNat < (strOfNums l).size := by rw [strOfNums_size]; simpa using hi
  have hb := hl l[i] (List.getElem_mem hi)
  unfold bt
  rw [dif_pos h1]
  have e : (strOfNums l)[((i : Int)).toNat]'h1 = UInt8.ofNat (l[i]).toNat := by
    simp [strOfNums, ByteArray.getElem_eq_getElem_data]
  rw [e, List.getD_eq_getElem?_getD, List.getElem?_eq_getElem hi]
  simp
  omega
theorem at_str (pre bs rest : List Int) (hl : ByteL (pre ++ bs ++ rest)) : At (strOfNums (pre ++ bs ++ rest)) pre.length bs := by
  refine ⟨by omega, by rw [strOfNums_size]; simp; omega, fun i hi => ?_⟩
  have := bt_str _ hl (pre.length + i) (by simp; omega)
  rw [show ((pre.length : Int) + (i : Int)) = ((pre.length + i : Nat) : Int) by omega, this]
  simp only [List.getD_eq_getElem?_getD]
  rw [List.append_assoc, List.getElem?_append_right (by omega), Nat.add_sub_cancel_left, List.getElem?_append_left hi]
theorem ext_str (pre bs rest : List Int) : (strOfNums (pre ++ bs ++ rest)).extract pre.length (pre.length + bs.length) = strOfNums bs := by
  apply ByteArray.ext
  simp only [strOfNums, ByteArray.data_extract]
  apply Array.ext'
  simp
theorem encX_one (x : S32) (h : goodX x = true) : encX [x] = some (layX x).1 := by
  rw [encX, if_pos h]; simp [encX]
theorem good_bare (x : S32) (h : goodX x = true) : (layX x).2 = false ∧ bareS x.f0 x.f1 x.f2 x.f3 x.f4 x.f5 = (x.f0, x.f1, x.f2, x.f3, x.f4, x.f5) := by
  unfold goodX at h
  simp only [Bool.and_eq_true, Bool.not_eq_true'] at h
  exact ⟨h.1, ((sameX_iff _ _).1 h.2).symm⟩
/-- Decode at an instruction's place. -/
theorem dec_good (x : S32) (hg : goodX x = true) (h5 : 0 ≤ x.f5 ∧ x.f5 < 18446744073709551616) (pre rest : List Int) (hl : ByteL (pre ++ (layX x).1 ++ rest)) (hn : (layX x).1 ≠ []) (hs : (pre ++ (layX x).1 ++ rest).length ≤ 9223372036854775807) (w : World) :
    Calls Try.prog 9 #[.string (strOfNums (pre ++ (layX x).1 ++ rest)), .int .i64 pre.length] w (DecPost w (sx x, (((layX x).1.length : Nat) : Int), 0)) := by
  have hsz : (strOfNums (pre ++ (layX x).1 ++ rest)).size = (pre ++ (layX x).1 ++ rest).length := strOfNums_size _
  have hpos : 0 < (layX x).1.length := List.length_pos_iff.2 hn
  obtain ⟨g1, g2⟩ := good_bare x hg
  have hat := at_str pre ((layX x).1 ++ rest) [] (by simpa using hl)
  rw [List.append_nil, ← List.append_assoc] at hat
  have hr := read_all (s := strOfNums (pre ++ (layX x).1 ++ rest)) (by rw [hsz]; exact hs) 20 (by omega) x.f0 x.f1 x.f2 x.f3 x.f4 x.f5 g2 g1 h5 pre.length rest hat
  have hd := decode_calls 20 (strOfNums (pre ++ (layX x).1 ++ rest)) pre.length (pre.length + ((layX x).1.length : Nat)) false x.f0 x.f1 x.f2 x.f3 x.f4 x.f5 w (by rw [hsz]; exact hs) ⟨by omega, by rw [hsz]; simp; omega⟩ hr (fun _ => ⟨by omega, by rw [hsz]; simp; omega⟩) h5
  have he : decE (strOfNums (pre ++ (layX x).1 ++ rest)) pre.length x (pre.length + ((layX x).1.length : Nat)) false = (sx x, (((layX x).1.length : Nat) : Int), 0) := by
    unfold decE
    have e1 : encR (encX [x]) = (strOfNums (layX x).1, 0) := by rw [encX_one x hg]; rfl
    have e2 : ((pre.length : Int) + ((layX x).1.length : Nat)).toNat = pre.length + (layX x).1.length := by omega
    have e3 : ((pre.length : Int)).toNat = pre.length := by omega
    rw [e1, e2, e3, ext_str, if_pos ⟨rfl, rfl, rfl⟩, Nat.add_sub_cancel_left]
  rw [← he]
  exact hd
end Go.Proofs.Ytpahjllcomejbaa

/- The law's examples; no condition. -/
set_option linter.unusedVariables false
set_option linter.unusedSimpArgs false
namespace Go.Proofs.Ytpahjllcomejbaa
open Go.RowKit Go.MapKept
open Go.Proofs.YtpahjllcomejbaaW.PrintWords Go.Proofs.YtpahjllcomejbaaW.PrintLast Go.Proofs.YtpahjllcomejbaaW.PrintMore
open PX86Encodes (S32 k32 x86_reader_next.f)
attribute [local go_sem high] eqX

def cellsX (x : S32) : List Value := [.int .i64 x.f0, .int .i64 x.f1, .int .i64 x.f2, .int .i64 x.f3, .int .i64 x.f4, .int .u64 x.f5]
def flatX : List S32 → List Value
 | [] => []
 | x :: l => cellsX x ++ flatX l
theorem flat_get : ∀ (l : List S32) (j i : Nat) (p : S32), l[j]? = some p → i < 6 → (flatX l)[j * 6 + i]? = (cellsX p)[i]?
 | x :: l, 0, i, p, hp, hi => by
  cases hp
  rw [flatX, List.getElem?_append_left (by simp [cellsX]; omega)]
  simp
 | x :: l, j + 1, i, p, hp, hi => by
  rw [flatX, List.getElem?_append_right (by simp [cellsX]; omega)]
  have : (j + 1) * 6 + i - (cellsX x).length = j * 6 + i := by simp [cellsX]; omega
  rw [this]
  exact flat_get l j i p (by simpa using hp) hi
theorem enc_lits (xs : List S32) (n : Nat) (hn : xs.length = n) (C : Array Value) (hC : (flatX xs).toArray = C) (h5 : ∀ x ∈ xs, 0 ≤ x.f5 ∧ x.f5 < 18446744073709551616) (hl : xs.length ≤ 1000) (r : ByteArray × Int) (hr : encR (encX xs) = r) (W : World) (B : Nat) (hB : W.heap.size = B) :
  Calls Try.prog 6 #[.slice (some ⟨B, 0, none⟩) n n] (W.alloc (.cells C 32)) fun e W' => e = .returned (.tuple #[.string r.1, .int .i64 r.2]) ∧ Fr [] [] W W' := by
 subst hn hC hB hr
 have hb := heap_alloc_new W (.cells (flatX xs).toArray 32)
 have add : ∀ m, (⟨W.heap.size, 0, none⟩ : Addr).add m = ⟨W.heap.size, m, none⟩ := fun m => by unfold Addr.add; split <;> simp_all
 have hK : Kd.C k32 (W.alloc (.cells (flatX xs).toArray 32)) (some ⟨W.heap.size, 0, none⟩) xs.length xs := by
  refine ⟨rfl, by omega, fun _ => ⟨_, rfl, fun j p hp => ⟨cellsX p, rfl, ?_, fun i u hu => ?_⟩⟩⟩
  ·
   exact ⟨[_], [_, _, _, _, _], rfl, rfl, [_], [_, _, _, _], rfl, rfl, [_], [_, _, _], rfl, rfl, [_], [_, _], rfl, rfl, [_], [_], rfl, rfl, rfl⟩
  ·
   have hi : i < 6 := by
    have := (List.getElem?_eq_some_iff.1 hu).1
    simpa [cellsX] using this
   rw [add, cell_at hb]
   have := flat_get xs j i p hp hi
   rw [hu] at this
   show ((flatX xs).toArray)[j * 6 + i]? = some u
   simpa using this
 have := xenc_calls (some ⟨W.heap.size, 0, none⟩) xs.length xs _ hK (Nat.le_refl _) (fun b o _ e => by cases e; simp) h5 (by omega)
 refine this.mono ?_
 rintro e W' ⟨rfl, hbl⟩
 exact ⟨rfl, ((Fr.refl [] W).alloc' _).trans (below_fr hbl)⟩
def DecFr (w0 : World) (x : X6) (n e : Int) (en : Ending) (W : World) : Prop :=
 en = .returned (.tuple #[.agg #[.int .i64 x.1, .int .i64 x.2.1, .int .i64 x.2.2.1, .int .i64 x.2.2.2.1, .int .i64 x.2.2.2.2.1, .int .u64 x.2.2.2.2.2], .int .i64 n, .int .i64 e]) ∧ Fr [] [] w0 W
theorem DecPost.fr {w : World} {x : X6} {n e : Int} {en : Ending} {W : World} (h : DecPost w (x, n, e) en W) : DecFr w x n e en W := ⟨h.1, below_fr h.2⟩
theorem aw_enc : encR (encX [⟨1, 0, 7, 0, 0, 0⟩, ⟨18, 8, 7, 1, 4, 0⟩, ⟨29, 0, 0, 0, 0, 0⟩]) = (⟨#[72, 137, 248, 76, 15, 182, 135, 4, 0, 0, 0, 195]⟩, 0) := by
 have : encX [⟨1, 0, 7, 0, 0, 0⟩, ⟨18, 8, 7, 1, 4, 0⟩, ⟨29, 0, 0, 0, 0, 0⟩] = some [72, 137, 248, 76, 15, 182, 135, 4, 0, 0, 0, 195] := by decide +kernel
 rw [this]; rfl
theorem aw_bad : encR (encX [⟨1, 16, 0, 0, 0, 0⟩]) = (⟨#[]⟩, 30) := by
 have : encX [⟨1, 16, 0, 0, 0, 0⟩] = none := by decide +kernel
 rw [this]; rfl
theorem aw_dec (w : World) : Calls Try.prog 9 #[.string ⟨#[72, 137, 248, 76, 15, 182, 135, 4, 0, 0, 0, 195]⟩, .int .i64 3] w (DecFr w (18, 8, 7, 1, 4, 0) 8 0) := by
 have hlay : (layX ⟨18, 8, 7, 1, 4, 0⟩).1 = [76, 15, 182, 135, 4, 0, 0, 0] := by decide +kernel
 have hg : goodX ⟨18, 8, 7, 1, 4, 0⟩ = true := by decide +kernel
 have hb : ByteL ([72, 137, 248] ++ [76, 15, 182, 135, 4, 0, 0, 0] ++ [195]) := by
  intro c hc
  simp at hc
  omega
 have := dec_good ⟨18, 8, 7, 1, 4, 0⟩ hg (by decide) [72, 137, 248] [195] (by rw [hlay]; exact hb) (by rw [hlay]; simp) (by rw [hlay]; decide) w
 rw [hlay] at this
 exact this.mono fun e W h => h.fr
theorem aw_zero (w : World) : Calls Try.prog 9 #[.string ⟨#[0]⟩, .int .i64 0] w (DecFr w (0, 0, 0, 0, 0, 0) 0 30) := by
 have hn : x86_reader_next.f ⟨#[0]⟩ 0 false = some (0, ⟨#[0]⟩, 1, false) := next_in ⟨#[0]⟩ (by decide) 0 false ⟨by decide, by decide⟩
 have hr : readX 20 ⟨#[0]⟩ 0 = some (0, 0, 0, 0, 0, 0, ⟨#[0]⟩, 1, false) := by
  unfold readX
  rw [hn, Option.bind_some]
  rfl
 have hd := decode_calls 20 ⟨#[0]⟩ 0 1 false 0 0 0 0 0 0 w (by decide) ⟨by decide, by decide⟩ hr (fun _ => ⟨by decide, by decide⟩) (by decide)
 have he : decE ⟨#[0]⟩ 0 ⟨0, 0, 0, 0, 0, 0⟩ 1 false = ((0, 0, 0, 0, 0, 0), 0, 30) := by
  have hx : encX [⟨0, 0, 0, 0, 0, 0⟩] = none := by decide +kernel
  unfold decE
  rw [hx, if_neg (fun c => absurd c.2.1 (by decide))]
 rw [he] at hd
 exact hd.mono fun e W h => h.fr
theorem aw_none (w : World) : Calls Try.prog 9 #[.string ⟨#[]⟩, .int .i64 0] w (DecFr w (0, 0, 0, 0, 0, 0) 0 1) :=
 (dec_arg2 ⟨#[]⟩ 0 w (by decide) (by decide) (by decide)).mono fun e W h => ⟨h.1, below_fr h.2⟩
set_option maxRecDepth 100000 in
set_option maxHeartbeats 4000000 in
theorem awake_calls (w : World) : Calls Try.prog 8 #[] w fun e W => e = .returned (.bool true) ∧ Fr [] [] w W := by
 have hu := Try.underlying22
 have hu3 := Try.underlying32
 have HE3 := hide (enc_lits [⟨1, 0, 7, 0, 0, 0⟩, ⟨18, 8, 7, 1, 4, 0⟩, ⟨29, 0, 0, 0, 0, 0⟩] 3 rfl _ rfl (by intro x hx; simp at hx; rcases hx with rfl | rfl | rfl <;> decide) (by decide) _ aw_enc w _ rfl)
 have HE1 := hide (enc_lits [⟨1, 16, 0, 0, 0, 0⟩] 1 rfl #[.int .i64 1, .int .i64 16, .int .i64 0, .int .i64 0, .int .i64 0, .int .u64 0] rfl (by intro x hx; simp at hx; subst hx; decide) (by decide) _ aw_bad)
 go_enter Try.func8, Try.ntmps8
 go_wp2_with fail
 refine HE3.out.mono ?_
 rintro e W1 ⟨rfl, f1⟩
 have F1 := hide f1
 clear f1
 go_wp2_with fail
 refine (aw_dec W1).mono ?_
 rintro e W2 ⟨rfl, f2⟩
 have F2 := hide (F1.out.trans f2)
 clear f2
 have HX2 := hide (heap_alloc_new W2 (boxed 18 8 7 1 4 0))
 clear HE3
 go_wp2_with fail
 refine (aw_zero _).mono ?_
 rintro e W3 ⟨rfl, f3⟩
 have HX3 := hide (f3.keep HX2.out (by simp))
 have F3 := hide ((F2.out.alloc' _).trans f3)
 clear f3
 go_wp2_with fail
 refine (aw_none _).mono ?_
 rintro e W4 ⟨rfl, f4⟩
 have HX4 := hide (f4.keep (heap_alloc_some HX3.out) (by simp))
 have F4 := hide ((F3.out.alloc' _).trans f4)
 clear f4
 go_wp2_with fail
 (with_reducible refine (HE1.out _ _ ?_).mono ?_)
 simp
 rintro e W5 ⟨rfl, f5⟩
 obtain ⟨c0, c1, c2, c3, c4, c5⟩ := box_at (f5.keep (heap_alloc_some HX4.out) (by simp))
 have F5 := hide ((F4.out.alloc' _).trans f5)
 clear f5
 go_wp2
 go_ret
 exact ⟨rfl, F5.out⟩
end Go.Proofs.Ytpahjllcomejbaa

/- X86Back: what was encoded is decoded as it was, one behind the other, and encoded again; condition: the instructions lie in memory, and their bytes fit. -/
set_option linter.unusedVariables false
set_option linter.unusedSimpArgs false
namespace Go.Proofs.Ytpahjllcomejbaa
open Go.RowKit Go.MapKept
open Go.Proofs.YtpahjllcomejbaaW.PrintWords Go.Proofs.YtpahjllcomejbaaW.PrintLast Go.Proofs.YtpahjllcomejbaaW.PrintMore
open PX86Encodes (S32 k32 x86_reader_next.f)
attribute [local go_sem high] eqX

end Go.Proofs.Ytpahjllcomejbaa

/- A row of instructions that came in, as the walks want it; no condition. -/
set_option linter.unusedVariables false
set_option linter.unusedSimpArgs false
namespace Go.Proofs.Ytpahjllcomejbaa
open Go.RowKit
open Go.Proofs.YtpahjllcomejbaaW.PrintWords Go.Proofs.YtpahjllcomejbaaW.PrintLast Go.Proofs.YtpahjllcomejbaaW.PrintMore
open PX86Encodes (S32 k32)
abbrev x86Fs : List FK := [.int .i64, .int .i64, .int .i64, .int .i64, .int .i64, .int .u64]
theorem row_x86 {w : World} {a : Option Addr} {len cap : Nat} (h : RowF w a len cap x86Fs) (hl : len ≤ 9223372036854775807) :
    ∃ xs : List S32, xs.length = len ∧ Kd.C k32 w a len xs ∧ ∀ x ∈ xs, 0 ≤ x.f5 ∧ x.f5 < 18446744073709551616 := by
  rcases h with rfl | ⟨b, o, rfl, h1, h2, h3⟩
  · exact ⟨[], rfl, ⟨rfl, by omega, fun h => by omega⟩, fun x hx => by simp at hx⟩
  · have key : ∀ i, i < len → ∃ x : S32, (w.cell? ⟨b, o + (i * 6), none⟩ = some (.int .i64 x.f0) ∧ w.cell? ⟨b, o + (i * 6 + 1), none⟩ = some (.int .i64 x.f1) ∧ w.cell? ⟨b, o + (i * 6 + 2), none⟩ = some (.int .i64 x.f2) ∧
        w.cell? ⟨b, o + (i * 6 + 3), none⟩ = some (.int .i64 x.f3) ∧ w.cell? ⟨b, o + (i * 6 + 4), none⟩ = some (.int .i64 x.f4) ∧ w.cell? ⟨b, o + (i * 6 + 5), none⟩ = some (.int .u64 x.f5)) ∧ 0 ≤ x.f5 ∧ x.f5 < 18446744073709551616 := by
      intro i hi
      obtain ⟨v0, c0, n0, rfl, _⟩ := h3 i hi 0 _ rfl
      obtain ⟨v1, c1, n1, rfl, _⟩ := h3 i hi 1 _ rfl
      obtain ⟨v2, c2, n2, rfl, _⟩ := h3 i hi 2 _ rfl
      obtain ⟨v3, c3, n3, rfl, _⟩ := h3 i hi 3 _ rfl
      obtain ⟨v4, c4, n4, rfl, _⟩ := h3 i hi 4 _ rfl
      obtain ⟨v5, c5, n5, rfl, h5⟩ := h3 i hi 5 _ rfl
      refine ⟨⟨n0, n1, n2, n3, n4, n5⟩, ⟨c0, c1, c2, c3, c4, c5⟩, ?_⟩
      simp [Lit.wf, IntKind.min, IntKind.max, IntKind.signed, IntKind.bits] at h5
      show 0 ≤ n5 ∧ n5 < 18446744073709551616
      omega
    have list : ∀ n, n ≤ len → ∃ xs : List S32, xs.length = n ∧ (∀ x ∈ xs, 0 ≤ x.f5 ∧ x.f5 < 18446744073709551616) ∧ ∀ (i : Nat) (hi : i < xs.length), w.cell? ⟨b, o + (i * 6), none⟩ = some (.int .i64 xs[i].f0) ∧ w.cell? ⟨b, o + (i * 6 + 1), none⟩ = some (.int .i64 xs[i].f1) ∧
        w.cell? ⟨b, o + (i * 6 + 2), none⟩ = some (.int .i64 xs[i].f2) ∧ w.cell? ⟨b, o + (i * 6 + 3), none⟩ = some (.int .i64 xs[i].f3) ∧ w.cell? ⟨b, o + (i * 6 + 4), none⟩ = some (.int .i64 xs[i].f4) ∧ w.cell? ⟨b, o + (i * 6 + 5), none⟩ = some (.int .u64 xs[i].f5) := by
      intro n
      induction n with
      | zero => exact fun _ => ⟨[], rfl, fun x hx => by simp at hx, fun i hi => by simp at hi⟩
      | succ n ih =>
        intro hn
        obtain ⟨xs, hxl, hw, hx⟩ := ih (by omega)
        obtain ⟨x, hx', hx5⟩ := key n (by omega)
        refine ⟨xs ++ [x], by simp [hxl], fun y hy => ?_, fun i hi => ?_⟩
        · rcases List.mem_append.1 hy with h | h
          · exact hw y h
          · simp at h; subst h; exact hx5
        by_cases c : i < xs.length
        · rw [List.getElem_append_left c]; exact hx i c
        · obtain rfl : i = xs.length := by simp at hi; omega
          rw [List.getElem_append_right (Nat.le_refl _)]
          simp only [Nat.sub_self, List.getElem_cons_zero]
          rw [hxl]; exact hx'
    obtain ⟨xs, hxl, hw, hx⟩ := list len (Nat.le_refl _)
    refine ⟨xs, hxl, ⟨hxl, hl, fun _ => ⟨_, rfl, fun j p hp => ?_⟩⟩, hw⟩
    obtain ⟨hj, rfl⟩ := List.getElem?_eq_some_iff.1 hp
    obtain ⟨c0, c1, c2, c3, c4, c5⟩ := hx j hj
    have add : ∀ m, (⟨b, o, none⟩ : Addr).add m = ⟨b, o + m, none⟩ := fun m => addr_add b o m
    refine ⟨cellsX xs[j], rfl, ?_, fun i u hu => ?_⟩
    · exact ⟨[_], [_, _, _, _, _], rfl, rfl, [_], [_, _, _, _], rfl, rfl, [_], [_, _, _], rfl, rfl, [_], [_, _], rfl, rfl, [_], [_], rfl, rfl, rfl⟩
    · rw [add]
      match i, hu with
      | 0, hu => cases hu; exact c0
      | 1, hu => cases hu; exact c1
      | 2, hu => cases hu; exact c2
      | 3, hu => cases hu; exact c3
      | 4, hu => cases hu; exact c4
      | 5, hu => cases hu; exact c5
end Go.Proofs.Ytpahjllcomejbaa
