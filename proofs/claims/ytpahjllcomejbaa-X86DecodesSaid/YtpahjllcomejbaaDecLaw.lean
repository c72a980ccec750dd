/- Several texts of this claim in one: each is told where it begins. -/
import Derived.Test.YtpahjllcomejbaaQRefx0
import Derived.Test.YtpahjllcomejbaaRDec
/- The law's examples; no condition. -/
set_option linter.unusedVariables false
set_option linter.unusedSimpArgs false
namespace Go.Proofs.Ytpahjllcomejbaa
open Go.RowKit Go.MapKept
open Go.Proofs.YtpahjllcomejbaaW.PrintWords Go.Proofs.YtpahjllcomejbaaW.PrintLast Go.Proofs.YtpahjllcomejbaaW.PrintMore
open PX86Encodes (S32 k32 x86_reader_next.f)
attribute [local go_sem high] eqX

def cellsX (x : S32) : List Value := [.int .i64 x.f0, .int .i64 x.f1, .int .i64 x.f2, .int .i64 x.f3, .int .i64 x.f4, .int .u64 x.f5]
def flatX : List S32 → List Value
 | [] => []
 | x :: l => cellsX x ++ flatX l
theorem flat_get : ∀ (l : List S32) (j i : Nat) (p : S32), l[j]? = some p → i < 6 → (flatX l)[j * 6 + i]? = (cellsX p)[i]?
 | x :: l, 0, i, p, hp, hi => by
  cases hp
  rw [flatX, List.getElem?_append_left (by simp [cellsX]; omega)]
  simp
 | x :: l, j + 1, i, p, hp, hi => by
  rw [flatX, List.getElem?_append_right (by simp [cellsX]; omega)]
  have : (j + 1) * 6 + i - (cellsX x).length = j * 6 + i := by simp [cellsX]; omega
  rw [this]
  exact flat_get l j i p (by simpa using hp) hi
theorem enc_lits (xs : List S32) (n : Nat) (hn : xs.length = n) (C : Array Value) (hC : (flatX xs).toArray = C) (h5 : ∀ x ∈ xs, 0 ≤ x.f5 ∧ x.f5 < 18446744073709551616) (hl : xs.length ≤ 1000) (r : ByteArray × Int) (hr : encR (encX xs) = r) (W : World) (B : Nat) (hB : W.heap.size = B) :
  Calls Try.prog 6 #[.slice (some ⟨B, 0, none⟩) n n] (W.alloc (.cells C 32)) fun e W' => e = .returned (.tuple #[.string r.1, .int .i64 r.2]) ∧ Fr [] [] W W' := by
 subst hn hC hB hr
 have hb := heap_alloc_new W (.cells (flatX xs).toArray 32)
 have add : ∀ m, (⟨W.heap.size, 0, none⟩ : Addr).add m = ⟨W.heap.size, m, none⟩ := fun m => by unfold Addr.add; split <;> simp_all
 have hK : Kd.C k32 (W.alloc (.cells (flatX xs).toArray 32)) (some ⟨W.heap.size, 0, none⟩) xs.length xs := by
  refine ⟨rfl, by omega, fun _ => ⟨_, rfl, fun j p hp => ⟨cellsX p, rfl, ?_, fun i u hu => ?_⟩⟩⟩
  ·
   exact ⟨[_], [_, _, _, _, _], rfl, rfl, [_], [_, _, _, _], rfl, rfl, [_], [_, _, _], rfl, rfl, [_], [_, _], rfl, rfl, [_], [_], rfl, rfl, rfl⟩
  ·
   have hi : i < 6 := by
    have := (List.getElem?_eq_some_iff.1 hu).1
    simpa [cellsX] using this
   rw [add, cell_at hb]
   have := flat_get xs j i p hp hi
   rw [hu] at this
   show ((flatX xs).toArray)[j * 6 + i]? = some u
   simpa using this
 have := xenc_calls (some ⟨W.heap.size, 0, none⟩) xs.length xs _ hK (Nat.le_refl _) (fun b o _ e => by cases e; simp) h5 (by omega)
 refine this.mono ?_
 rintro e W' ⟨rfl, hbl⟩
 exact ⟨rfl, ((Fr.refl [] W).alloc' _).trans (below_fr hbl)⟩
def DecFr (w0 : World) (x : X6) (n e : Int) (en : Ending) (W : World) : Prop :=
 en = .returned (.tuple #[.agg #[.int .i64 x.1, .int .i64 x.2.1, .int .i64 x.2.2.1, .int .i64 x.2.2.2.1, .int .i64 x.2.2.2.2.1, .int .u64 x.2.2.2.2.2], .int .i64 n, .int .i64 e]) ∧ Fr [] [] w0 W
theorem DecPost.fr {w : World} {x : X6} {n e : Int} {en : Ending} {W : World} (h : DecPost w (x, n, e) en W) : DecFr w x n e en W := ⟨h.1, below_fr h.2⟩
theorem aw_enc : encR (encX [⟨1, 0, 7, 0, 0, 0⟩, ⟨18, 8, 7, 1, 4, 0⟩, ⟨29, 0, 0, 0, 0, 0⟩]) = (⟨#[72, 137, 248, 76, 15, 182, 135, 4, 0, 0, 0, 195]⟩, 0) := by
 have : encX [⟨1, 0, 7, 0, 0, 0⟩, ⟨18, 8, 7, 1, 4, 0⟩, ⟨29, 0, 0, 0, 0, 0⟩] = some [72, 137, 248, 76, 15, 182, 135, 4, 0, 0, 0, 195] := by decide +kernel
 rw [this]; rfl
theorem aw_bad : encR (encX [⟨1, 16, 0, 0, 0, 0⟩]) = (⟨#[]⟩, 30) := by
 have : encX [⟨1, 16, 0, 0, 0, 0⟩] = none := by decide +kernel
 rw [this]; rfl
theorem aw_dec (w : World) : Calls Try.prog 9 #[.string ⟨#[72, 137, 248, 76, 15, 182, 135, 4, 0, 0, 0, 195]⟩, .int .i64 3] w (DecFr w (18, 8, 7, 1, 4, 0) 8 0) := by
 have hlay : (layX ⟨18, 8, 7, 1, 4, 0⟩).1 = [76, 15, 182, 135, 4, 0, 0, 0] := by decide +kernel
 have hg : goodX ⟨18, 8, 7, 1, 4, 0⟩ = true := by decide +kernel
 have hb : ByteL ([72, 137, 248] ++ [76, 15, 182, 135, 4, 0, 0, 0] ++ [195]) := by
  intro c hc
  simp at hc
  omega
 have := dec_good ⟨18, 8, 7, 1, 4, 0⟩ hg (by decide) [72, 137, 248] [195] (by rw [hlay]; exact hb) (by rw [hlay]; simp) (by rw [hlay]; decide) w
 rw [hlay] at this
 exact this.mono fun e W h => h.fr
theorem aw_zero (w : World) : Calls Try.prog 9 #[.string ⟨#[0]⟩, .int .i64 0] w (DecFr w (0, 0, 0, 0, 0, 0) 0 30) := by
 have hn : x86_reader_next.f ⟨#[0]⟩ 0 false = some (0, ⟨#[0]⟩, 1, false) := next_in ⟨#[0]⟩ (by decide) 0 false ⟨by decide, by decide⟩
 have hr : readX 20 ⟨#[0]⟩ 0 = some (0, 0, 0, 0, 0, 0, ⟨#[0]⟩, 1, false) := by
  unfold readX
  rw [hn, Option.bind_some]
  rfl
 have hd := decode_calls 20 ⟨#[0]⟩ 0 1 false 0 0 0 0 0 0 w (by decide) ⟨by decide, by decide⟩ hr (fun _ => ⟨by decide, by decide⟩) (by decide)
 have he : decE ⟨#[0]⟩ 0 ⟨0, 0, 0, 0, 0, 0⟩ 1 false = ((0, 0, 0, 0, 0, 0), 0, 30) := by
  have hx : encX [⟨0, 0, 0, 0, 0, 0⟩] = none := by decide +kernel
  unfold decE
  rw [hx, if_neg (fun c => absurd c.2.1 (by decide))]
 rw [he] at hd
 exact hd.mono fun e W h => h.fr
theorem aw_none (w : World) : Calls Try.prog 9 #[.string ⟨#[]⟩, .int .i64 0] w (DecFr w (0, 0, 0, 0, 0, 0) 0 1) :=
 (dec_arg2 ⟨#[]⟩ 0 w (by decide) (by decide) (by decide)).mono fun e W h => ⟨h.1, below_fr h.2⟩
set_option maxRecDepth 100000 in
set_option maxHeartbeats 4000000 in
theorem awake_calls (w : World) : Calls Try.prog 8 #[] w fun e W => e = .returned (.bool true) ∧ Fr [] [] w W := by
 have hu := Try.underlying22
 have hu3 := Try.underlying32
 have HE3 := hide (enc_lits [⟨1, 0, 7, 0, 0, 0⟩, ⟨18, 8, 7, 1, 4, 0⟩, ⟨29, 0, 0, 0, 0, 0⟩] 3 rfl _ rfl (by intro x hx; simp at hx; rcases hx with rfl | rfl | rfl <;> decide) (by decide) _ aw_enc w _ rfl)
 have HE1 := hide (enc_lits [⟨1, 16, 0, 0, 0, 0⟩] 1 rfl #[.int .i64 1, .int .i64 16, .int .i64 0, .int .i64 0, .int .i64 0, .int .u64 0] rfl (by intro x hx; simp at hx; subst hx; decide) (by decide) _ aw_bad)
 go_enter Try.func8, Try.ntmps8
 go_wp2_with fail
 refine HE3.out.mono ?_
 rintro e W1 ⟨rfl, f1⟩
 have F1 := hide f1
 clear f1
 go_wp2_with fail
 refine (aw_dec W1).mono ?_
 rintro e W2 ⟨rfl, f2⟩
 have F2 := hide (F1.out.trans f2)
 clear f2
 have HX2 := hide (heap_alloc_new W2 (boxed 18 8 7 1 4 0))
 clear HE3
 go_wp2_with fail
 refine (aw_zero _).mono ?_
 rintro e W3 ⟨rfl, f3⟩
 have HX3 := hide (f3.keep HX2.out (by simp))
 have F3 := hide ((F2.out.alloc' _).trans f3)
 clear f3
 go_wp2_with fail
 refine (aw_none _).mono ?_
 rintro e W4 ⟨rfl, f4⟩
 have HX4 := hide (f4.keep (heap_alloc_some HX3.out) (by simp))
 have F4 := hide ((F3.out.alloc' _).trans f4)
 clear f4
 go_wp2_with fail
 (with_reducible refine (HE1.out _ _ ?_).mono ?_)
 simp
 rintro e W5 ⟨rfl, f5⟩
 obtain ⟨c0, c1, c2, c3, c4, c5⟩ := box_at (f5.keep (heap_alloc_some HX4.out) (by simp))
 have F5 := hide ((F4.out.alloc' _).trans f5)
 clear f5
 go_wp2
 go_ret
 exact ⟨rfl, F5.out⟩
end Go.Proofs.Ytpahjllcomejbaa

/- X86Decodes: at each place the program tells what the reference tells; condition: the text is no longer than a string may be. -/
set_option linter.unusedVariables false
set_option linter.unusedSimpArgs false
namespace Go.Proofs.Ytpahjllcomejbaa
open Go.RowKit Go.MapKept
open Go.Proofs.YtpahjllcomejbaaW.PrintWords Go.Proofs.YtpahjllcomejbaaW.PrintLast Go.Proofs.YtpahjllcomejbaaW.PrintMore

theorem bytes_of (S : ByteArray) : ∃ bs, ByteL bs ∧ S = strOfNums bs := by
  refine ⟨S.data.toList.map fun x => (x.toNat : Int), fun b hb => ?_, ?_⟩
  · obtain ⟨x, _, rfl⟩ := List.mem_map.1 hb
    have := x.toNat_lt
    omega
  · apply ByteArray.ext
    apply Array.ext'
    simp [strOfNums, Function.comp_def]
theorem enc_good (x : PX86Encodes.S32) (h : (encR (encX [x])).2 = 0) : goodX x = true ∧ (encR (encX [x])).1 = strOfNums (layX x).1 := by
  by_cases hg : goodX x = true
  · exact ⟨hg, by rw [encX_one x hg]; rfl⟩
  · rw [show encX [x] = none by unfold encX; rw [if_neg hg]] at h
    cases h
/-- Where no try fits, the program finds nothing. -/
theorem rdec_none (bs : List Int) (hl : ByteL bs) (hs : bs.length ≤ 9223372036854775807) (a : Nat) (ha : a < bs.length) (hno : ∀ p ∈ kcs 29, ∀ d r : Nat, d < 16 → r < 16 → hit p.1 p.2 ((bs.drop a).take 12) d r = none) :
    Rdec (strOfNums bs) a = ((0, 0, 0, 0, 0, 0), 0, 30) := by
  have hsz : (strOfNums bs).size = bs.length := strOfNums_size _
  obtain ⟨r1, r2, r3, r4, r5, r6, a2, e2, h0, h1, h2, h3⟩ := readX_some (s := strOfNums bs) (by rw [hsz]; exact hs) (a : Int) ⟨by omega, by rw [hsz]; omega⟩
  unfold Rdec
  rw [h0]
  dsimp only
  unfold decE
  split
  · rename_i hc
    exfalso
    obtain ⟨_, c1, c2⟩ := hc
    obtain ⟨hg, he⟩ := enc_good _ c1
    obtain ⟨g1, g2⟩ := good_bare _ hg
    have hlt : (layX ⟨r1, r2, r3, r4, r5, r6⟩).1 = (bs.drop a).take (a2.toNat - a) := by
      refine str_inj _ _ (layS_bytes _ _ _ _ _ _) (fun b hb => hl b (List.mem_of_mem_drop (List.mem_of_mem_take hb))) ?_
      rw [← he, c2, ext_mid]
      rfl
    have hne : (layX ⟨r1, r2, r3, r4, r5, r6⟩).1 ≠ [] := layS_ne _ _ _ _ _ _ g1
    have h12 : (layX ⟨r1, r2, r3, r4, r5, r6⟩).1.length ≤ 12 := lay_len12 _ _ _ _ _ _
    have hlen : (layX ⟨r1, r2, r3, r4, r5, r6⟩).1.length = a2.toNat - a := by
      rw [hlt, List.length_take, List.length_drop]
      have := h2.2
      rw [hsz] at this
      omega
    obtain ⟨p, hp, d, r, hd, hr, hh⟩ := hit_complete ⟨r1, r2, r3, r4, r5, r6⟩ ((bs.drop a).take 12) hg h3 hne (by
      rw [List.take_take, Nat.min_eq_left h12, hlen, ← hlt])
    exact hh (hno p hp d r hd hr)
  · rfl
/-- What is found is what the program finds. -/
theorem rdec_some (bs : List Int) (hl : ByteL bs) (hs : bs.length ≤ 9223372036854775807) (a : Nat) (ha : a < bs.length) (k0 k1 : Int) (d r : Int) (y : X6) (h : hit k0 k1 ((bs.drop a).take 12) d r = some y) :
    Rdec (strOfNums bs) a = (y, (((okX y).length : Nat) : Int), 0) := by
  obtain ⟨g, e1, hne, ht, h5⟩ := hit_sound k0 k1 _ (fun b hb => hl b (List.mem_of_mem_drop (List.mem_of_mem_take hb))) d r y h
  have hle := take_pre ht hne
  have ht' : okX y = (bs.drop a).take (okX y).length := by
    rw [List.take_take, Nat.min_eq_left (by rw [List.length_take] at hle; omega)] at ht
    exact ht
  have hsp : bs = bs.take a ++ okX y ++ (bs.drop a).drop (okX y).length := by
    conv => lhs; rw [← List.take_append_drop a bs, ← List.take_append_drop (okX y).length (bs.drop a), ← ht']
    rw [List.append_assoc]
  have := rdec_hit (stX y) g h5 (bs.take a) ((bs.drop a).drop (okX y).length) (by rw [e1, ← hsp]; exact hl) (by rw [e1, ← hsp]; exact hs)
  rw [e1, ← hsp, List.length_take, Nat.min_eq_left (by omega)] at this
  rw [this]
  rfl
/-- What both tell of a place. -/
def RRes (S : ByteArray) (a : Int) : X6 × Int × Int := if a < 0 ∨ S.size ≤ a then ((0, 0, 0, 0, 0, 0), 0, 1) else Rdec S a
theorem xdec_both (S : ByteArray) (hs : S.size ≤ 9223372036854775807) (a : Int) (W : World) : Calls Try.prog 9 #[.string S, .int .i64 a] W (DecPost W (RRes S a)) := by
  unfold RRes
  by_cases c : a < 0
  · rw [if_pos (.inl c)]; exact dec_arg1 S a W hs c
  · by_cases c2 : S.size ≤ a
    · rw [if_pos (.inr c2)]; exact dec_arg2 S a W hs (by omega) c2
    · rw [if_neg (by omega)]; exact rdec_calls S hs a (by omega) W
theorem rdec_both (S : ByteArray) (hs : S.size ≤ 9223372036854775807) (a : Int) (h20 : a ≤ 20) (W : World) : Calls Try.prog 10 #[.string S, .int .i64 a] W (DecPost W (RRes S a)) := by
  unfold RRes
  by_cases c : a < 0 ∨ S.size ≤ a
  · rw [if_pos c]; exact ref_arg S hs a c W
  · rw [if_neg c]
    obtain ⟨bs, hl, rfl⟩ := bytes_of S
    have hsz : (strOfNums bs).size = bs.length := strOfNums_size _
    rw [hsz] at c hs
    obtain ⟨n, rfl⟩ := Int.eq_ofNat_of_zero_le (show 0 ≤ a by omega)
    refine (refdec_calls bs hl n (by omega) (by omega) hs W).mono ?_
    rintro e W' ⟨y, m, f, rfl, hb, ⟨rfl, rfl, p, hp, d, r, hd, hr, hh⟩ | ⟨rfl, rfl, rfl, hno⟩⟩
    · rw [rdec_some bs hl hs n (by omega) p.1 p.2 d r y hh]
      exact ⟨rfl, hb⟩
    · rw [rdec_none bs hl hs n (by omega) hno]
      exact ⟨rfl, hb⟩
def DRel (w : World) (v : Value) (wr : World) : Prop := ∃ i : Nat, i ≤ 22 ∧ v = .int .i64 ((i : Int) - 1) ∧ Fr [] [] w wr
set_option maxRecDepth 100000 in
set_option maxHeartbeats 2000000 in
theorem decodes_calls (S : ByteArray) (hs : S.size ≤ 9223372036854775807) (w : World) :
    Calls Try.prog 4 #[.string S] w fun e W => e = .returned (.bool true) ∧ Below w.heap.size w W := by
  have hu3 := Try.underlying32
  have HX := hide (xdec_both S hs)
  have HR := hide (rdec_both S hs)
  obtain ⟨M, hM⟩ : ∃ M : Nat, M = min S.size 20 := ⟨_, rfl⟩
  have hmn : ∀ W, (Builtin.min_ #[3, 3] 3 #[.int .i64 S.size, .int .i64 20]).run Try.prog W = .ok (.int .i64 M) W := fun W => by
    rw [run_min_int2]
    congr 2
    split <;> omega
  have hM0 : (0 : Int) ≤ M := by omega
  have hM1 : (M : Int) ≤ 20 := by omega
  clear hM
  go_enter Try.func4, Try.ntmps4
  go_wp2_with fail
  go_loopw [3] (fun v wr => DRel w v wr) (fun v _ => 22 - (intOf v + 1).toNat)
  case atStart => exact ⟨0, by omega, rfl, Fr.refl _ _⟩
  case round =>
    obtain ⟨i, hi, rfl, hfr⟩ := hrel
    have HF := hide hfr
    clear hfr
    by_cases hlt : (i : Int) - 1 ≤ M
    · have hi0 : (0 : Int) ≤ i := by omega
      have hi1 : (i : Int) ≤ 21 := by omega
      have HXi := hide (HX.out ((i : Int) - 1))
      have HRi := hide (HR.out ((i : Int) - 1) (by omega))
      generalize RRes S ((i : Int) - 1) = R at HXi HRi
      obtain ⟨⟨x0, x1, x2, x3, x4, x5⟩, m, f⟩ := R
      go_wp2_with fail
      refine (HXi.out _).mono ?_
      rintro e W2 ⟨rfl, b2⟩
      have HA := hide (heap_alloc_new W2 (boxed x0 x1 x2 x3 x4 x5))
      have HF2 := hide ((HF.out.trans (below_fr b2)).alloc' (boxed x0 x1 x2 x3 x4 x5))
      clear b2
      unfold boxed at HA HF2
      go_wp2_with fail
      refine (HRi.out _).mono ?_
      rintro e W4 ⟨rfl, b4⟩
      have HA4 := hide ((Fr.refl [] W4).keep ((below_fr b4).keep HA.out (by simp)) (by simp))
      have HB4 := hide (heap_alloc_new W4 (boxed x0 x1 x2 x3 x4 x5))
      have HA5 := hide (heap_alloc_some (o := boxed x0 x1 x2 x3 x4 x5) HA4.out)
      have HF4 := hide ((HF2.out.trans (below_fr b4)).alloc' (boxed x0 x1 x2 x3 x4 x5))
      clear b4
      obtain ⟨a0, a1, a2, a3, a4, a5⟩ := box_at HA5.out
      obtain ⟨q0, q1, q2, q3, q4, q5⟩ := box_at HB4.out
      unfold boxed at *
      go_wp2_with fail
      exact ⟨⟨i + 1, by omega, by congr 1; omega, HF4.out⟩, by show 22 - ((i : Int) + 1).toNat < 22 - ((i : Int) - 1 + 1).toNat; omega⟩
    · have hlt1 : ¬ (i : Int) - 1 ≤ M := hlt
      go_wp2_with fail
      refine (awake_calls _).mono ?_
      rintro e W2 ⟨rfl, f2⟩
      have B2 := hide ((HF.out.trans f2).below (B := w.heap.size) (Nat.le_refl _) (by simp))
      clear f2
      go_wp2
      go_ret
      exact ⟨rfl, B2.out⟩
end Go.Proofs.Ytpahjllcomejbaa
