/- The reference's Decode: the first kind with a pair of registers that fits; condition: the place lies within the text, and among its first twenty-one. -/
import Derived.Test.YtpahjllcomejbaaGuess
import Derived.Test.YtpahjllcomejbaaHitLaw
set_option linter.unusedVariables false
set_option linter.unusedSimpArgs false
namespace Go.Proofs.Ytpahjllcomejbaa
open Go.RowKit Go.MapKept
open Go.Proofs.YtpahjllcomejbaaW.PrintWords Go.Proofs.YtpahjllcomejbaaW.PrintLast Go.Proofs.YtpahjllcomejbaaW.PrintMore

theorem ext_mid (l : List Int) (i j : Nat) : (strOfNums l).extract i j = strOfNums ((l.drop i).take (j - i)) := by
  apply ByteArray.ext
  simp only [strOfNums, ByteArray.data_extract]
  apply Array.ext'
  simp [strOfNums, List.extract_eq_take_drop, List.map_take, List.map_drop]
theorem kcell_at : ∀ (l : List (Int × Int)) (i : Nat) (p : Int × Int), l[i]? = some p → (kcell l)[i * 2]? = some (.int .i64 p.1) ∧ (kcell l)[i * 2 + 1]? = some (.int .i64 p.2)
  | [], i, p, h => by simp at h
  | q :: l, 0, p, h => by simp at h; subst h; exact ⟨rfl, rfl⟩
  | q :: l, i + 1, p, h => by
    have := kcell_at l i p (by simpa using h)
    have e : kcell (q :: l) = .int .i64 q.1 :: .int .i64 q.2 :: kcell l := rfl
    rw [e, show (i + 1) * 2 = i * 2 + 1 + 1 by omega]
    simpa using this
theorem own_at {w : World} {base e n g m c : Nat} {l : List (Int × Int)} (h : w.ownsRow base e 2 (.slice (some ⟨g, 0, none⟩) m c) n (kcell l)) (i : Nat) (p : Int × Int) (hp : l[i]? = some p) :
    w.cell? ⟨g, i * 2, none⟩ = some (.int .i64 p.1) ∧ w.cell? ⟨g, i * 2 + 1, none⟩ = some (.int .i64 p.2) := by
  have add : ∀ m, (⟨g, 0, none⟩ : Addr).add m = ⟨g, m, none⟩ := fun m => by unfold Addr.add; split <;> simp_all
  obtain ⟨h1, h2⟩ := kcell_at l i p hp
  have a1 := h.cells (g := g) rfl _ _ h1
  have a2 := h.cells (g := g) rfl _ _ h2
  rw [add] at a1 a2
  exact ⟨a1, a2⟩
theorem put_res {w W : World} {y0 y1 y2 y3 y4 y5 : Int} (hz : W.heap[w.heap.size]? = some (boxed y0 y1 y2 y3 y4 y5)) (h : Fr [] [] w W) (x0 x1 x2 x3 x4 x5 : Int) :
    (put6 W w.heap.size x0 x1 x2 x3 x4 x5).heap[w.heap.size]? = some (boxed x0 x1 x2 x3 x4 x5) ∧ Below w.heap.size w (put6 W w.heap.size x0 x1 x2 x3 x4 x5) := by
  constructor
  · unfold boxed at hz
    exact heap_setCell_same (heap_setCell_same (heap_setCell_same (heap_setCell_same (heap_setCell_same (heap_setCell_same hz)))))
  · exact ((((((h.setCell' (a := ⟨_, _, none⟩) (.inr (by simp)) _).setCell' (a := ⟨_, _, none⟩) (.inr (by simp)) _).setCell' (a := ⟨_, _, none⟩) (.inr (by simp)) _).setCell' (a := ⟨_, _, none⟩) (.inr (by simp)) _).setCell' (a := ⟨_, _, none⟩) (.inr (by simp)) _).setCell' (a := ⟨_, _, none⟩) (.inr (by simp)) _).below (Nat.le_refl _) (by simp)
set_option maxRecDepth 100000 in
set_option maxHeartbeats 2000000 in
/-- A place that is none. -/
theorem ref_arg (S : ByteArray) (hs : S.size ≤ 9223372036854775807) (a : Int) (h : a < 0 ∨ S.size ≤ a) (w : World) : Calls Try.prog 10 #[.string S, .int .i64 a] w (DecPost w ((0, 0, 0, 0, 0, 0), 0, 1)) := by
  have hu3 := Try.underlying32
  have HZ := hide (heap_alloc_new w (boxed 0 0 0 0 0 0))
  have HB : Hid (Below w.heap.size w (w.alloc (boxed 0 0 0 0 0 0))) := hide (((Fr.refl [] w).alloc' _).below (Nat.le_refl _) (by simp))
  unfold boxed at *
  by_cases c : a < 0
  · have t0 : decide (a < 0) = true := by simpa using c
    go_enter Try.func10, Try.ntmps10
    go_wp2
    exact bodyPost_ret (results_ctt rfl _ _ w.heap.size 32 _ (0, 0) _ rfl HZ.out hu3 rfl rfl) rfl ⟨rfl, HB.out⟩
  · have t0 : decide (a < 0) = false := by simpa using c
    have t1 : decide ((S.size : Int) ≤ a) = true := by simp; omega
    clear h
    go_enter Try.func10, Try.ntmps10
    go_wp2
    exact bodyPost_ret (results_ctt rfl _ _ w.heap.size 32 _ (0, 0) _ rfl HZ.out hu3 rfl rfl) rfl ⟨rfl, HB.out⟩
/-- What the loop over kinds knows. -/
def RDIn (w : World) (sb : List Int) (g : Nat) (n c : Nat) (v : Value) (wr : World) : Prop :=
  ∃ i : Nat, i ≤ n ∧ v = .int .i64 i ∧ wr.heap[w.heap.size]? = some (boxed 0 0 0 0 0 0) ∧ Fr [] [] w wr ∧ wr.ownsRow (w.heap.size + 1) 57 2 (.slice (some ⟨g, 0, none⟩) n c) n (kcell (kcs 29)) ∧
    ∀ j : Nat, j < i → ∀ p, (kcs 29)[j]? = some p → ∀ d r : Nat, d < 16 → r < 16 → hit p.1 p.2 sb d r = none
def RDPost (w : World) (sb : List Int) (e : Ending) (W : World) : Prop :=
  ∃ (y : X6) (m f : Int), e = .returned (.tuple #[.agg #[.int .i64 y.1, .int .i64 y.2.1, .int .i64 y.2.2.1, .int .i64 y.2.2.2.1, .int .i64 y.2.2.2.2.1, .int .u64 y.2.2.2.2.2], .int .i64 m, .int .i64 f]) ∧ Below w.heap.size w W ∧
    ((f = 0 ∧ m = ((okX y).length : Nat) ∧ ∃ p ∈ kcs 29, ∃ d r : Nat, d < 16 ∧ r < 16 ∧ hit p.1 p.2 sb d r = some y) ∨ (f = 30 ∧ y = (0, 0, 0, 0, 0, 0) ∧ m = 0 ∧ ∀ p ∈ kcs 29, ∀ d r : Nat, d < 16 → r < 16 → hit p.1 p.2 sb d r = none))
theorem kcs_40 : (kcs 29).length = 40 := by decide
set_option maxRecDepth 100000 in
set_option maxHeartbeats 4000000 in
theorem refdec_calls (bs : List Int) (hl : ByteL bs) (a : Nat) (ha : a < bs.length) (h20 : a ≤ 20) (hs : bs.length ≤ 9223372036854775807) (w : World) :
    Calls Try.prog 10 #[.string (strOfNums bs), .int .i64 a] w (RDPost w ((bs.drop a).take 12)) := by
  have hu3 := Try.underlying32
  have hsz : (strOfNums bs).size = bs.length := strOfNums_size _
  have HT : Hid ((strOfNums bs).extract a (min bs.length (a + 12)) = strOfNums ((bs.drop a).take 12)) := hide (by
    rw [ext_mid]
    congr 1
    apply List.ext_getElem?
    intro i
    simp only [List.getElem?_take, List.getElem?_drop]
    split <;> split <;> first | rfl | (rw [List.getElem?_eq_none]; omega) | (rw [eq_comm, List.getElem?_eq_none]; omega) | omega)
  have hsbl : ((bs.drop a).take 12).length ≤ 12 := by simp; omega
  have hsb : ByteL ((bs.drop a).take 12) := fun b hb => hl b (List.mem_of_mem_drop (List.mem_of_mem_take hb))
  have HG := hide (fun k0 k1 S hS W => guess_calls k0 k1 ((bs.drop a).take 12) hsb hsbl S hS W)
  have HSB := hide hsb
  generalize (bs.drop a).take 12 = sb at *
  clear hsbl hsb hl
  rw [← hsz] at ha hs HT
  generalize strOfNums bs = S at *
  clear hsz
  obtain ⟨E, hE⟩ : ∃ E : Nat, E = min S.size (a + 12) := ⟨_, rfl⟩
  have hmn : ∀ W, (Builtin.min_ #[3, 3] 3 #[.int .i64 S.size, .int .i64 ((a : Int) + 12)]).run Try.prog W = .ok (.int .i64 E) W := fun W => by
    rw [run_min_int2]
    congr 2
    split <;> omega
  rw [← hE] at HT
  have hE1 : a ≤ E ∧ E ≤ S.size := by omega
  have ha0 : 0 ≤ (a : Int) := by omega
  have ha1 : (a : Int) < S.size := by omega
  have ha2 : (a : Int) ≤ E := by omega
  have ha3 : (E : Int) ≤ S.size := by omega
  have HZ := hide (heap_alloc_new w (boxed 0 0 0 0 0 0))
  unfold boxed at HZ
  clear hE hE1
  go_enter Try.func10, Try.ntmps10
  go_wp2_with fail
  refine (kinds_calls _).mono ?_
  rintro e W1 ⟨v, rfl, ho, f1⟩
  rw [kcs_40] at ho
  obtain ⟨g, c, rfl⟩ : ∃ g c, v = .slice (some ⟨g, 0, none⟩) 40 c := by
    rcases ho.2 with ⟨_, h⟩ | ⟨g, cap, cur, h, _⟩
    · omega
    · exact ⟨g, cap, h⟩
  have HS0 : Hid (RDIn w sb g 40 c (.int .i64 0) W1) := hide ⟨0, by omega, rfl, f1.keep HZ.out (by simp), ((Fr.refl [] w).alloc' _).trans f1, by simpa using ho, fun j hj => by omega⟩
  clear ho f1
  go_wp2_with fail
  go_loopw [9] (fun v wr => RDIn w sb g 40 c v wr) (fun v _ => 40 - (intOf v).toNat)
  case atStart => exact HS0.out
  case round =>
    obtain ⟨i, hi, rfl, hz, hfr, ho, hno⟩ := hrel
    clear HS0
    have HZ2 := hide hz
    have HF := hide hfr
    have HO := hide ho
    have HNO := hide hno
    clear hz hfr ho hno HZ
    by_cases hlt : i < 40
    · obtain ⟨p, hp⟩ : ∃ p, (kcs 29)[i]? = some p := ⟨(kcs 29)[i]'(by rw [kcs_40]; exact hlt), List.getElem?_eq_getElem _⟩
      obtain ⟨c0, c1⟩ := own_at HO.out i p hp
      have HP := hide hp
      have hi0 : (0 : Int) ≤ i := by omega
      have hi1 : (i : Int) < 40 := by omega
      clear hp
      obtain ⟨p0, p1⟩ := p
      go_wp2_with fail
      refine (HG.out p0 p1 _ HT.out _).mono ?_
      rintro e W2 ⟨⟨y0, y1, y2, y3, y4, y5⟩, ok, rfl, b2, hok, hnok⟩
      have HF2 := hide ((HF.out.trans (below_fr b2)).alloc' (boxed y0 y1 y2 y3 y4 y5))
      have HZ3 := hide (heap_alloc_some (o := boxed y0 y1 y2 y3 y4 y5) ((below_fr b2).keep HZ2.out (by simp)))
      have HX3 := hide (heap_alloc_new W2 (boxed y0 y1 y2 y3 y4 y5))
      have HO3 : Hid ((W2.alloc (boxed y0 y1 y2 y3 y4 y5)).ownsRow (w.heap.size + 1) 57 2 (.slice (some ⟨g, 0, none⟩) 40 c) 40 (kcell (kcs 29))) := hide ((pw_own_below HO.out b2).alloc _)
      have HOK := hide hok
      have HNOK := hide hnok
      clear b2 hok hnok HF HZ2 HO
      unfold boxed at HF2 HZ3 HX3 HO3
      cases ok with
      | true =>
        obtain ⟨d, r, hd, hr, hh⟩ := HOK.out rfl
        have HH := hide hh
        obtain ⟨hs1, _, hs2, _, hs4⟩ := hit_sound p0 p1 sb HSB.out d r _ hh
        obtain ⟨hs5, hs6⟩ := good_bare _ hs1
        have HLAY := hide (fun W => rlay_calls y0 y1 y2 y3 y4 y5 W hs6 (hit_fits _ _ _ _ _ _ hh) hs4)
        have HTZ : Hid ((strOfNums (okB y0 y1 y2 y3 y4 y5)).size = (okX (y0, y1, y2, y3, y4, y5)).length) := hide (strOfNums_size _)
        generalize strOfNums (okB y0 y1 y2 y3 y4 y5) = T at HLAY HTZ
        clear hh hs1 hs2 hs4 hs5 hs6
        dsimp only at *
        go_wp2_with fail
        generalize W2.alloc _ = W3 at HF2 HZ3 HX3 HO3 ⊢
        obtain ⟨x0, x1, x2, x3, x4, x5⟩ := box_at HX3.out
        have HRES := hide (fun W (h : Fr [] [] W3 W) => put_res (h.keep HZ3.out (by simp)) (HF2.out.trans h) y0 y1 y2 y3 y4 y5)
        have HCX := hide (fun W (h : Fr [] [] W3 W) => box_at (h.keep HX3.out (by simp)))
        have HCZ : Hid (∀ W, Fr [] [] W3 W → ∀ i, W.frozen? ⟨w.heap.size, i, none⟩ = false) := hide (fun W h i => frozen_at (h.keep HZ3.out (by simp)) i)
        have HCB := hide (fun W (h : Fr [] [] W3 W) => box_at (h.keep HZ3.out (by simp)))
        go_region_with (go_at_call 20; refine (HLAY.out _).mono ?_; rintro e W7 ⟨rfl, f7⟩; have HF7 : Hid (Fr [] [] W3 W7) := hide (by first | exact f7 | exact ((Fr.refl [] W3).drewN' _).trans f7 | exact ((Fr.refl [] W3).drew').trans f7); have HR7 := hide (HRES.out _ HF7.out); have ⟨e0, e1, e2, e3, e4, e5⟩ := HCX.out _ HF7.out; have ⟨q0, q1, q2, q3, q4, q5⟩ := HCB.out _ HF7.out; have fz := HCZ.out _ HF7.out; have fz0 := fz 0; have fz1 := fz 1; have fz2 := fz 2; have fz3 := fz 3; have fz4 := fz 4; have fz5 := fz 5; clear f7 fz)
        all_goals
          go_wp2_with fail
          unfold put6 boxed at HR7
          exact bodyPost_ret (results_ctt rfl _ _ w.heap.size 32 _ (0, 0) _ rfl HR7.out.1 hu3 rfl rfl) rfl ⟨(y0, y1, y2, y3, y4, y5), (T.size : Int), 0, rfl, HR7.out.2, .inl ⟨rfl, by rw [HTZ.out], (p0, p1), List.mem_of_getElem? HP.out, d, r, hd, hr, HH.out⟩⟩
      | false =>
        have HNN := hide (HNOK.out rfl)
        have HN : Hid (RDIn w sb g 40 c (.int .i64 ((i : Int) + 1)) (W2.alloc (boxed y0 y1 y2 y3 y4 y5))) := hide ⟨i + 1, by omega, by simp, HZ3.out, HF2.out, HO3.out, fun j hj p hp d r hd hr => by
          by_cases cj : j < i
          · exact HNO.out j cj p hp d r hd hr
          · obtain rfl : j = i := by omega
            have := HP.out
            rw [hp] at this
            cases this
            exact HNN.out d r hd hr⟩
        unfold boxed at HN
        dsimp only at *
        go_wp2
        exact ⟨HN.out, by show 40 - ((i : Int) + 1).toNat < 40 - ((i : Int)).toNat; omega⟩
    · have hlt1 : ¬ (i : Int) < 40 := by omega
      obtain rfl : i = 40 := by omega
      have HR7 := hide (put_res HZ2.out HF.out 0 0 0 0 0 0)
      obtain ⟨q0, q1, q2, q3, q4, q5⟩ := box_at HZ2.out
      have fz : ∀ i, wr.frozen? ⟨w.heap.size, i, none⟩ = false := fun i => by have := HZ2.out; unfold boxed at this; exact frozen_at this i
      have fz0 := fz 0
      have fz1 := fz 1
      have fz2 := fz 2
      have fz3 := fz 3
      have fz4 := fz 4
      have fz5 := fz 5
      have HALL : Hid (∀ p ∈ kcs 29, ∀ d r : Nat, d < 16 → r < 16 → hit p.1 p.2 sb d r = none) := hide fun p hp d r hd hr => by
        obtain ⟨j, hj, rfl⟩ := List.getElem_of_mem hp
        exact HNO.out j (by rw [kcs_40] at hj; exact hj) _ (List.getElem?_eq_getElem hj) d r hd hr
      clear fz HNO HO
      unfold put6 boxed at HR7
      go_wp2
      exact bodyPost_ret (results_ctt rfl _ _ w.heap.size 32 _ (0, 0) _ rfl HR7.out.1 hu3 rfl rfl) rfl ⟨(0, 0, 0, 0, 0, 0), 0, 30, rfl, HR7.out.2, .inr ⟨rfl, rfl, rfl, HALL.out⟩⟩
end Go.Proofs.Ytpahjllcomejbaa
