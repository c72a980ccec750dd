/- MapsProgs: what was put is there, what was deleted is not, Next tells them rising; condition: the lists lie in memory. -/
import Derived.Test.YtgkbiknokpmjmaaMNext
import Derived.Test.YtgkbiknokpmjmaaMAwake
import Derived.Test.YtgkbiknokpmjmaaRLe2
import Derived.Test.YtgkbiknokpmjmaaOpen
import Derived.Deep.DeepCutAuto
set_option linter.unusedVariables false
set_option linter.unusedSimpArgs false
namespace Go.Proofs.Ytgkbiknokpmjmaa
open Go.RowKit Go.MapKept Go.Maps

theorem mod16_nat (x : Int) : ∃ i : Nat, i < 16 ∧ (x.tmod 16 + 16).tmod 16 = (i : Int) ∧ -16 < x.tmod 16 ∧ x.tmod 16 < 16 := by
  have h1 : -16 < x.tmod 16 := by have := Int.lt_tmod_of_pos x (b := 16) (by omega); omega
  have h2 : x.tmod 16 < 16 := Int.tmod_lt_of_pos x (by omega)
  refine ⟨((x.tmod 16 + 16).tmod 16).toNat, ?_, ?_, h1, h2⟩
  · rw [Int.tmod_eq_emod_of_nonneg (by omega)]; omega
  · rw [Int.tmod_eq_emod_of_nonneg (by omega)]; omega
/-- A list of whole numbers in memory. -/
def OrdAt (w : World) (a : Option Addr) (len : Nat) : Prop := ∀ i, i < len → ∃ (b o : Nat) (z : Int), a = some ⟨b, o, none⟩ ∧ b < w.heap.size ∧ W64 z ∧ w.cell? ⟨b, o + i, none⟩ = some (.int .i64 z)
theorem ord_row {w : World} {a : Option Addr} {len cap : Nat} {zs : List Int} (h : RowI .i64 w a len cap zs) : OrdAt w a len := by
  intro i hi
  rcases h with ⟨rfl, rfl, _⟩ | ⟨x, rfl, h1, h2, h3, h4, h5⟩
  · omega
  · have hc := h4 i (by omega)
    obtain ⟨b, o, k⟩ := x
    cases k with
    | none =>
      rw [addr_add] at hc
      refine ⟨b, o, zs.getD i 0, rfl, World.block_lt_of_cell? _ _ hc, ?_, hc⟩
      have hi2 : i < zs.length := by omega
      rw [List.getD_eq_getElem?_getD, List.getElem?_eq_getElem hi2]
      exact h5 _ (List.getElem_mem hi2)
    | some q =>
      have hc0 := h4 0 (by omega)
      simp only [World.cell?, Addr.add, if_true] at hc0
      split at hc0
      · simp at hc0
      · cases hc0
theorem nats_bstr4 (k : Nat) (h : k < 4294967296) : leNum (nats (bstr (leBytes k 4))) = k := by
  rw [nats_bstr _ (leBytes_lt k 4), leNum_leBytes]
  omega
theorem size_bstr4 (k : Nat) : (bstr (leBytes k 4)).size = 4 := by rw [size_bstr, length_leBytes]
/-- What the law keeps beside. -/
structure HB (wr : World) (hb : Nat) (g : Nat → Nat) : Prop where
  ex : ∃ cs : Array Value, wr.heap[hb]? = some (.cells cs 31 (0, 0)) ∧ ∀ j, j < 16 → cs[j]? = some (.int .i64 (g j))
theorem HB.cell {wr : World} {hb : Nat} {g : Nat → Nat} (h : HB wr hb g) (j : Nat) (hj : j < 16) : wr.cell? ⟨hb, j, none⟩ = some (.int .i64 (g j)) ∧ wr.frozen? ⟨hb, j, none⟩ = false := by
  obtain ⟨cs, h1, h2⟩ := h.ex
  simp [World.cell?, World.frozen?, h1, h2 j hj]
theorem HB.set {wr : World} {hb : Nat} {g : Nat → Nat} (h : HB wr hb g) (j : Nat) (hj : j < 16) (v : Nat) : HB (wr.setCell ⟨hb, j, none⟩ (.int .i64 v)) hb (fun i => if i = j then v else g i) := by
  obtain ⟨cs, h1, h2⟩ := h.ex
  refine ⟨_, heap_setCell_same h1, fun i hi => ?_⟩
  have hs : j < cs.size := (Array.getElem?_eq_some_iff.1 (h2 j hj)).1
  rw [Array.getElem?_setIfInBounds]
  by_cases e : i = j
  · subst e; simp [hs]
  · rw [if_neg (fun e2 => e e2.symm), if_neg e]; exact h2 i hi
theorem HB.frame {wr w2 : World} {hb : Nat} {g : Nat → Nat} (h : HB wr hb g) (e : w2.heap[hb]? = wr.heap[hb]?) : HB w2 hb g := by
  obtain ⟨cs, h1, h2⟩ := h.ex
  exact ⟨cs, e.trans h1, h2⟩
theorem HB.lt {wr : World} {hb : Nat} {g : Nat → Nat} (h : HB wr hb g) : hb < wr.heap.size := by
  obtain ⟨cs, h1, h2⟩ := h.ex
  exact lt_of_heap h1
def Told (f : Lit → Option Int) (g : Nat → Nat) : Prop := ∀ z : Int, f (ik z) = if 0 ≤ z ∧ z < 16 ∧ g z.toNat ≠ 0 then some (g z.toNat : Int) else none
theorem ik_ne {x y : Int} (h : x ≠ y) : ik x ≠ ik y := fun e => h (by unfold ik at e; injection e)
theorem Told.put {f : Lit → Option Int} {g : Nat → Nat} (h : Told f g) (k v : Nat) (hk : k < 16) (hv : 0 < v) : Told (upd f (ik (k : Nat)) (some (v : Int))) (fun i => if i = k then v else g i) := by
  intro z
  by_cases e : z = (k : Int)
  · subst e
    rw [upd_same]
    simp
    omega
  · rw [upd_other _ _ (ik_ne e), h z]
    by_cases h0 : 0 ≤ z
    · have : z.toNat ≠ k := by omega
      simp [this]
    · simp [h0]
theorem Told.drop {f : Lit → Option Int} {g : Nat → Nat} (h : Told f g) (k : Nat) (hk : k < 16) : Told (upd f (ik (k : Nat)) none) (fun i => if i = k then 0 else g i) := by
  intro z
  by_cases e : z = (k : Int)
  · subst e
    rw [upd_same]
    simp
  · rw [upd_other _ _ (ik_ne e), h z]
    by_cases h0 : 0 ≤ z
    · have : z.toNat ≠ k := by omega
      simp [this]
    · simp [h0]
theorem Told.at {f : Lit → Option Int} {g : Nat → Nat} (h : Told f g) (k : Nat) (hk : k < 16) : (f (ik (k : Nat))).isSome = decide (g k ≠ 0) ∧ (f (ik (k : Nat))).getD 0 = (g k : Int) := by
  rw [h k]
  by_cases e : g k = 0
  · simp [e]
  · have : (k : Int) < 16 := by omega
    simp [e, this]
structure QS (w : World) (hb x b n : Nat) (f : Lit → Option Int) (g : Nat → Nat) (wr : World) : Prop where
  pm : PM wr x b n 16 false f
  hh : HB wr hb g
  tl : Told f g
  gb : ∀ j, g j ≤ 60
  bl : Below w.heap.size w wr
  nx : hb ≠ x
  nb : hb ≠ b
  lh : w.heap.size ≤ hb
  lb : w.heap.size ≤ b
theorem QS.fr {w wr w2 : World} {hb x b n : Nat} {f : Lit → Option Int} {g : Nat → Nat} (h : QS w hb x b n f g wr) (hf : Fr [] [] wr w2) : QS w hb x b n f g w2 :=
  ⟨h.pm.fr hf (by simp) (by simp), h.hh.frame (hf.block hb h.hh.lt (by simp)), h.tl, h.gb, h.bl.trans (hf.below h.bl.size (fun k hk => by simp at hk)), h.nx, h.nb, h.lh, h.lb⟩
theorem QS.step {w wr w2 : World} {hb x b n n' : Nat} {f f' : Lit → Option Int} {g : Nat → Nat} (h : QS w hb x b n f g wr) (hf : Fr [b] [b] wr w2) (hp : PM w2 x b n' 16 false f') (k v : Nat) (hk : k < 16) (hv : v ≤ 60) (ht : Told f' (fun i => if i = k then v else g i)) :
    HB w2 hb g ∧ QS w hb x b n' f' (fun i => if i = k then v else g i) (w2.setCell ⟨hb, k, none⟩ (.int .i64 v)) := by
  have hh : HB w2 hb g := h.hh.frame (hf.block hb h.hh.lt (by simp; exact h.nb))
  refine ⟨hh, hp.frame (Below.heap_setCell _ _ _ _ (fun e => h.nx e.symm)) (Below.heap_setCell _ _ _ _ (fun e => h.nb e.symm)), hh.set k hk v, ht, fun j => by show (if j = k then v else g j) ≤ 60; split; exact hv; exact h.gb j,
    (h.bl.trans (hf.below h.bl.size (fun k hk => by simp at hk; subst hk; exact h.lb))).trans ⟨rfl, rfl, rfl, by simp [World.setCell], fun q hq => Below.heap_setCell _ _ _ _ (by show q ≠ hb; have := h.lh; omega)⟩, h.nx, h.nb, h.lh, h.lb⟩
def Q1 (w : World) (hb x b : Nat) (v : Value) (wr : World) : Prop := ∃ (i n : Nat) (f : Lit → Option Int) (g : Nat → Nat), v = .int .i64 i ∧ i ≤ 60 ∧ n ≤ i ∧ QS w hb x b n f g wr
def Q2 (w : World) (hb x b : Nat) (v : Value) (wr : World) : Prop := ∃ (i n : Nat) (f : Lit → Option Int) (g : Nat → Nat), v = .int .i64 i ∧ i ≤ 60 ∧ n ≤ 60 ∧ QS w hb x b n f g wr
/-- Where the walk over the places is. -/
def At3 (g : Nat → Nat) (k : Nat) (s : ByteArray) : Prop := (s = ⟨#[]⟩ ∧ ∀ j, j < k → g j = 0) ∨ ∃ m, m < k ∧ s = bstr (leBytes m 4) ∧ ∀ j, m < j → j < k → g j = 0
def Q3 (w : World) (hb x b : Nat) (v0 v : Value) (wr : World) : Prop := ∃ (i n : Nat) (f : Lit → Option Int) (g : Nat → Nat) (s : ByteArray), v0 = .string s ∧ v = .int .i64 i ∧ i ≤ 16 ∧ n ≤ 60 ∧ At3 g i s ∧ QS w hb x b n f g wr
theorem At3.q {g : Nat → Nat} {k : Nat} {s : ByteArray} (h : At3 g k s) (hk : k ≤ 16) : (∀ j : Nat, j < 16 → k ≤ j → nq s j = true) ∧ (∀ j : Nat, j < k → g j ≠ 0 → nq s j = false) := by
  rcases h with ⟨rfl, h⟩ | ⟨m, hm, rfl, h⟩
  · exact ⟨fun j _ _ => rfl, fun j hj hg => absurd (h j hj) hg⟩
  · have e : ∀ j : Nat, nq (bstr (leBytes m 4)) j = decide (m < j) := fun j => by
      unfold nq
      rw [nats_bstr4 m (by omega), size_bstr4]
      simp
    refine ⟨fun j _ hj => by rw [e]; simp; omega, fun j hj hg => ?_⟩
    rw [e]
    simp only [decide_eq_false_iff_not]
    intro hmj
    exact hg (h j hmj hj)
theorem next_at {f : Lit → Option Int} {g : Nat → Nat} {k : Nat} {s v : ByteArray} {er : Int} (ht : Told f g) (h : At3 g k s) (hk : k < 16) (hg : g k ≠ 0) (hn : NextIs f s v er) : er = 0 ∧ v = bstr (leBytes k 4) := by
  obtain ⟨q1, q2⟩ := h.q (by omega)
  obtain ⟨t1, t2⟩ := ht.at k hk
  have hs : (f (ik (k : Nat))).isSome = true := by rw [t1]; simp [hg]
  rcases hn with ⟨_, _, h3⟩ | ⟨rfl, m, rfl, m1, m2, m3⟩
  · have := h3 k hs
    rw [q1 k hk (Nat.le_refl _)] at this
    cases this
  · have hle := m3 k hs (q1 k hk (Nat.le_refl _))
    have hmk : m ≤ k := by omega
    have hm := (ht.at m (by omega)).1
    rw [m1] at hm
    have hgm : g m ≠ 0 := by simpa using hm.symm
    by_cases e : m = k
    · subst e; exact ⟨rfl, rfl⟩
    · rw [q2 m (by omega) hgm] at m2
      cases m2
theorem next_end {f : Lit → Option Int} {g : Nat → Nat} {s v : ByteArray} {er : Int} (ht : Told f g) (h : At3 g 16 s) (hn : NextIs f s v er) : er = 4 := by
  obtain ⟨q1, q2⟩ := h.q (Nat.le_refl _)
  rcases hn with ⟨h1, _, _⟩ | ⟨_, m, _, m1, m2, _⟩
  · exact h1
  · have hm0 := ht m
    by_cases e : 0 ≤ (m : Int) ∧ (m : Int) < 16 ∧ g (m : Int).toNat ≠ 0
    · rw [q2 m (by omega) (by simpa using e.2.2)] at m2
      cases m2
    · rw [hm0, if_neg e] at m1
      cases m1
set_option maxRecDepth 100000 in
set_option maxHeartbeats 4000000 in
theorem mprogs_calls (a1 : Option Addr) (len1 cap1 : Nat) (a2 : Option Addr) (len2 cap2 : Nat) (w : World) (h1 : OrdAt w a1 len1) (h2 : OrdAt w a2 len2) :
    Calls Try.prog 3 #[.slice a1 len1 cap1, .slice a2 len2 cap2] w fun e w' => e = .returned (.bool true) ∧ Below w.heap.size w w' := by
  have H1 := hide h1
  have H2 := hide h2
  clear h1 h2
  go_enter Try.func3, Try.ntmps3
  go_wp2_with fail
  refine (new_S w).mono ?_
  rintro e w1 ⟨m, F, rfl, -, f1⟩
  have HB1 := hide (f1.below (Nat.le_refl _) (fun k hk => by simp at hk))
  clear f1
  go_wp2_with fail
  refine (mnew_progs m 16 (by omega) (by omega) w1).mono ?_
  rintro e w2 ⟨x, b, rfl, p2, hx2, hb2, f2⟩
  have HB2 := hide (HB1.out.trans ((f2.below (Nat.le_refl _) (fun k hk => by simp at hk)).mono HB1.out.size))
  have P2 := hide p2
  have HBW := hide (show w.heap.size ≤ b by have := HB1.out.size; omega)
  clear p2 hx2 hb2 f2
  have H0 := hide (show Q1 w w2.heap.size x b (.int .i64 0) (w2.alloc (.cells #[.int .i64 0, .int .i64 0, .int .i64 0, .int .i64 0, .int .i64 0, .int .i64 0, .int .i64 0, .int .i64 0, .int .i64 0, .int .i64 0, .int .i64 0, .int .i64 0, .int .i64 0, .int .i64 0, .int .i64 0, .int .i64 0] 31)) from
    ⟨0, 0, fun _ => none, fun _ => 0, rfl, by omega, by omega, P2.out.fr ((Fr.refl [] w2).alloc _) (by simp) (by simp), ⟨_, heap_alloc_new _ _, fun j hj => by
      obtain rfl | rfl | rfl | rfl | rfl | rfl | rfl | rfl | rfl | rfl | rfl | rfl | rfl | rfl | rfl | rfl : j = 0 ∨ j = 1 ∨ j = 2 ∨ j = 3 ∨ j = 4 ∨ j = 5 ∨ j = 6 ∨ j = 7 ∨ j = 8 ∨ j = 9 ∨ j = 10 ∨ j = 11 ∨ j = 12 ∨ j = 13 ∨ j = 14 ∨ j = 15 := by omega
      all_goals rfl⟩, fun z => by simp, fun j => by omega, HB2.out.trans ((((Fr.refl [] w2).alloc _).below (Nat.le_refl _) (fun k hk => by simp at hk)).mono HB2.out.size), fun e => by have := P2.out.lt.1; omega, fun e => by have := P2.out.lt.2; omega, HB2.out.size, HBW.out⟩)
  go_wp2_with fail
  go_loopw [9] (fun v wr => Q1 w w2.heap.size x b v wr) (fun v _ => 60 - (RowKit.intOf v).toNat)
  case atStart => exact H0.out
  case round =>
    obtain ⟨i, n, f, g, rfl, hi, hn, hq⟩ := hrel
    by_cases hl : i < len1
    · by_cases hs : i < 60
      · obtain ⟨ob, oo, z, rfl, hob, hwz, hcz⟩ := H1.out i hl
        have hcw : wr.cell? ⟨ob, oo + i, none⟩ = some (.int .i64 z) := by
          rw [← hcz]
          simp only [World.cell?]
          rw [hq.bl.block ob hob]
        have hl1 : (i : Int) < len1 := by omega
        have hl2 : (i : Int) < 60 := by omega
        obtain ⟨k, hk, e1, e2, e3⟩ := mod16_nat z
        have hk16 : (k : Int) < 16 := by omega
        have HQ := hide hq
        clear hcz hwz hq
        go_wp2_with fail
        refine (le_calls k 4 (by omega) _).mono ?_
        rintro e w3 ⟨rfl, f3⟩
        have HF3 := hide f3
        clear f3
        unfold strOf
        have HL2 := le_calls (i + 1) 4 (by omega)
        unfold strOf at HL2
        rw [show ((i + 1 : Nat) : Int) = (i : Int) + 1 from rfl] at HL2
        have HL2 := hide HL2
        go_wp2_with fail
        refine (HL2.out _).mono ?_
        rintro e w4 ⟨rfl, f4⟩
        have hq4 := HQ.out.fr (HF3.out.trans f4)
        have HU := pupdate_calls hq4.pm (by omega) (bstr (leBytes k 4)) (bstr (leBytes (i + 1) 4)) (size_bstr4 _) (size_bstr4 _) (by rw [nats_bstr4 k (by omega)]; omega) 0
        rw [nats_bstr4 k (by omega), nats_bstr4 (i + 1) (by omega)] at HU
        have HU := hide HU
        have HQ4 := hide hq4
        clear hq4 f4 HL2
        go_wp2_with fail
        refine HU.out.mono ?_
        rintro e w5 ⟨rfl, p5, f5⟩
        obtain ⟨hh5, hq5⟩ := HQ4.out.step f5 p5 k (i + 1) hk (by omega) (HQ4.out.tl.put k (i + 1) hk (by omega))
        obtain ⟨d1, d2⟩ := hh5.cell k hk
        have HE := hide (show Q1 w w2.heap.size x b (.int .i64 ((i : Int) + 1)) (w5.setCell ⟨w2.heap.size, k, none⟩ (.int .i64 ((i : Int) + 1))) from ⟨i + 1, n + 1, _, _, by simp, by omega, by omega, hq5⟩)
        clear hh5 hq5 p5 f5
        go_wp2
        exact ⟨HE.out, by simp [RowKit.intOf]; omega⟩

      · have hl1 : (i : Int) < len1 := by omega
        have hl2 : ¬ (i : Int) < 60 := by omega
        clear hl hs
        have HQ2 := hide hq
        obtain ⟨n2, hn2, hnn⟩ : ∃ n2, n2 ≤ 60 ∧ n2 = n := ⟨n, by omega, rfl⟩
        obtain ⟨f2, hf2⟩ : ∃ f2, f2 = f := ⟨_, rfl⟩
        obtain ⟨g2, hg2⟩ : ∃ g2, g2 = g := ⟨_, rfl⟩
        rw [← hnn, ← hf2, ← hg2] at HQ2
        clear hq hf2 hg2 hnn hn hi
        go_wp2_with fail
        go_loopw [11] (fun v wr => Q2 w w2.heap.size x b v wr) (fun v _ => 60 - (RowKit.intOf v).toNat)
        case atStart => exact ⟨0, n2, f2, g2, rfl, by omega, hn2, HQ2.out⟩
        case round =>
          obtain ⟨i, n, f, g, rfl, hi, hn, hq⟩ := hrel
          by_cases hl : i < len2
          · by_cases hs : i < 60
            · obtain ⟨ob, oo, z, rfl, hob, hwz, hcz⟩ := H2.out i hl
              have hcw : wr.cell? ⟨ob, oo + i, none⟩ = some (.int .i64 z) := by
                rw [← hcz]
                simp only [World.cell?]
                rw [hq.bl.block ob hob]
              have hl1 : (i : Int) < len2 := by omega
              have hl2 : (i : Int) < 60 := by omega
              obtain ⟨k, hk, e1, e2, e3⟩ := mod16_nat z
              have hk16 : (k : Int) < 16 := by omega
              have HQ := hide hq
              clear hcz hwz hq
              obtain ⟨t1, t2⟩ := HQ.out.tl.at k hk
              go_wp2_with fail
              refine (le_calls k 4 (by omega) _).mono ?_
              rintro e w3 ⟨rfl, f3⟩
              unfold strOf
              have hq4 := HQ.out.fr f3
              have HU := pdelete_calls hq4.pm (bstr (leBytes k 4)) (size_bstr4 _)
              rw [nats_bstr4 k (by omega), t1] at HU
              have HU := hide HU
              have HQ4 := hide hq4
              clear hq4 f3 t1 t2
              go_wp2_with fail
              refine HU.out.mono ?_
              rintro e w5 ⟨rfl, p5, f5⟩
              obtain ⟨hh5, hq5⟩ := HQ4.out.step f5 p5 k 0 hk (by omega) (HQ4.out.tl.drop k hk)
              obtain ⟨d1, d2⟩ := hh5.cell k hk
              have HE := hide (show Q2 w w2.heap.size x b (.int .i64 ((i : Int) + 1)) (w5.setCell ⟨w2.heap.size, k, none⟩ (.int .i64 0)) from ⟨i + 1, n, _, _, by simp, by omega, by omega, hq5⟩)
              clear hh5 hq5 p5 f5 HU
              by_cases hg : g k = 0
              · rw [hg] at d1
                simp only [hg, ne_eq, not_true_eq_false, decide_false, Bool.false_eq_true, if_false]
                go_wp2
                exact ⟨HE.out, by simp [RowKit.intOf]; omega⟩
              · have hgb : ((g k : Int) != 0) = true := by rw [bne_iff_ne]; omega
                simp only [hg, ne_eq, not_false_eq_true, decide_true, if_true]
                go_wp2
                exact ⟨HE.out, by simp [RowKit.intOf]; omega⟩

            · have hl1 : (i : Int) < len2 := by omega
              have hl2 : ¬ (i : Int) < 60 := by omega
              clear hl hs
              have HQ2 := hide hq
              obtain ⟨n2, hn2, hnn⟩ : ∃ n2, n2 ≤ 60 ∧ n2 = n := ⟨n, by omega, rfl⟩
              obtain ⟨f2, hf2⟩ : ∃ f2, f2 = f := ⟨_, rfl⟩
              obtain ⟨g2, hg2⟩ : ∃ g2, g2 = g := ⟨_, rfl⟩
              rw [← hnn, ← hf2, ← hg2] at HQ2
              clear hq hf2 hg2 hnn hn hi
              go_wp2_with fail
              go_loopw [14, 15] (fun s v wr => Q3 w w2.heap.size x b s v wr) (fun _ v _ => 16 - (RowKit.intOf v).toNat)
              case atStart => exact ⟨0, n2, f2, g2, _, rfl, rfl, by omega, hn2, .inl ⟨rfl, fun j hj => absurd hj (by omega)⟩, HQ2.out⟩
              case round =>
                obtain ⟨i, n, f, g, s, rfl, rfl, hi, hn, hat, hq⟩ := hrel
                have HQ := hide hq
                have HN := hide (fun W (hw : QS w w2.heap.size x b n f g W) => pnext_calls hw.pm (by omega) (fun z hz => by
                  have h0 := hq.tl z
                  by_cases e : 0 ≤ z ∧ z < 16 ∧ g z.toNat ≠ 0
                  · have h1 := e.1; have h2 := e.2.1; exact ⟨h1, by omega⟩
                  · rw [h0, if_neg e] at hz; cases hz) s)
                by_cases hi16 : i = 16
                · subst hi16
                  have HEE := hide (fun v er => next_end (v := v) (er := er) hq.tl hat)
                  clear hq hat
                  go_wp2_with fail
                  refine (HN.out _ HQ.out).mono ?_
                  rintro e w3 ⟨v3, er, rfl, n3, f3⟩
                  obtain rfl := HEE.out v3 er n3
                  have HB3 := hide (HQ.out.fr f3).bl
                  clear n3 f3
                  go_wp2_with fail
                  refine (mawake _).mono ?_
                  rintro e w4 ⟨rfl, b4⟩
                  have HB4 := hide (HB3.out.trans (b4.mono HB3.out.size))
                  clear b4
                  go_wp2
                  go_ret
                  exact ⟨rfl, HB4.out⟩
                · have hi15 : i < 16 := by omega
                  have hii : (i : Int) < 16 := by omega
                  obtain ⟨t1, t2⟩ := hq.tl.at i hi15
                  have HP := pprog_calls hq.pm (i := (i : Int)) ((w64_iff _).2 (by omega))
                  rw [t1, t2] at HP
                  have HP := hide HP
                  obtain ⟨d1, d2⟩ := hq.hh.cell i hi15
                  clear t1 t2
                  by_cases hg : g i = 0
                  · have HE : Hid (Q3 w w2.heap.size x b (.string s) (.int .i64 ((i : Int) + 1)) wr) := hide ⟨i + 1, n, f, g, s, rfl, by simp, by omega, hn, by
                      rcases hat with ⟨h1, h2⟩ | ⟨m, h1, h2, h3⟩
                      · exact .inl ⟨h1, fun j hj => by by_cases e : j = i; exact e ▸ hg; exact h2 j (by omega)⟩
                      · exact .inr ⟨m, by omega, h2, fun j hj hj2 => by by_cases e : j = i; exact e ▸ hg; exact h3 j hj (by omega)⟩, hq⟩
                    rw [hg] at HP d1
                    simp only [ne_eq, not_true_eq_false, decide_false] at HP
                    clear hq hat HN
                    go_wp2_with fail
                    refine HP.out.mono ?_
                    rintro e w' ⟨rfl, rfl⟩
                    go_wp2
                    exact ⟨HE.out, by simp [RowKit.intOf]; omega⟩
                  · have hgb : ((g i : Int) != 0) = true := by rw [bne_iff_ne]; omega
                    have HNA := hide (fun v er => next_at (v := v) (er := er) hq.tl hat hi15 hg)
                    simp only [ne_eq, hg, not_false_eq_true, decide_true] at HP
                    clear hq hat
                    go_wp2_with fail
                    refine HP.out.mono ?_
                    rintro e w' ⟨rfl, rfl⟩
                    go_wp2_with fail
                    refine (HN.out _ HQ.out).mono ?_
                    rintro e w3 ⟨v3, er, rfl, n3, f3⟩
                    obtain ⟨rfl, rfl⟩ := HNA.out v3 er n3
                    have HQ3 := hide (HQ.out.fr f3)
                    clear n3 f3
                    go_wp2_with fail
                    refine (le_calls i 4 (by omega) _).mono ?_
                    rintro e w4 ⟨rfl, f4⟩
                    have HE : Hid (Q3 w w2.heap.size x b (.string (bstr (leBytes i 4))) (.int .i64 ((i : Int) + 1)) w4) := hide ⟨i + 1, n, f, g, _, rfl, by simp, by omega, hn, .inr ⟨i, by omega, rfl, fun j hj hj2 => absurd hj (by omega)⟩, HQ3.out.fr f4⟩
                    unfold strOf
                    clear f4
                    go_wp2
                    exact ⟨HE.out, by simp [RowKit.intOf]; omega⟩

          · have hl1 : ¬ (i : Int) < len2 := by omega
            clear hl
            have HQ2 := hide hq
            obtain ⟨n2, hn2, hnn⟩ : ∃ n2, n2 ≤ 60 ∧ n2 = n := ⟨n, by omega, rfl⟩
            obtain ⟨f2, hf2⟩ : ∃ f2, f2 = f := ⟨_, rfl⟩
            obtain ⟨g2, hg2⟩ : ∃ g2, g2 = g := ⟨_, rfl⟩
            rw [← hnn, ← hf2, ← hg2] at HQ2
            clear hq hf2 hg2 hnn hn hi
            go_wp2_with fail
            go_loopw [14, 15] (fun s v wr => Q3 w w2.heap.size x b s v wr) (fun _ v _ => 16 - (RowKit.intOf v).toNat)
            case atStart => exact ⟨0, n2, f2, g2, _, rfl, rfl, by omega, hn2, .inl ⟨rfl, fun j hj => absurd hj (by omega)⟩, HQ2.out⟩
            case round =>
              obtain ⟨i, n, f, g, s, rfl, rfl, hi, hn, hat, hq⟩ := hrel
              have HQ := hide hq
              have HN := hide (fun W (hw : QS w w2.heap.size x b n f g W) => pnext_calls hw.pm (by omega) (fun z hz => by
                have h0 := hq.tl z
                by_cases e : 0 ≤ z ∧ z < 16 ∧ g z.toNat ≠ 0
                · have h1 := e.1; have h2 := e.2.1; exact ⟨h1, by omega⟩
                · rw [h0, if_neg e] at hz; cases hz) s)
              by_cases hi16 : i = 16
              · subst hi16
                have HEE := hide (fun v er => next_end (v := v) (er := er) hq.tl hat)
                clear hq hat
                go_wp2_with fail
                refine (HN.out _ HQ.out).mono ?_
                rintro e w3 ⟨v3, er, rfl, n3, f3⟩
                obtain rfl := HEE.out v3 er n3
                have HB3 := hide (HQ.out.fr f3).bl
                clear n3 f3
                go_wp2_with fail
                refine (mawake _).mono ?_
                rintro e w4 ⟨rfl, b4⟩
                have HB4 := hide (HB3.out.trans (b4.mono HB3.out.size))
                clear b4
                go_wp2
                go_ret
                exact ⟨rfl, HB4.out⟩
              · have hi15 : i < 16 := by omega
                have hii : (i : Int) < 16 := by omega
                obtain ⟨t1, t2⟩ := hq.tl.at i hi15
                have HP := pprog_calls hq.pm (i := (i : Int)) ((w64_iff _).2 (by omega))
                rw [t1, t2] at HP
                have HP := hide HP
                obtain ⟨d1, d2⟩ := hq.hh.cell i hi15
                clear t1 t2
                by_cases hg : g i = 0
                · have HE : Hid (Q3 w w2.heap.size x b (.string s) (.int .i64 ((i : Int) + 1)) wr) := hide ⟨i + 1, n, f, g, s, rfl, by simp, by omega, hn, by
                    rcases hat with ⟨h1, h2⟩ | ⟨m, h1, h2, h3⟩
                    · exact .inl ⟨h1, fun j hj => by by_cases e : j = i; exact e ▸ hg; exact h2 j (by omega)⟩
                    · exact .inr ⟨m, by omega, h2, fun j hj hj2 => by by_cases e : j = i; exact e ▸ hg; exact h3 j hj (by omega)⟩, hq⟩
                  rw [hg] at HP d1
                  simp only [ne_eq, not_true_eq_false, decide_false] at HP
                  clear hq hat HN
                  go_wp2_with fail
                  refine HP.out.mono ?_
                  rintro e w' ⟨rfl, rfl⟩
                  go_wp2
                  exact ⟨HE.out, by simp [RowKit.intOf]; omega⟩
                · have hgb : ((g i : Int) != 0) = true := by rw [bne_iff_ne]; omega
                  have HNA := hide (fun v er => next_at (v := v) (er := er) hq.tl hat hi15 hg)
                  simp only [ne_eq, hg, not_false_eq_true, decide_true] at HP
                  clear hq hat
                  go_wp2_with fail
                  refine HP.out.mono ?_
                  rintro e w' ⟨rfl, rfl⟩
                  go_wp2_with fail
                  refine (HN.out _ HQ.out).mono ?_
                  rintro e w3 ⟨v3, er, rfl, n3, f3⟩
                  obtain ⟨rfl, rfl⟩ := HNA.out v3 er n3
                  have HQ3 := hide (HQ.out.fr f3)
                  clear n3 f3
                  go_wp2_with fail
                  refine (le_calls i 4 (by omega) _).mono ?_
                  rintro e w4 ⟨rfl, f4⟩
                  have HE : Hid (Q3 w w2.heap.size x b (.string (bstr (leBytes i 4))) (.int .i64 ((i : Int) + 1)) w4) := hide ⟨i + 1, n, f, g, _, rfl, by simp, by omega, hn, .inr ⟨i, by omega, rfl, fun j hj hj2 => absurd hj (by omega)⟩, HQ3.out.fr f4⟩
                  unfold strOf
                  clear f4
                  go_wp2
                  exact ⟨HE.out, by simp [RowKit.intOf]; omega⟩


    · have hl1 : ¬ (i : Int) < len1 := by omega
      clear hl
      have HQ2 := hide hq
      obtain ⟨n2, hn2, hnn⟩ : ∃ n2, n2 ≤ 60 ∧ n2 = n := ⟨n, by omega, rfl⟩
      obtain ⟨f2, hf2⟩ : ∃ f2, f2 = f := ⟨_, rfl⟩
      obtain ⟨g2, hg2⟩ : ∃ g2, g2 = g := ⟨_, rfl⟩
      rw [← hnn, ← hf2, ← hg2] at HQ2
      clear hq hf2 hg2 hnn hn hi
      go_wp2_with fail
      go_loopw [11] (fun v wr => Q2 w w2.heap.size x b v wr) (fun v _ => 60 - (RowKit.intOf v).toNat)
      case atStart => exact ⟨0, n2, f2, g2, rfl, by omega, hn2, HQ2.out⟩
      case round =>
        obtain ⟨i, n, f, g, rfl, hi, hn, hq⟩ := hrel
        by_cases hl : i < len2
        · by_cases hs : i < 60
          · obtain ⟨ob, oo, z, rfl, hob, hwz, hcz⟩ := H2.out i hl
            have hcw : wr.cell? ⟨ob, oo + i, none⟩ = some (.int .i64 z) := by
              rw [← hcz]
              simp only [World.cell?]
              rw [hq.bl.block ob hob]
            have hl1 : (i : Int) < len2 := by omega
            have hl2 : (i : Int) < 60 := by omega
            obtain ⟨k, hk, e1, e2, e3⟩ := mod16_nat z
            have hk16 : (k : Int) < 16 := by omega
            have HQ := hide hq
            clear hcz hwz hq
            obtain ⟨t1, t2⟩ := HQ.out.tl.at k hk
            go_wp2_with fail
            refine (le_calls k 4 (by omega) _).mono ?_
            rintro e w3 ⟨rfl, f3⟩
            unfold strOf
            have hq4 := HQ.out.fr f3
            have HU := pdelete_calls hq4.pm (bstr (leBytes k 4)) (size_bstr4 _)
            rw [nats_bstr4 k (by omega), t1] at HU
            have HU := hide HU
            have HQ4 := hide hq4
            clear hq4 f3 t1 t2
            go_wp2_with fail
            refine HU.out.mono ?_
            rintro e w5 ⟨rfl, p5, f5⟩
            obtain ⟨hh5, hq5⟩ := HQ4.out.step f5 p5 k 0 hk (by omega) (HQ4.out.tl.drop k hk)
            obtain ⟨d1, d2⟩ := hh5.cell k hk
            have HE := hide (show Q2 w w2.heap.size x b (.int .i64 ((i : Int) + 1)) (w5.setCell ⟨w2.heap.size, k, none⟩ (.int .i64 0)) from ⟨i + 1, n, _, _, by simp, by omega, by omega, hq5⟩)
            clear hh5 hq5 p5 f5 HU
            by_cases hg : g k = 0
            · rw [hg] at d1
              simp only [hg, ne_eq, not_true_eq_false, decide_false, Bool.false_eq_true, if_false]
              go_wp2
              exact ⟨HE.out, by simp [RowKit.intOf]; omega⟩
            · have hgb : ((g k : Int) != 0) = true := by rw [bne_iff_ne]; omega
              simp only [hg, ne_eq, not_false_eq_true, decide_true, if_true]
              go_wp2
              exact ⟨HE.out, by simp [RowKit.intOf]; omega⟩

          · have hl1 : (i : Int) < len2 := by omega
            have hl2 : ¬ (i : Int) < 60 := by omega
            clear hl hs
            have HQ2 := hide hq
            obtain ⟨n2, hn2, hnn⟩ : ∃ n2, n2 ≤ 60 ∧ n2 = n := ⟨n, by omega, rfl⟩
            obtain ⟨f2, hf2⟩ : ∃ f2, f2 = f := ⟨_, rfl⟩
            obtain ⟨g2, hg2⟩ : ∃ g2, g2 = g := ⟨_, rfl⟩
            rw [← hnn, ← hf2, ← hg2] at HQ2
            clear hq hf2 hg2 hnn hn hi
            go_wp2_with fail
            go_loopw [14, 15] (fun s v wr => Q3 w w2.heap.size x b s v wr) (fun _ v _ => 16 - (RowKit.intOf v).toNat)
            case atStart => exact ⟨0, n2, f2, g2, _, rfl, rfl, by omega, hn2, .inl ⟨rfl, fun j hj => absurd hj (by omega)⟩, HQ2.out⟩
            case round =>
              obtain ⟨i, n, f, g, s, rfl, rfl, hi, hn, hat, hq⟩ := hrel
              have HQ := hide hq
              have HN := hide (fun W (hw : QS w w2.heap.size x b n f g W) => pnext_calls hw.pm (by omega) (fun z hz => by
                have h0 := hq.tl z
                by_cases e : 0 ≤ z ∧ z < 16 ∧ g z.toNat ≠ 0
                · have h1 := e.1; have h2 := e.2.1; exact ⟨h1, by omega⟩
                · rw [h0, if_neg e] at hz; cases hz) s)
              by_cases hi16 : i = 16
              · subst hi16
                have HEE := hide (fun v er => next_end (v := v) (er := er) hq.tl hat)
                clear hq hat
                go_wp2_with fail
                refine (HN.out _ HQ.out).mono ?_
                rintro e w3 ⟨v3, er, rfl, n3, f3⟩
                obtain rfl := HEE.out v3 er n3
                have HB3 := hide (HQ.out.fr f3).bl
                clear n3 f3
                go_wp2_with fail
                refine (mawake _).mono ?_
                rintro e w4 ⟨rfl, b4⟩
                have HB4 := hide (HB3.out.trans (b4.mono HB3.out.size))
                clear b4
                go_wp2
                go_ret
                exact ⟨rfl, HB4.out⟩
              · have hi15 : i < 16 := by omega
                have hii : (i : Int) < 16 := by omega
                obtain ⟨t1, t2⟩ := hq.tl.at i hi15
                have HP := pprog_calls hq.pm (i := (i : Int)) ((w64_iff _).2 (by omega))
                rw [t1, t2] at HP
                have HP := hide HP
                obtain ⟨d1, d2⟩ := hq.hh.cell i hi15
                clear t1 t2
                by_cases hg : g i = 0
                · have HE : Hid (Q3 w w2.heap.size x b (.string s) (.int .i64 ((i : Int) + 1)) wr) := hide ⟨i + 1, n, f, g, s, rfl, by simp, by omega, hn, by
                    rcases hat with ⟨h1, h2⟩ | ⟨m, h1, h2, h3⟩
                    · exact .inl ⟨h1, fun j hj => by by_cases e : j = i; exact e ▸ hg; exact h2 j (by omega)⟩
                    · exact .inr ⟨m, by omega, h2, fun j hj hj2 => by by_cases e : j = i; exact e ▸ hg; exact h3 j hj (by omega)⟩, hq⟩
                  rw [hg] at HP d1
                  simp only [ne_eq, not_true_eq_false, decide_false] at HP
                  clear hq hat HN
                  go_wp2_with fail
                  refine HP.out.mono ?_
                  rintro e w' ⟨rfl, rfl⟩
                  go_wp2
                  exact ⟨HE.out, by simp [RowKit.intOf]; omega⟩
                · have hgb : ((g i : Int) != 0) = true := by rw [bne_iff_ne]; omega
                  have HNA := hide (fun v er => next_at (v := v) (er := er) hq.tl hat hi15 hg)
                  simp only [ne_eq, hg, not_false_eq_true, decide_true] at HP
                  clear hq hat
                  go_wp2_with fail
                  refine HP.out.mono ?_
                  rintro e w' ⟨rfl, rfl⟩
                  go_wp2_with fail
                  refine (HN.out _ HQ.out).mono ?_
                  rintro e w3 ⟨v3, er, rfl, n3, f3⟩
                  obtain ⟨rfl, rfl⟩ := HNA.out v3 er n3
                  have HQ3 := hide (HQ.out.fr f3)
                  clear n3 f3
                  go_wp2_with fail
                  refine (le_calls i 4 (by omega) _).mono ?_
                  rintro e w4 ⟨rfl, f4⟩
                  have HE : Hid (Q3 w w2.heap.size x b (.string (bstr (leBytes i 4))) (.int .i64 ((i : Int) + 1)) w4) := hide ⟨i + 1, n, f, g, _, rfl, by simp, by omega, hn, .inr ⟨i, by omega, rfl, fun j hj hj2 => absurd hj (by omega)⟩, HQ3.out.fr f4⟩
                  unfold strOf
                  clear f4
                  go_wp2
                  exact ⟨HE.out, by simp [RowKit.intOf]; omega⟩

        · have hl1 : ¬ (i : Int) < len2 := by omega
          clear hl
          have HQ2 := hide hq
          obtain ⟨n2, hn2, hnn⟩ : ∃ n2, n2 ≤ 60 ∧ n2 = n := ⟨n, by omega, rfl⟩
          obtain ⟨f2, hf2⟩ : ∃ f2, f2 = f := ⟨_, rfl⟩
          obtain ⟨g2, hg2⟩ : ∃ g2, g2 = g := ⟨_, rfl⟩
          rw [← hnn, ← hf2, ← hg2] at HQ2
          clear hq hf2 hg2 hnn hn hi
          go_wp2_with fail
          go_loopw [14, 15] (fun s v wr => Q3 w w2.heap.size x b s v wr) (fun _ v _ => 16 - (RowKit.intOf v).toNat)
          case atStart => exact ⟨0, n2, f2, g2, _, rfl, rfl, by omega, hn2, .inl ⟨rfl, fun j hj => absurd hj (by omega)⟩, HQ2.out⟩
          case round =>
            obtain ⟨i, n, f, g, s, rfl, rfl, hi, hn, hat, hq⟩ := hrel
            have HQ := hide hq
            have HN := hide (fun W (hw : QS w w2.heap.size x b n f g W) => pnext_calls hw.pm (by omega) (fun z hz => by
              have h0 := hq.tl z
              by_cases e : 0 ≤ z ∧ z < 16 ∧ g z.toNat ≠ 0
              · have h1 := e.1; have h2 := e.2.1; exact ⟨h1, by omega⟩
              · rw [h0, if_neg e] at hz; cases hz) s)
            by_cases hi16 : i = 16
            · subst hi16
              have HEE := hide (fun v er => next_end (v := v) (er := er) hq.tl hat)
              clear hq hat
              go_wp2_with fail
              refine (HN.out _ HQ.out).mono ?_
              rintro e w3 ⟨v3, er, rfl, n3, f3⟩
              obtain rfl := HEE.out v3 er n3
              have HB3 := hide (HQ.out.fr f3).bl
              clear n3 f3
              go_wp2_with fail
              refine (mawake _).mono ?_
              rintro e w4 ⟨rfl, b4⟩
              have HB4 := hide (HB3.out.trans (b4.mono HB3.out.size))
              clear b4
              go_wp2
              go_ret
              exact ⟨rfl, HB4.out⟩
            · have hi15 : i < 16 := by omega
              have hii : (i : Int) < 16 := by omega
              obtain ⟨t1, t2⟩ := hq.tl.at i hi15
              have HP := pprog_calls hq.pm (i := (i : Int)) ((w64_iff _).2 (by omega))
              rw [t1, t2] at HP
              have HP := hide HP
              obtain ⟨d1, d2⟩ := hq.hh.cell i hi15
              clear t1 t2
              by_cases hg : g i = 0
              · have HE : Hid (Q3 w w2.heap.size x b (.string s) (.int .i64 ((i : Int) + 1)) wr) := hide ⟨i + 1, n, f, g, s, rfl, by simp, by omega, hn, by
                  rcases hat with ⟨h1, h2⟩ | ⟨m, h1, h2, h3⟩
                  · exact .inl ⟨h1, fun j hj => by by_cases e : j = i; exact e ▸ hg; exact h2 j (by omega)⟩
                  · exact .inr ⟨m, by omega, h2, fun j hj hj2 => by by_cases e : j = i; exact e ▸ hg; exact h3 j hj (by omega)⟩, hq⟩
                rw [hg] at HP d1
                simp only [ne_eq, not_true_eq_false, decide_false] at HP
                clear hq hat HN
                go_wp2_with fail
                refine HP.out.mono ?_
                rintro e w' ⟨rfl, rfl⟩
                go_wp2
                exact ⟨HE.out, by simp [RowKit.intOf]; omega⟩
              · have hgb : ((g i : Int) != 0) = true := by rw [bne_iff_ne]; omega
                have HNA := hide (fun v er => next_at (v := v) (er := er) hq.tl hat hi15 hg)
                simp only [ne_eq, hg, not_false_eq_true, decide_true] at HP
                clear hq hat
                go_wp2_with fail
                refine HP.out.mono ?_
                rintro e w' ⟨rfl, rfl⟩
                go_wp2_with fail
                refine (HN.out _ HQ.out).mono ?_
                rintro e w3 ⟨v3, er, rfl, n3, f3⟩
                obtain ⟨rfl, rfl⟩ := HNA.out v3 er n3
                have HQ3 := hide (HQ.out.fr f3)
                clear n3 f3
                go_wp2_with fail
                refine (le_calls i 4 (by omega) _).mono ?_
                rintro e w4 ⟨rfl, f4⟩
                have HE : Hid (Q3 w w2.heap.size x b (.string (bstr (leBytes i 4))) (.int .i64 ((i : Int) + 1)) w4) := hide ⟨i + 1, n, f, g, _, rfl, by simp, by omega, hn, .inr ⟨i, by omega, rfl, fun j hj hj2 => absurd hj (by omega)⟩, HQ3.out.fr f4⟩
                unfold strOf
                clear f4
                go_wp2
                exact ⟨HE.out, by simp [RowKit.intOf]; omega⟩


end Go.Proofs.Ytgkbiknokpmjmaa
