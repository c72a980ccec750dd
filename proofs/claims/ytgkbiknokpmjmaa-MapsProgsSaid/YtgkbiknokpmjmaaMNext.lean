/- A face over numbers of programs: Delete and Next; conditions: each contract's own. -/
import Derived.Test.YtgkbiknokpmjmaaMFace3
import Derived.Test.YtgkbiknokpmjmaaMin
import Derived.Maps.RangeWalk
import Derived.Maps.AppendAt
set_option linter.unusedVariables false
set_option linter.unusedSimpArgs false
namespace Go.Proofs.Ytgkbiknokpmjmaa
open Go.RowKit Go.MapKept Go.Maps

set_option maxRecDepth 100000 in
set_option maxHeartbeats 2000000 in
theorem pdelete_calls {w : World} {x b n mx : Nat} {f : Lit → Option Int} (h : PM w x b n mx false f) (key : ByteArray) (hk : key.size = 4) :
    Calls Try.prog 9 #[.pointer (some ⟨x, 0, none⟩), .string key] w (PPost w x b n mx false (upd f (ik (leNum (nats key) : Nat)) none) (.int .i64 (if (f (ik (leNum (nats key) : Nat))).isSome then 0 else 4))) := by
  have HI := hide (fun W (hp : PM W x b n mx false f) => min_calls hp.hx (.inl ⟨b, rfl⟩))
  have HK := hide (fun W => number_calls key hk W)
  have a1 := MA.pa1
  have a2 := MA.pa2
  have a5 := MA.pa5
  have hkb : ((key.size : Int) != 4) = false := by rw [hk]; rfl
  obtain ⟨wk, hk4⟩ := nats_w64 key hk
  have HWK := hide wk
  generalize leNum (nats key) = K at *
  have HP := hide h
  obtain ⟨c0, c1, c2, c3, c4, c5⟩ := face_cells h.hx
  clear wk h
  cases hf : f (.int .i64 (K : Nat)) with
  | none =>
    have e0 : upd f (ik (K : Nat)) none = f := by
      funext z
      by_cases e : z = ik (K : Nat)
      · subst e; rw [upd_same]; exact hf.symm
      · exact upd_other _ _ e
    rw [e0]
    simp only [Option.isSome_none, Bool.false_eq_true, if_false]
    go_enter Try.func9, Try.ntmps9
    go_wp2_with fail
    refine (HI.out w HP.out).mono ?_
    rintro e w' ⟨rfl, rfl⟩
    go_wp2_with fail
    refine (HK.out _).mono ?_
    rintro e w1 ⟨rfl, s1⟩
    have HP1 := hide (HP.out.same s1)
    have HS1 := hide s1
    clear c0 c1 c2 c3 c4 c5 s1
    obtain ⟨c0, c1, c2, c3, c4, c5⟩ := face_cells HP1.out.hx
    obtain ⟨l1, l2, l3⟩ := HP1.out.mi.at HWK.out
    rw [hf] at l2
    simp only [Option.isSome_none, Option.getD_none] at l2
    clear l1 l3
    go_wp2
    go_ret
    exact ⟨rfl, HP1.out, HS1.out.one b⟩
  | some v =>
    simp only [Option.isSome_some, if_true]
    go_enter Try.func9, Try.ntmps9
    go_wp2_with fail
    refine (HI.out w HP.out).mono ?_
    rintro e w' ⟨rfl, rfl⟩
    go_wp2_with fail
    refine (HK.out _).mono ?_
    rintro e w1 ⟨rfl, s1⟩
    have HP1 := hide (HP.out.same s1)
    have HS1 := hide s1
    clear c0 c1 c2 c3 c4 c5 s1
    obtain ⟨c0, c1, c2, c3, c4, c5⟩ := face_cells HP1.out.hx
    obtain ⟨l1, l2, l3⟩ := HP1.out.mi.at HWK.out
    rw [hf] at l2
    simp only [Option.isSome_some, Option.getD_some] at l2
    clear l1 l3
    go_wp2_with fail
    refine (HK.out _).mono ?_
    rintro e w2 ⟨rfl, s2⟩
    have HP2 := hide (HP1.out.same s2)
    have HF2 := hide ((HS1.out.trans s2).fr [b])
    clear s2 l2 c0 c1 c2 c3 c4 c5
    go_wp2_with (at_delete; refine wpList_drop_MI _ rfl _ _ 68 rfl P.ki P.und HP2.out.mi rfl _ (ik (K : Nat)) rfl (P.keyi HWK.out) ?_)
    intro w3 hm3 ht3
    have HE := hide (And.intro (HP2.out.turn ht3 hm3) (HF2.out.trans (turned_one ht3)))
    clear hm3 ht3
    go_wp2
    go_ret
    exact ⟨rfl, HE.out.1, HE.out.2⟩
theorem le4_cells (i : Nat) (hi : i ≤ 4096) (W : World) : (convert 70 9 (.slice (some ⟨W.heap.size, 0, none⟩) 4 4)).run Try.prog (W.alloc (.cells #[.int .u8 ((i : Int) % 256), .int .u8 ((i : Int) / 256), .int .u8 ((i : Int) / 65536), .int .u8 ((i : Int) / 16777216)] 5)) =
    .ok (.string (bstr (leBytes i 4))) (W.alloc (.cells #[.int .u8 ((i : Int) % 256), .int .u8 ((i : Int) / 256), .int .u8 ((i : Int) / 65536), .int .u8 ((i : Int) / 16777216)] 5)) := by
  refine run_bytes (leBytes i 4) rfl (fun j hj => ?_)
  rw [getD_leBytes i 4 j hj, Nat.zero_add]
  simp only [World.cell?, heap_alloc_new]
  obtain rfl | rfl | rfl | rfl : j = 0 ∨ j = 1 ∨ j = 2 ∨ j = 3 := by omega
  all_goals simp
  all_goals omega
theorem min_run {w : World} {b c : Nat} {zs : List Int} (hn : 0 < zs.length) (hbig : zs.length ≤ 9223372036854775807) (hc : ∀ j, j < zs.length → w.cell? ⟨b, 0 + j, none⟩ = some (.int .i64 (zs.getD j 0))) :
    Calls Try.prog 34 #[.slice (some ⟨b, 0, none⟩) zs.length c] w fun e w' => e = .returned (.int .i64 (Lib.minOf zs)) ∧ w' = w := by
  have := Any.slices_Min_int Try.lays114 b 0 zs.length c zs w hn (Nat.le_refl _) hbig hc
  rwa [List.take_length] at this
theorem foldl_min_is (L : List Int) (a : Int) : (L.foldl min a = a ∨ L.foldl min a ∈ L) ∧ L.foldl min a ≤ a ∧ ∀ z ∈ L, L.foldl min a ≤ z := by
  induction L generalizing a with
  | nil => simp
  | cons x xs ih =>
    obtain ⟨h1, h2, h3⟩ := ih (min a x)
    rw [List.foldl_cons]
    refine ⟨?_, by omega, fun z hz => ?_⟩
    · rcases h1 with h1 | h1
      · by_cases e : a ≤ x
        · left; omega
        · right; rw [h1, show min a x = x by omega]; simp
      · right; exact List.mem_cons_of_mem _ h1
    · rcases List.mem_cons.1 hz with rfl | hz
      · omega
      · exact h3 z hz
theorem minOf_is (L : List Int) (h : 0 < L.length) : Lib.minOf L ∈ L ∧ ∀ z ∈ L, Lib.minOf L ≤ z := by
  cases L with
  | nil => simp at h
  | cons x xs =>
    obtain ⟨h1, h2, h3⟩ := foldl_min_is (x :: xs) x
    refine ⟨?_, h3⟩
    rcases h1 with h1 | h1
    · unfold Lib.minOf; simp only [List.headD_cons]; rw [h1]; simp
    · exact h1
/-- Which numbers Next looks at. -/
def nq (key : ByteArray) (x : Int) : Bool := decide (key.size ≠ 4) || decide (((leNum (nats key) : Nat) : Int) < x)
def NextIs (f : Lit → Option Int) (key : ByteArray) (v : ByteArray) (er : Int) : Prop :=
  (er = 4 ∧ v = ⟨#[]⟩ ∧ ∀ x : Int, (f (ik x)).isSome = true → nq key x = false) ∨
  (er = 0 ∧ ∃ m : Nat, v = bstr (leBytes m 4) ∧ (f (ik m)).isSome = true ∧ nq key m = true ∧ ∀ x : Int, (f (ik x)).isSome = true → nq key x = true → (m : Int) ≤ x)
def PNRel (w0 : World) (D : DataW Unit) (b n it B : Nat) (key : ByteArray) (v : Value) (wr : World) : Prop :=
  ∃ left cnt ss, wr.ranges Try.prog 3 (plainElem Try.prog 3) b it n D left cnt ∧ CollectedI D left ss ∧ wr.ownsRow B 3 1 v (ss.filter (nq key)).length ((ss.filter (nq key)).map encZ) ∧ ss.length + cnt ≤ n ∧ B ≤ wr.heap.size ∧ Fr [] [] w0 wr
theorem K13.info : (Try.prog.info? 3).map (fun i => (i.zero, i.size, i.bytes)) = some (some (.int .i64 0), 1, 8) := by kernel_rfl
theorem K13.und : Try.prog.underlying 22 = some (.slice 3) := by kernel_rfl
theorem own_ge {w : World} {B : Nat} {e : TypeId} {size : Nat} {v : Value} {n : Nat} {xs : List Value} (h : w.ownsRow B e size v n xs) : ∀ g, v.ownBlock = some g → B ≤ g := by
  intro g hg
  rcases h.2 with ⟨rfl, _⟩ | ⟨g', cap, cur, rfl, hb, _⟩
  · cases hg
  · cases hg; exact hb
theorem row_ints {w : World} {B : Nat} {v : Value} {l : List Int} (h : w.ownsRow B 3 1 v l.length (l.map encZ)) : ∃ A c, v = .slice A l.length c ∧ (0 < l.length → ∃ g, A = some ⟨g, 0, none⟩ ∧ ∀ j, j < l.length → w.cell? ⟨g, 0 + j, none⟩ = some (.int .i64 (l.getD j 0))) := by
  rcases h.2 with ⟨rfl, h0⟩ | ⟨g, cap, cur, rfl, hb, _⟩
  · exact ⟨none, 0, by rw [h0], fun hp => by omega⟩
  · refine ⟨_, cap, rfl, fun _ => ⟨g, rfl, fun j hj => ?_⟩⟩
    have := h.cells (g := g) rfl j (.int .i64 (l.getD j 0)) (by simp [encZ, List.getD_eq_getElem?_getD, List.getElem?_eq_getElem hj])
    rw [Nat.zero_add]
    rwa [show (⟨g, 0, none⟩ : Addr).add j = ⟨g, j, none⟩ by unfold Addr.add; split <;> simp_all] at this
theorem grown_same {w w' : World} (h : Same w w') : w.grownBy w' none := ⟨h.os, h.tape, h.output, by rw [h.heap]; exact Nat.le_refl _, fun i hi _ => by rw [h.heap]⟩
/-- One number more was looked at and taken. -/
theorem pn_take {w0 w3 w4 : World} {D : DataW Unit} {left : Lit → Bool} {b n it B cnt : Nat} {key : ByteArray} {v v' : Value} {ss : List Int} {z : Int} (hq : nq key z = true) (hrg : w3.ranges Try.prog 3 (plainElem Try.prog 3) b it n D left cnt) (hC : CollectedI D left (ss ++ [z]))
    (hrow : w3.ownsRow B 3 1 v (ss.filter (nq key)).length ((ss.filter (nq key)).map encZ)) (hown : w4.ownsRow B 3 1 v' ((ss.filter (nq key)).length + 1) ((ss.filter (nq key)).map encZ ++ [.int .i64 z]))
    (hg : (w3.alloc (.cells #[.int .i64 z] 3)).grownBy w4 v.ownBlock) (hlen : ss.length + 1 + cnt ≤ n) (hB : B ≤ w3.heap.size) (hb : b < B) (hi : it < B) (hw : w0.heap.size ≤ B) (hf : Fr [] [] w0 w3) : PNRel w0 D b n it B key v' w4 ∧ w4.rangeLeft b it = cnt := by
  have hge : ∀ g, v.ownBlock = some g → B ≤ g := own_ge hrow
  have hr4 : w4.ranges Try.prog 3 (plainElem Try.prog 3) b it n D left cnt := (hrg.alloc _).kept hg (fun e => by have := hge b e.symm; omega) (fun e => by have := hge it e.symm; omega)
  refine ⟨⟨left, cnt, ss ++ [z], hr4, hC, ?_, by rw [List.length_append]; simp; omega, by have := hg.size; rw [World.size_alloc] at this; omega, (hf.alloc _).own hg fun g hg => by have := hge g hg; omega⟩, hr4.left_eq⟩
  have e : (ss ++ [z]).filter (nq key) = ss.filter (nq key) ++ [z] := by rw [List.filter_append]; simp [hq]
  rw [e, List.length_append, List.map_append]
  exact hown
/-- One number more was looked at and left. -/
theorem pn_leave {w0 w3 : World} {D : DataW Unit} {left : Lit → Bool} {b n it B cnt : Nat} {key : ByteArray} {v : Value} {ss : List Int} {z : Int} (hq : nq key z = false) (hrg : w3.ranges Try.prog 3 (plainElem Try.prog 3) b it n D left cnt) (hC : CollectedI D left (ss ++ [z]))
    (hrow : w3.ownsRow B 3 1 v (ss.filter (nq key)).length ((ss.filter (nq key)).map encZ)) (hlen : ss.length + 1 + cnt ≤ n) (hB : B ≤ w3.heap.size) (hf : Fr [] [] w0 w3) : PNRel w0 D b n it B key v w3 ∧ w3.rangeLeft b it = cnt := by
  refine ⟨⟨left, cnt, ss ++ [z], hrg, hC, ?_, by rw [List.length_append]; simp; omega, hB, hf⟩, hrg.left_eq⟩
  have e : (ss ++ [z]).filter (nq key) = ss.filter (nq key) := by rw [List.filter_append]; simp [hq]
  rw [e]
  exact hrow
set_option maxRecDepth 100000 in
set_option maxHeartbeats 4000000 in
theorem pnext_calls {w : World} {x b n mx : Nat} {f : Lit → Option Int} (h : PM w x b n mx false f) (hn : n ≤ 1048576) (hr : ∀ z : Int, (f (ik z)).isSome = true → 0 ≤ z ∧ z ≤ 4096) (key : ByteArray) :
    Calls Try.prog 11 #[.pointer (some ⟨x, 0, none⟩), .string key] w fun e w' => ∃ v er, e = .returned (.tuple #[.string v, .int .i64 er]) ∧ NextIs f key v er ∧ Fr [] [] w w' := by
  have HI := hide (min_calls h.hx (.inl ⟨b, rfl⟩))
  have HK := hide (fun (hk : key.size = 4) W => number_calls key hk W)
  have a0 := MA.pa0
  have a1 := MA.pa1
  have a2 := MA.pa2
  have a5 := MA.pa5
  obtain ⟨c0, c1, c2, c3, c4, c5⟩ := face_cells h.hx
  obtain ⟨D, hown, hD⟩ := h.mi
  have hsz := hown.size_le
  have HMK := hide (fun z => mem_keys hown P.ki P.undInt P.und P.undInt (P.zero w) z)
  have HOW := hide hown
  have HD := hide hD
  have HR := hide hr
  obtain ⟨i0, hi, hz0, hz1, hz2⟩ := info_parts K13.info
  clear h hr
  go_enter Try.func11, Try.ntmps11
  go_wp2_with fail
  refine HI.out.mono ?_
  rintro e w' ⟨rfl, rfl⟩
  go_wp2_with (first | (at_range; refine wpList_range_own _ rfl _ 68 rfl 3 3 P.ki P.und _ b n D rfl HOW.out ?_))
  intro w1 hrg0 hg0 hs0
  have H0 : Hid (PNRel w D b n w.heap.size w1.heap.size key (.slice none 0 0) w1) := hide ⟨_, _, [], hrg0, CollectedI.start D, World.ownsRow_nil _ _ _ _, by simp; exact hsz, Nat.le_refl _, ⟨hg0.os, hg0.tape, hg0.output, hg0.size, fun k hk _ => hg0.block k hk (by simp), fun k hk => by simp at hk⟩⟩
  have HB := hide (show b < w1.heap.size ∧ w.heap.size < w1.heap.size from ⟨by have := HOW.out.lt; omega, by omega⟩)
  clear hrg0 hg0 hs0 c0 c1 c2 c3 c4 c5 hown hD
  go_wp2_with fail
  go_loopw [10] (fun v wr => PNRel w D b n w.heap.size w1.heap.size key v wr) (fun _ wr => wr.rangeLeft b w.heap.size)
  case atStart => exact H0.out
  case round =>
    clear H0
    obtain ⟨left, cnt, ss, hrg, hC, hrow, hlen, hBw, hf⟩ := hrel
    have HRO := hide hrow
    have HF := hide hf
    have HRG := hide hrg
    go_wp2_with (first | (at_next; refine wpList_next_ranges_ii _ rfl _ rfl 3 3 .i64 .i64 P.ki P.undInt P.undInt b w.heap.size n D _ _ rfl hrg ?_ ?_))
    · intro hc0 hl0
      have hperm := hC.perm HOW.out P.ki P.undInt hl0
      have hin : ∀ z : Int, z ∈ ss ↔ (f (ik z)).isSome = true := fun z => by rw [hperm.mem_iff, HMK.out z, HD.out]
      have HIN := hide hin
      obtain ⟨A, c, rfl, hcell⟩ := row_ints hrow
      have hmem : ∀ z, z ∈ ss.filter (nq key) ↔ (f (ik z)).isSome = true ∧ nq key z = true := fun z => by rw [List.mem_filter, hin z]
      have HMEM := hide hmem
      have hll : (ss.filter (nq key)).length ≤ n := Nat.le_trans (List.length_filter_le _ _) (by omega)
      generalize ss.filter (nq key) = L at *
      clear hrg hC hrow hf hperm hin hmem hl0
      by_cases hL : L.length = 0
      · have hL0 : L = [] := List.eq_nil_of_length_eq_zero hL
        subst hL0
        have HE : Hid (NextIs f key ⟨#[]⟩ 4) := hide (.inl ⟨rfl, rfl, fun z hz => by
          cases hq : nq key z with
          | false => rfl
          | true => have := (HMEM.out z).2 ⟨hz, hq⟩; simp at this⟩)
        clear hcell hll
        simp only [List.length_nil]
        go_wp2
        go_ret2
        exact ⟨_, _, rfl, HE.out, HF.out⟩
      · obtain ⟨g, rfl, hcg⟩ := hcell (by omega)
        have HM := hide (min_run (c := c) (by omega) (by omega) hcg)
        obtain ⟨hm1, hm2⟩ := minOf_is L (by omega)
        obtain ⟨hs1, hq1⟩ := (HMEM.out _).1 hm1
        obtain ⟨hb1, hb2⟩ := HR.out _ hs1
        have HLE := hide (fun z (hz : (f (ik z)).isSome = true) (hq : nq key z = true) => hm2 z ((HMEM.out z).2 ⟨hz, hq⟩))
        have HQ := hide (And.intro hs1 hq1)
        have hL0 : ((L.length : Int) == 0) = false := by rw [beq_eq_false_iff_ne]; omega
        clear hcell hll hm1 hm2 hs1 hq1
        generalize Lib.minOf L = q at *
        obtain ⟨m, rfl⟩ : ∃ m : Nat, q = (m : Int) := ⟨q.toNat, by omega⟩
        have hm4 : m ≤ 4096 := by omega
        have HC := fun W => hide (le4_cells m hm4 W)
        clear HMEM hcg hb1 hb2
        go_wp2_with fail
        refine HM.out.mono ?_
        rintro e w' ⟨rfl, rfl⟩
        have hcv := (HC w').out
        go_wp2
        go_ret2
        exact ⟨_, _, rfl, .inr ⟨rfl, m, rfl, HQ.out.1, HQ.out.2, HLE.out⟩, (HF.out.alloc _)⟩
    · intro z c w2 cnt2 hwx hwc hlk hat hrg2 hlt hg2 hs2 hen
      have HLT := hide hlt
      obtain ⟨hb1, hb2⟩ := HB.out
      have hge := own_ge hrow
      have hrow2 := ownsRow_keep hrow (fun g hg => hg2.block g ((hrow.lt g hg).2) (by have := hge g hg; intro e; cases e; omega))
      have HC2 := hide (hC.step hlk hat)
      have hl2 : ss.length + 1 + cnt2 ≤ n := by omega
      have hll : (ss.filter (nq key)).length ≤ ss.length := List.length_filter_le _ _
      have hBW : w1.heap.size ≤ w2.heap.size := by rw [hs2]; exact hBw
      have hf2 := hf.own hg2 (fun g e => by cases e; exact Nat.le_refl _)
      clear hrg hC hrow hf hge hlt hlk hat hwx hwc hg2 hs2 hBw hlen HRO
      by_cases hk4 : key.size = 4
      · have hkb : ((key.size : Int) != 4) = false := by rw [hk4]; rfl
        have HNm := hide (HK.out hk4 w2)
        have HNQ := hide (show nq key z = decide (((leNum (nats key) : Nat) : Int) < z) by unfold nq; simp [hk4])
        generalize leNum (nats key) = K at *
        have HPRE := hide (fun w3 (s3 : Same w2 w3) => (show w3.ranges Try.prog 3 (plainElem Try.prog 3) b w.heap.size n D (fun z_1 => left z_1 && !z_1.sameKey (.int .i64 z)) cnt2 ∧ w3.ownsRow w1.heap.size 3 1 _ (ss.filter (nq key)).length ((ss.filter (nq key)).map encZ) ∧ w1.heap.size ≤ w3.heap.size ∧ Fr [] [] w w3 from
          ⟨hrg2.kept (grown_same s3) (by simp) (by simp), ownsRow_keep hrow2 (fun g _ => by rw [s3.heap]), by rw [s3.heap]; exact hBW, hf2.own (grown_same s3) (fun _ e => by cases e)⟩))
        clear hrg2 hrow2 hf2 hBW
        by_cases hzz : (K : Int) < z
        · have HQ := hide (show nq key z = true by rw [HNQ.out]; simp [hzz])
          go_wp2_with fail
          refine HNm.out.mono ?_
          rintro e w3 ⟨rfl, s3⟩
          obtain ⟨q1, q2, hBW, q4⟩ := HPRE.out w3 s3
          have HRG3 := hide q1
          have HROW := hide q2
          have HF3 := hide q4
          clear q1 q2 q4 s3
          go_wp2_with (at_builtin; refine wpList_append_own_at _ rfl _ _ 22 rfl w1.heap.size 3 i0 (.int .i64 0) 1 8 K13.und hi hz0 hz1 hz2 rfl (by decide) _ _ _ rfl (HROW.out.alloc _) ⟨w3.heap.size, 0, none⟩ 1 1 [.int .i64 z] rfl rfl (cell_one_new _ _ _) ?c1 ?c2 ?c3 ?c4 ?_)
          case c1 => simp [Value.oneCell']
          case c2 => unfold maxLen; omega
          case c3 => omega
          case c4 => rw [World.size_alloc]; omega
          intro v' w6 hown' hgrow hnil hat6
          have HT := hide (pn_take (w0 := w) HQ.out HRG3.out HC2.out HROW.out hown' hgrow hl2 hBW (by omega) (by omega) (by omega) HF3.out)
          have HLE := hide (show w6.rangeLeft b w.heap.size < wr.rangeLeft b w.heap.size by rw [HT.out.2, HRG.out.left_eq]; exact HLT.out)
          clear hown' hgrow hnil hat6
          go_wp2
          exact ⟨HT.out.1, HLE.out⟩
        · have HQ := hide (show nq key z = false by rw [HNQ.out]; simp [hzz])
          go_wp2_with fail
          refine HNm.out.mono ?_
          rintro e w3 ⟨rfl, s3⟩
          obtain ⟨q1, q2, hBW, q4⟩ := HPRE.out w3 s3
          have HT := hide (pn_leave (w0 := w) HQ.out q1 HC2.out q2 hl2 hBW q4)
          have HLE := hide (show w3.rangeLeft b w.heap.size < wr.rangeLeft b w.heap.size by rw [HT.out.2, HRG.out.left_eq]; exact HLT.out)
          clear q1 q2 q4 s3
          go_wp2
          exact ⟨HT.out.1, HLE.out⟩
      · have hkb : ((key.size : Int) != 4) = true := by rw [bne_iff_ne]; omega
        have HQ := hide (show nq key z = true by unfold nq; simp [hk4])
        have HRG3 := hide hrg2
        have HROW := hide hrow2
        have HF3 := hide hf2
        clear hrg2 hrow2 hf2
        go_wp2_with (at_builtin; refine wpList_append_own_at _ rfl _ _ 22 rfl w1.heap.size 3 i0 (.int .i64 0) 1 8 K13.und hi hz0 hz1 hz2 rfl (by decide) _ _ _ rfl (HROW.out.alloc _) ⟨w2.heap.size, 0, none⟩ 1 1 [.int .i64 z] rfl rfl (cell_one_new _ _ _) ?c1 ?c2 ?c3 ?c4 ?_)
        case c1 => simp [Value.oneCell']
        case c2 => unfold maxLen; omega
        case c3 => omega
        case c4 => rw [World.size_alloc]; omega
        intro v' w6 hown' hgrow hnil hat6
        have HT := hide (pn_take (w0 := w) HQ.out HRG3.out HC2.out HROW.out hown' hgrow hl2 hBW (by omega) (by omega) (by omega) HF3.out)
        have HLE := hide (show w6.rangeLeft b w.heap.size < wr.rangeLeft b w.heap.size by rw [HT.out.2, HRG.out.left_eq]; exact HLT.out)
        clear hown' hgrow hnil hat6
        go_wp2
        exact ⟨HT.out.1, HLE.out⟩
end Go.Proofs.Ytgkbiknokpmjmaa
