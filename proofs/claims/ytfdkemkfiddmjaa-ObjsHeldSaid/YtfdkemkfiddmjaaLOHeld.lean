/- ObjsHeld: an object is there just as long as something holds it; condition: the order lies in memory. -/
import Derived.Test.YtfdkemkfiddmjaaOHeld
import Derived.Test.YtfdkemkfiddmjaaOpen
import Derived.Laws.Small
import Derived.Laws.Concat
import Derived.Deep.DeepCutAuto
import Derived.Deep.CutBlock
set_option linter.unusedVariables false
set_option linter.unusedSimpArgs false
namespace Go.Proofs.Ytfdkemkfiddmjaa
open Go.RowKit Go.MapKept Go.Maps

theorem O.undBytes : Try.prog.underlying 49 = some (.slice 5) := by kernel_rfl
theorem O.undU8 : Try.prog.underlying 5 = some (.int .u8) := by kernel_rfl
def leftO (a b c : Nat) : Obj := .cells #[.int .i64 a, .int .i64 b, .int .i64 c] 3 (0, 0)
structure HS (w : World) (t : Nat) (F : List Nat) (lb : Nat) (wr : World) (s : OSt) (NB a b c x y z : Nat) : Prop where
  os : OS wr t s NB F
  hi : HI s a b c
  lh : wr.heap[lb]? = some (leftO x y z)
  bl : Below w.heap.size w wr
  hF : ∀ k ∈ F, w.heap.size ≤ k
  lF : lb ∉ F
  lw : w.heap.size ≤ lb
theorem HS.cells {w wr : World} {t lb NB a b c x y z : Nat} {F : List Nat} {s : OSt} (h : HS w t F lb wr s NB a b c x y z) : wr.cell? ⟨lb, 0, none⟩ = some (.int .i64 x) ∧ wr.cell? ⟨lb, 1, none⟩ = some (.int .i64 y) ∧ wr.cell? ⟨lb, 2, none⟩ = some (.int .i64 z) ∧ ∀ i, wr.frozen? ⟨lb, i, none⟩ = false := by
  have := h.lh
  unfold leftO at this
  refine ⟨?_, ?_, ?_, fun i => ?_⟩ <;> simp [World.cell?, World.frozen?, this]
theorem HS.step {w wr w2 : World} {t lb NB NB' a b c a' b' c' x y z : Nat} {F : List Nat} {s s' : OSt} (h : HS w t F lb wr s NB a b c x y z) (h2 : OS w2 t s' NB' F) (hf : Fr F F wr w2) (hi : HI s' a' b' c') : HS w t F lb w2 s' NB' a' b' c' x y z :=
  ⟨h2, hi, by rw [hf.block lb (lt_of_heap h.lh) h.lF]; exact h.lh, h.bl.trans (hf.below h.bl.size h.hF), h.hF, h.lF, h.lw⟩
theorem HS.fr {w wr w2 : World} {t lb NB a b c x y z : Nat} {F : List Nat} {s : OSt} (h : HS w t F lb wr s NB a b c x y z) (hf : Fr [] [] wr w2) : HS w t F lb w2 s NB a b c x y z :=
  ⟨h.os.fr hf, h.hi, by rw [hf.block lb (lt_of_heap h.lh) (by simp)]; exact h.lh, h.bl.trans (hf.below h.bl.size (fun k hk => by simp at hk)), h.hF, h.lF, h.lw⟩
theorem HS.set {w wr : World} {t lb NB a b c x y z x' y' z' : Nat} {F : List Nat} {s : OSt} (h : HS w t F lb wr s NB a b c x y z) (i : Nat) (v : Value) (hv : (wr.setCell ⟨lb, i, none⟩ v).heap[lb]? = some (leftO x' y' z')) : HS w t F lb (wr.setCell ⟨lb, i, none⟩ v) s NB a b c x' y' z' :=
  ⟨h.os.frame (fun k hk => Below.heap_setCell _ _ _ _ (fun e => h.lF (by have e2 : k = lb := e; exact e2 ▸ hk))), h.hi, hv, h.bl.trans (((Fr.refl [lb] wr).setCell' (a := ⟨lb, i, none⟩) (.inl (by simp)) v).below h.bl.size (fun k hk => by simp at hk; subst hk; exact h.lw)), h.hF, h.lF, h.lw⟩
theorem set_left {wr : World} {lb x y z : Nat} (h : wr.heap[lb]? = some (leftO x y z)) (v : Nat) : (wr.setCell ⟨lb, 0, none⟩ (.int .i64 v)).heap[lb]? = some (leftO v y z) ∧ (wr.setCell ⟨lb, 1, none⟩ (.int .i64 v)).heap[lb]? = some (leftO x v z) ∧ (wr.setCell ⟨lb, 2, none⟩ (.int .i64 v)).heap[lb]? = some (leftO x y v) := by
  unfold leftO at *
  exact ⟨heap_setCell_same h, heap_setCell_same h, heap_setCell_same h⟩
theorem pth_run (i : Nat) (hi : i < 10) (W : World) : (convert 49 9 (.slice (some ⟨W.heap.size, 0, none⟩) 1 1)).run Try.prog (W.alloc (.cells #[.int .u8 (97 + (i : Int))] 5)) = .ok (.string (strOfNums [97 + (i : Int)])) (W.alloc (.cells #[.int .u8 (97 + (i : Int))] 5)) :=
  run_convert_bytes_arg (W.alloc (.cells #[.int .u8 (97 + (i : Int))] 5)) _ _ O.undBytes O.undU8 W.heap.size 0 1 1 [97 + (i : Int)] rfl (fun j hj => by
    obtain rfl : j = 0 := by omega
    simp only [World.cell?]
    rw [heap_alloc_new]
    rfl) _ O.undStr
/-- The order of letting go. -/
def OrdAt (w : World) (a : Option Addr) (len : Nat) : Prop := ∀ i, i < len → ∃ (b o : Nat) (z : Int), a = some ⟨b, o, none⟩ ∧ b < w.heap.size ∧ W64 z ∧ w.cell? ⟨b, o + i, none⟩ = some (.int .i64 z)
theorem ord_row {w : World} {a : Option Addr} {len cap : Nat} {zs : List Int} (h : RowI .i64 w a len cap zs) : OrdAt w a len := by
  intro i hi
  rcases h with ⟨rfl, rfl, _⟩ | ⟨x, rfl, h1, h2, h3, h4, h5⟩
  · omega
  · have hc := h4 i (by omega)
    obtain ⟨b, o, k⟩ := x
    cases k with
    | none =>
      rw [addr_add] at hc
      refine ⟨b, o, zs.getD i 0, rfl, World.block_lt_of_cell? _ _ hc, ?_, hc⟩
      have hi2 : i < zs.length := by omega
      rw [List.getD_eq_getElem?_getD, List.getElem?_eq_getElem hi2]
      exact h5 _ (List.getElem_mem hi2)
    | some q =>
      have hc0 := h4 0 (by omega)
      simp only [World.cell?, Addr.add, if_true] at hc0
      split at hc0
      · simp at hc0
      · cases hc0
/-- How far it is to the next that is left. -/
def dst (i x y z : Nat) : Nat :=
  if i % 3 = 0 then (if 0 < x then 0 else if 0 < y then 1 else 2) else if i % 3 = 1 then (if 0 < y then 0 else if 0 < z then 1 else 2) else (if 0 < z then 0 else if 0 < x then 1 else 2)
def meas (len i x y z : Nat) : Nat := 3 * ((len - i) + (x + y + z)) + (if i < len then 0 else dst i x y z)
theorem dst_le (i x y z : Nat) : dst i x y z ≤ 2 := by unfold dst; (repeat' split) <;> omega
theorem meas_skip {len i x y z : Nat} (h : i < len ∨ (i % 3 = 0 ∧ x = 0) ∨ (i % 3 = 1 ∧ y = 0) ∨ (i % 3 = 2 ∧ z = 0)) (h0 : 0 < x + y + z) : meas len (i + 1) x y z < meas len i x y z := by
  have h2 := dst_le (i + 1) x y z
  unfold meas
  by_cases hl : i < len
  · rw [if_pos hl]
    split <;> omega
  · rw [if_neg hl, if_neg (by omega)]
    have hd : dst (i + 1) x y z < dst i x y z := by
      rcases h with h | ⟨h, rfl⟩ | ⟨h, rfl⟩ | ⟨h, rfl⟩
      · omega
      · have h1 : (i + 1) % 3 = 1 := by omega
        unfold dst
        rw [h, h1]
        simp
        (repeat' split) <;> omega
      · have h1 : (i + 1) % 3 = 2 := by omega
        unfold dst
        rw [h, h1]
        simp
        (repeat' split) <;> omega
      · have h1 : (i + 1) % 3 = 0 := by omega
        unfold dst
        rw [h, h1]
        simp
        (repeat' split) <;> omega
    omega
theorem meas_less {len i x y z x' y' z' : Nat} (h : x' + y' + z' + 1 = x + y + z) : meas len (i + 1) x' y' z' < meas len i x y z := by
  have h2 := dst_le (i + 1) x' y' z'
  unfold meas
  by_cases hl : i < len
  · rw [if_pos hl]
    split <;> omega
  · rw [if_neg hl, if_neg (by omega)]
    omega
theorem mod3_nat (x : Int) : ∃ i : Nat, i < 3 ∧ (x.tmod 3 + 3).tmod 3 = (i : Int) ∧ -3 < x.tmod 3 ∧ x.tmod 3 < 3 ∧ (0 ≤ x → (i : Int) = x % 3) := by
  have h1 : -3 < x.tmod 3 := by have := Int.lt_tmod_of_pos x (b := 3) (by omega); omega
  have h2 : x.tmod 3 < 3 := Int.tmod_lt_of_pos x (by omega)
  refine ⟨((x.tmod 3 + 3).tmod 3).toNat, ?_, ?_, h1, h2, fun h0 => ?_⟩
  · rw [Int.tmod_eq_emod_of_nonneg (by omega)]; omega
  · rw [Int.tmod_eq_emod_of_nonneg (by omega)]; omega
  · rw [Int.tmod_eq_emod_of_nonneg (by omega), Int.tmod_eq_emod_of_nonneg h0]; omega
theorem fr_drew1 (w : World) : Fr [] [] w w.drew := ⟨rfl, rfl, rfl, Nat.le_refl _, fun _ _ _ => rfl, fun k hk => .inl hk⟩
def R1 (w : World) (t : Nat) (F : List Nat) (lb x y z : Nat) (v : Value) (wr : World) : Prop := ∃ i s, i ≤ x ∧ v = .int .i64 i ∧ HS w t F lb wr s (3 + 2 * i) (i + 1) 0 0 x y z
def R2 (w : World) (t : Nat) (F : List Nat) (lb x y z : Nat) (v : Value) (wr : World) : Prop := ∃ i s, i ≤ y ∧ v = .int .i64 i ∧ HS w t F lb wr s (3 + 2 * (x + i)) (x + 1) i 0 x y z
def R3 (w : World) (t : Nat) (F : List Nat) (lb x y z : Nat) (v : Value) (wr : World) : Prop := ∃ i s, i ≤ z ∧ v = .int .i64 i ∧ HS w t F lb wr s (3 + 2 * (x + y + i)) (x + 1) y i x y z
def R4 (w : World) (t : Nat) (F : List Nat) (lb len : Nat) (v : Value) (wr : World) : Prop := ∃ (i : Nat) (s : OSt) (NB a b c : Nat), v = .int .i64 i ∧ a ≤ 10 ∧ b ≤ 9 ∧ c ≤ 9 ∧ NB + 2 * (a + b + c) ≤ 200 ∧ i + meas len i a b c ≤ 3 * len + 100 ∧ HS w t F lb wr s NB a b c a b c
def M4 (len : Nat) (v : Value) (wr : World) (lb : Nat) : Nat := match wr.cell? ⟨lb, 0, none⟩, wr.cell? ⟨lb, 1, none⟩, wr.cell? ⟨lb, 2, none⟩ with
  | some (.int _ x), some (.int _ y), some (.int _ z) => meas len (RowKit.intOf v).toNat x.toNat y.toNat z.toNat
  | _, _, _ => 0
theorem M4_eq {w wr : World} {t lb NB a b c x y z len i : Nat} {F : List Nat} {s : OSt} (h : HS w t F lb wr s NB a b c x y z) : M4 len (.int .i64 i) wr lb = meas len i x y z := by
  obtain ⟨c0, c1, c2, -⟩ := h.cells
  unfold M4
  rw [c0, c1, c2]
  simp [RowKit.intOf]
set_option maxRecDepth 100000 in
set_option maxHeartbeats 4000000 in
theorem oheld_calls (n0 n1 n2 : Int) (a : Option Addr) (len cap : Nat) (w : World) (hord : OrdAt w a len) (hlen : len ≤ 140737488355328) :
    Calls Try.prog 5 #[.agg #[.int .i64 n0, .int .i64 n1, .int .i64 n2], .slice a len cap] w fun e w' => e = .returned (.bool true) ∧ Below w.heap.size w w' := by
  have hu := Try.underlying45
  have HO := hide hord
  have HA := hide (fun W => oawake W)
  obtain ⟨x, hx⟩ : ∃ x : Nat, (x : Int) = max 0 (min n0 9) := ⟨(max 0 (min n0 9)).toNat, by omega⟩
  obtain ⟨y, hy⟩ : ∃ x : Nat, (x : Int) = max 0 (min n1 9) := ⟨(max 0 (min n1 9)).toNat, by omega⟩
  obtain ⟨z, hz⟩ : ∃ x : Nat, (x : Int) = max 0 (min n2 9) := ⟨(max 0 (min n2 9)).toNat, by omega⟩
  have hmn : ∀ (n : Int) W, (Builtin.min_ #[3, 3] 3 #[.int .i64 n, .int .i64 9]).run Try.prog W = .ok (.int .i64 (min n 9)) W := fun n W => by
    rw [run_min_int2]
    congr 2
    split <;> omega
  have mm : ∀ (n : Int) (k : Nat) (hk : (k : Int) = max 0 (min n 9)) W, (Builtin.max_ #[3, 3] 3 #[.int .i64 0, .int .i64 (min n 9)]).run Try.prog W = .ok (.int .i64 k) W := fun n k hk W => by
    rw [run_max_int2]
    congr 2
    split <;> omega
  have m0 := mm n0 x hx
  have m1 := mm n1 y hy
  have m2 := mm n2 z hz
  have hx9 : x ≤ 9 := by omega
  have hy9 : y ≤ 9 := by omega
  have hz9 : z ≤ 9 := by omega
  have hxi : (x : Int) ≤ 9 := by omega
  clear mm hx hy hz hord
  go_enter Try.func5, Try.ntmps5
  go_wp2_with fail
  refine (onew_calls _).mono ?_
  rintro e w1 ⟨t, F, rfl, h1, f1, hF⟩
  have hfb := ((Fr.refl [] w).alloc' (.cells #[.int .i64 n0, .int .i64 n1, .int .i64 n2] 45))
  have hbx : w1.heap[w.heap.size]? = some (.cells #[.int .i64 n0, .int .i64 n1, .int .i64 n2] 45 (0, 0)) := f1.keep (heap_alloc_new _ _) (by simp)
  have hwF : ∀ k ∈ F, w.heap.size < k := fun k hk => by have := hF k hk; rw [World.size_alloc] at this; omega
  obtain ⟨q1, q2⟩ := HI.start 1
  have HAD := hide (add_calls h1 (by omega) (kind := 1) (by decide))
  rw [q1] at HAD
  have HQ := hide q2
  have HB1 := hide ((hfb.below (Nat.le_refl _) (fun k hk => by simp at hk)).trans ((f1.below (Nat.le_refl _) (fun k hk => by simp at hk)).mono hfb.size))
  have HWF := hide hwF
  clear h1 f1 hF hfb q1 q2 hwF
  unfold OPost3 v3 at HAD
  go_wp2_with fail
  refine HAD.out.mono ?_
  rintro e w2 ⟨rfl, h2, f2⟩
  have hbx2 := f2.keep hbx (fun hm => by have := HWF.out _ hm; omega)
  have b0 : w2.cell? ⟨w.heap.size, 0, none⟩ = some (.int .i64 n0) := by simp [World.cell?, hbx2]
  have b1 : w2.cell? ⟨w.heap.size, 1, none⟩ = some (.int .i64 n1) := by simp [World.cell?, hbx2]
  have b2 : w2.cell? ⟨w.heap.size, 2, none⟩ = some (.int .i64 n2) := by simp [World.cell?, hbx2]
  have hs2 : HS w t F w2.heap.size (w2.alloc (leftO x y z)) (oempty.add 1).2 (3 + 2 * 0) (0 + 1) 0 0 x y z :=
    ⟨(h2.mono (by omega)).fr ((Fr.refl [] w2).alloc' _), HQ.out, heap_alloc_new _ _, (HB1.out.trans (f2.below HB1.out.size (fun k hk => Nat.le_of_lt (HWF.out k hk)))).trans ((((Fr.refl [] w2).alloc' _).below (Nat.le_refl _) (fun k hk => by simp at hk)).mono (HB1.out.trans (f2.below HB1.out.size (fun k hk => Nat.le_of_lt (HWF.out k hk)))).size), fun k hk => Nat.le_of_lt (HWF.out k hk), fun hm => Nat.lt_irrefl _ (h2.lt _ hm), (HB1.out.trans (f2.below HB1.out.size (fun k hk => Nat.le_of_lt (HWF.out k hk)))).size⟩
  have H1 := hide (show R1 w t F w2.heap.size x y z (.int .i64 0) (w2.alloc (leftO x y z)) from ⟨0, _, by omega, rfl, hs2⟩)
  unfold leftO at H1
  obtain ⟨lb, hlb⟩ : ∃ lb, lb = w2.heap.size := ⟨_, rfl⟩
  clear h2 f2 hbx hbx2 hs2
  go_wp2_with fail
  rw [← hlb]
  rw [← hlb] at H1
  clear b0 b1 b2 hlb
  go_loopw [10] (fun v wr => R1 w t F lb x y z v wr) (fun v _ => x - (RowKit.intOf v).toNat)
  case atStart => exact H1.out
  case round =>
    clear H1
    obtain ⟨i, s, hi, rfl, hs⟩ := hrel
    obtain ⟨c0, c1, c2, cf⟩ := hs.cells
    have HSS := hide hs
    by_cases hlt : i < x
    · have hi1 : (i : Int) < x := by omega
      obtain ⟨q1, q2⟩ := hs.hi.dup (by omega) (by omega)
      have HD := hide (dup_calls hs.os (by omega) (fd := 0) (by decide))
      rw [q1] at HD
      have HQ := hide q2
      clear q1 q2 hs
      go_wp2_with fail
      refine HD.out.mono ?_
      rintro e w3 ⟨rfl, h3, f3⟩
      have HE : Hid (R1 w t F lb x y z (.int .i64 ((i : Int) + 1)) w3) := hide ⟨i + 1, _, by omega, by simp, by have := HSS.out.step h3 f3 HQ.out; rwa [show 3 + 2 * i + 2 = 3 + 2 * (i + 1) by omega] at this⟩
      clear h3 f3
      go_wp2
      exact ⟨HE.out, by show x - ((i : Int) + 1).toNat < x - ((i : Int)).toNat; omega⟩
    obtain rfl : i = x := by omega
    have H2 := hide (show R2 w t F lb i y z (.int .i64 0) wr from ⟨0, s, by omega, rfl, by simpa using hs⟩)
    clear hs HSS
    go_wp2_with fail
    go_loopw [13] (fun v wr => R2 w t F lb i y z v wr) (fun v _ => y - (RowKit.intOf v).toNat)
    case atStart => exact H2.out
    case round =>
      clear H2 c0 c1 c2 cf
      obtain ⟨j, s, hj, rfl, hs⟩ := hrel
      obtain ⟨c0, c1, c2, cf⟩ := hs.cells
      have HSS := hide hs
      by_cases hlt : j < y
      · have hj1 : (j : Int) < y := by omega
        obtain ⟨q1, q2⟩ := hs.hi.pin (by omega) (show j < 10 by omega)
        have hsa := hs.fr ((Fr.refl [] wr).alloc' (.cells #[.int .u8 (97 + (j : Int))] 5))
        have HSA := hide hsa
        have HD := hide (pin_calls hsa.os (by omega) (pth j) (fd := 0) (by decide))
        rw [q1] at HD
        have HQ := hide q2
        have hcv := pth_run j (by omega) wr
        have hsz : (strOfNums [97 + (j : Int)]).size = 1 := rfl
        have hm1 : (97 + (j : Int)) % 256 = 97 + j := by omega
        have hj0 : (j : Int) ≤ 9 := by omega
        unfold pth at HD
        clear q1 q2 hs hsa
        go_wp2_with fail
        refine HD.out.mono ?_
        rintro e w3 ⟨rfl, h3, f3⟩
        have HE : Hid (R2 w t F lb i y z (.int .i64 ((j : Int) + 1)) w3) := hide ⟨j + 1, _, by omega, by simp, by have := HSA.out.step h3 f3 HQ.out; rwa [show 3 + 2 * (i + j) + 2 = 3 + 2 * (i + (j + 1)) by omega] at this⟩
        clear h3 f3
        go_wp2
        exact ⟨HE.out, by show y - ((j : Int) + 1).toNat < y - ((j : Int)).toNat; omega⟩
      obtain rfl : j = y := by omega
      have H3 := hide (show R3 w t F lb i j z (.int .i64 0) wr from ⟨0, s, by omega, rfl, by simpa using hs⟩)
      clear hs HSS
      go_wp2_with fail
      go_loopw [14] (fun v wr => R3 w t F lb i j z v wr) (fun v _ => z - (RowKit.intOf v).toNat)
      case atStart => exact H3.out
      case round =>
        clear H3 c0 c1 c2 cf
        obtain ⟨k, s, hk, rfl, hs⟩ := hrel
        obtain ⟨c0, c1, c2, cf⟩ := hs.cells
        have HSS := hide hs
        by_cases hlt : k < z
        · have hk1 : (k : Int) < z := by omega
          obtain ⟨q1, q2⟩ := hs.hi.hold (by omega)
          have HD := hide (hold_calls hs.os (by omega) (id := 1) (by decide))
          rw [q1] at HD
          have HQ := hide q2
          clear q1 q2 hs
          go_wp2_with fail
          refine HD.out.mono ?_
          rintro e w3 ⟨rfl, h3, f3⟩
          have HE : Hid (R3 w t F lb i j z (.int .i64 ((k : Int) + 1)) w3) := hide ⟨k + 1, _, by omega, by simp, by have := HSS.out.step h3 f3 HQ.out; rwa [show 3 + 2 * (i + j + k) + 2 = 3 + 2 * (i + j + (k + 1)) by omega] at this⟩
          clear h3 f3
          go_wp2
          exact ⟨HE.out, by show z - ((k : Int) + 1).toNat < z - ((k : Int)).toNat; omega⟩
        obtain rfl : k = z := by omega
        have hs1 := hs.set 0 (.int .i64 ((i + 1 : Nat) : Int)) (set_left hs.lh (i + 1)).1
        rw [show ((i + 1 : Nat) : Int) = (i : Int) + 1 by omega] at hs1
        have f0 := cf 0
        have H4 := hide (show R4 w t F lb len (.int .i64 0) (wr.setCell ⟨lb, 0, none⟩ (.int .i64 ((i : Int) + 1))) from ⟨0, s, _, i + 1, j, k, rfl, by omega, by omega, by omega, by omega, by have := dst_le 0 (i + 1) j k; unfold meas; split <;> omega, hs1⟩)
        have hio : (i : Int) ≤ 9 := by omega
        clear hs HSS hs1
        go_wp2_with fail
        go_loopw [15] (fun v wr => R4 w t F lb len v wr) (fun v wr => M4 len v wr lb)
        case atStart => exact H4.out
        case round =>
          clear H4 c0 c1 c2 cf f0
          obtain ⟨n, s, NB, p, q, r, rfl, hp, hq, hr, hNB, hM, hs⟩ := hrel
          have HM4 := hide (M4_eq (len := len) (i := n) hs)
          obtain ⟨c0, c1, c2, cf⟩ := hs.cells
          have hn0 : (n : Int) ≤ 422212465067984 := by omega
          have hn00 : (0 : Int) ≤ n := by omega
          have hpi : (p : Int) ≤ 10 := by omega
          have hqi : (q : Int) ≤ 9 := by omega
          have hri : (r : Int) ≤ 9 := by omega
          by_cases hS : p + q + r = 0
          · obtain ⟨rfl, rfl, rfl⟩ : p = 0 ∧ q = 0 ∧ r = 0 := by omega
            have HB := hide hs.bl
            clear hs hM
            go_wp2_with fail
            go_region
            all_goals
              go_wp2_with fail
              refine (HA.out _).mono ?_
              rintro e w5 ⟨rfl, hb5⟩
              have HE : Hid (Below w.heap.size w w5) := hide (HB.out.trans ((show Below wr.heap.size wr w5 from ⟨hb5.os, hb5.tape, hb5.output, hb5.size, hb5.block⟩).mono HB.out.size))
              clear hb5
              go_wp2
              go_ret
              exact ⟨rfl, HE.out⟩
          · have hS1 : ¬ ((p : Int) + q + r ≤ 0) := by omega
            have hS2 : (0 : Int) < (p : Int) + q + r := by omega
            go_wp2_with fail
            go_region
            have hsd := hs.fr (fr_drew1 wr)
            obtain ⟨c0', c1', c2', cf'⟩ := hsd.cells
            have HSD := hide hsd
            have HBL := hide hs.bl
            clear hs hsd
            go_upto_if 110 with fail
            go_cut [16] (fun s16 wx => wx = wr.drew ∧ ∃ kz : Int, s16 = .int .i64 kz ∧ W64 kz ∧ (n < len ∨ kz = n))
            case first =>
              by_cases hlt : n < len
              · obtain ⟨b, o, kz, rfl, hbl, hwz, hcz⟩ := HO.out n hlt
                have hcw : wr.drew.cell? ⟨b, o + n, none⟩ = some (.int .i64 kz) := by
                  rw [← hcz]
                  simp only [World.cell?]
                  rw [show wr.drew.heap[b]? = w.heap[b]? from HBL.out.block b hbl]
                have hcw2 : wr.cell? ⟨b, o + n, none⟩ = some (.int .i64 kz) := hcw
                have hn1 : (n : Int) < len := by omega
                clear hcz
                go_wp2
                go_meet
                exact ⟨rfl, kz, rfl, hwz, .inl hlt⟩
              · have hn1 : ¬ (n : Int) < len := by omega
                go_wp2
                go_meet
                exact ⟨rfl, n, rfl, (w64_iff _).2 (by omega), .inr rfl⟩
            case rest =>
              obtain ⟨rfl, kz, rfl, hwz, hkd0⟩ := hcut
              obtain ⟨kk, hkk, hk, hb1, hb2, hkm⟩ := mod3_nat kz
              have hkd : n < len ∨ kk = n % 3 := by
                rcases hkd0 with e | e
                · exact .inl e
                · exact .inr (by have := hkm (by omega); omega)
              have hs := HSD.out
              clear hkd0 hwz hkm
              have hk3 : kk = 0 ∨ kk = 1 ∨ kk = 2 := by omega
              rcases hk3 with hk3 | hk3 | hk3
              · obtain rfl : kk = 0 := by omega
                cases p with
                | zero =>
                  have HN : Hid (R4 w t F lb len (.int .i64 ((n : Int) + 1)) wr.drew ∧ M4 len (.int .i64 ((n : Int) + 1)) wr.drew lb < M4 len (.int .i64 n) wr lb) := hide (by
                    have hms := meas_skip (len := len) (i := n) (x := 0) (y := q) (z := r) (by omega) (by omega)
                    refine ⟨⟨n + 1, s, NB, _, _, _, by simp, hp, hq, hr, hNB, by omega, hs⟩, ?_⟩
                    rw [HM4.out, show ((n : Int) + 1) = ((n + 1 : Nat) : Int) by omega, M4_eq hs]
                    exact hms)
                  clear hs hM hNB
                  go_wp2
                  exact HN.out
                | succ p =>
                  have hs1 := hs.set 0 (.int .i64 p) (set_left hs.lh p).1
                  have f0 := cf 0
                  have f0' := cf' 0
                  have hv1 : (((p + 1 : Nat)) : Int) - 1 = p := by omega
                  have hv2 : (((p + 1 : Nat) : Int) == 0) = false := by rw [beq_eq_false_iff_ne]; omega
                  have HS1 := hide hs1
                  have HCL := hide (close_calls hs1.os (by omega) (fd := (p : Int)) ((w64_iff _).2 (by omega)))
                  obtain ⟨q1, q2⟩ := hs.hi.close (by omega)
                  rw [q1] at HCL
                  have HQ := hide q2
                  have hL := meas_less (len := len) (i := n) (x := (p + 1)) (y := q) (z := r) (x' := p) (y' := q) (z' := r) (by omega)
                  have HL := hide hL
                  obtain ⟨d0, d1, d2, df⟩ := hs1.cells
                  skip
                  clear hs hs1 q1 q2 hL
                  go_wp2_with fail
                  refine HCL.out.mono ?_
                  rintro e w3 ⟨v3, rfl, i3, h3, f3⟩
                  have hs3 := HS1.out.step h3 f3 HQ.out
                  obtain ⟨e0, e1, e2, ef⟩ := hs3.cells
                  have HS3 := hide hs3
                  have HLV := hide (fun W (hf : Fr [] [] w3 W) => live_calls (hs3.os.fr hf) (by omega))
                  have HEND : Hid (∀ W, Fr [] [] w3 W → R4 w t F lb len (.int .i64 ((n : Int) + 1)) W ∧ M4 len (.int .i64 ((n : Int) + 1)) W lb < M4 len (.int .i64 n) wr lb) := hide fun W hf => by
                    have h5 := HS3.out.fr hf
                    refine ⟨⟨n + 1, _, _, p, q, r, by simp, by omega, by omega, by omega, by omega, by have := HL.out; omega, h5⟩, ?_⟩
                    rw [HM4.out, show ((n : Int) + 1) = ((n + 1 : Nat) : Int) by omega, M4_eq h5]
                    exact HL.out
                  clear h3 f3 hs3 hM hNB
                  by_cases hz : p + q + r = 0
                  · obtain ⟨rfl, rfl, rfl⟩ : p = 0 ∧ q = 0 ∧ r = 0 := by omega
                    obtain ⟨g3, k3, rfl, -, -⟩ := ints_one (show IntsAt w3 _ v3 [1] from i3)
                    clear i3 d0 d1 d2 df
                    go_wp2_with fail
                    go_region
                    all_goals
                      go_wp2_with fail
                      refine (HLV.out _ (fr_drew1 _)).mono ?_
                      rintro e w4 ⟨v4, l, rfl, i4, hp4, hl4, f4⟩
                      have hl0 := (HS3.out.hi.live hp4 hl4).2 rfl
                      obtain rfl : l = [] := List.eq_nil_of_length_eq_zero hl0
                      obtain ⟨g4, k4, rfl⟩ := ints_nil i4
                      have HN := hide (HEND.out w4 ((fr_drew1 w3).trans f4))
                      clear i4 hp4 hl4 f4 hl0
                      go_wp2
                      exact HN.out
                  · have hdd : dead1 (p + q + r) = [] := if_pos (by omega)
                    rw [hdd] at i3
                    obtain ⟨g3, k3, rfl⟩ := ints_nil i3
                    have hz2 : (((p : Int) + q + r) == 0) = false := by rw [beq_eq_false_iff_ne]; omega
                    clear i3 d0 d1 d2 df hdd
                    go_wp2_with fail
                    go_region
                    all_goals
                      go_wp2_with fail
                      refine (HLV.out _ (fr_drew1 _)).mono ?_
                      rintro e w4 ⟨v4, l, rfl, i4, hp4, hl4, f4⟩
                      have hl0 : ¬ l.length = 0 := fun e => hz ((HS3.out.hi.live hp4 hl4).1 e)
                      have hl1 : ((l.length : Int) == 0) = false := by rw [beq_eq_false_iff_ne]; omega
                      obtain ⟨g4, k4, rfl, -⟩ := i4
                      have HN := hide (HEND.out w4 ((fr_drew1 w3).trans f4))
                      clear hp4 hl4 f4 hl0
                      go_wp2
                      exact HN.out
              · obtain rfl : kk = 1 := by omega
                cases q with
                | zero =>
                  have HN : Hid (R4 w t F lb len (.int .i64 ((n : Int) + 1)) wr.drew ∧ M4 len (.int .i64 ((n : Int) + 1)) wr.drew lb < M4 len (.int .i64 n) wr lb) := hide (by
                    have hms := meas_skip (len := len) (i := n) (x := p) (y := 0) (z := r) (by omega) (by omega)
                    refine ⟨⟨n + 1, s, NB, _, _, _, by simp, hp, hq, hr, hNB, by omega, hs⟩, ?_⟩
                    rw [HM4.out, show ((n : Int) + 1) = ((n + 1 : Nat) : Int) by omega, M4_eq hs]
                    exact hms)
                  clear hs hM hNB
                  go_wp2
                  exact HN.out
                | succ q =>
                  have hs1 := hs.set 1 (.int .i64 q) (set_left hs.lh q).2.1
                  have f1 := cf 1
                  have f1' := cf' 1
                  have hv1 : (((q + 1 : Nat)) : Int) - 1 = q := by omega
                  have hv2 : (((q + 1 : Nat) : Int) == 0) = false := by rw [beq_eq_false_iff_ne]; omega
                  have hsa := hs1.fr ((Fr.refl [] _).alloc' (.cells #[.int .u8 (97 + (q : Int))] 5))
                  have hsz0 : (wr.setCell ⟨lb, 1, none⟩ (.int .i64 q)).drew.heap.size = wr.heap.size := by show (wr.setCell ⟨lb, 1, none⟩ (.int .i64 q)).heap.size = _; simp [World.setCell]
                  have hcv0 := pth_run q (by omega) (wr.setCell ⟨lb, 1, none⟩ (.int .i64 q)).drew
                  rw [hsz0] at hcv0
                  have hcv : (convert 49 9 (.slice (some ⟨wr.heap.size, 0, none⟩) 1 1)).run Try.prog ((wr.setCell ⟨lb, 1, none⟩ (.int .i64 q)).alloc (.cells #[.int .u8 (97 + (q : Int))] 5)).drew = .ok (.string (strOfNums [97 + (q : Int)])) ((wr.setCell ⟨lb, 1, none⟩ (.int .i64 q)).alloc (.cells #[.int .u8 (97 + (q : Int))] 5)).drew := hcv0
                  clear hcv0 hsz0
                  have hsz : (strOfNums [97 + (q : Int)]).size = 1 := rfl
                  have hm1 : (97 + (q : Int)) % 256 = 97 + q := by omega
                  have HS1 := hide hsa
                  have HCL := hide (unpin_calls hsa.os (by omega) (pth q))
                  obtain ⟨q1, q2⟩ := hs.hi.unpin (by omega)
                  rw [q1] at HCL
                  have HQ := hide q2
                  have hL := meas_less (len := len) (i := n) (x := p) (y := (q + 1)) (z := r) (x' := p) (y' := q) (z' := r) (by omega)
                  have HL := hide hL
                  obtain ⟨d0, d1, d2, df⟩ := hs1.cells
                  unfold pth at HCL
                  clear hs hs1 q1 q2 hL hsa
                  go_wp2_with fail
                  refine HCL.out.mono ?_
                  rintro e w3 ⟨v3, rfl, i3, h3, f3⟩
                  have hs3 := HS1.out.step h3 f3 HQ.out
                  obtain ⟨e0, e1, e2, ef⟩ := hs3.cells
                  have HS3 := hide hs3
                  have HLV := hide (fun W (hf : Fr [] [] w3 W) => live_calls (hs3.os.fr hf) (by omega))
                  have HEND : Hid (∀ W, Fr [] [] w3 W → R4 w t F lb len (.int .i64 ((n : Int) + 1)) W ∧ M4 len (.int .i64 ((n : Int) + 1)) W lb < M4 len (.int .i64 n) wr lb) := hide fun W hf => by
                    have h5 := HS3.out.fr hf
                    refine ⟨⟨n + 1, _, _, p, q, r, by simp, by omega, by omega, by omega, by omega, by have := HL.out; omega, h5⟩, ?_⟩
                    rw [HM4.out, show ((n : Int) + 1) = ((n + 1 : Nat) : Int) by omega, M4_eq h5]
                    exact HL.out
                  clear h3 f3 hs3 hM hNB
                  by_cases hz : p + q + r = 0
                  · obtain ⟨rfl, rfl, rfl⟩ : p = 0 ∧ q = 0 ∧ r = 0 := by omega
                    obtain ⟨g3, k3, rfl, -, -⟩ := ints_one (show IntsAt w3 _ v3 [1] from i3)
                    clear i3 d0 d1 d2 df
                    go_wp2_with fail
                    go_region
                    all_goals
                      go_wp2_with fail
                      refine (HLV.out _ (fr_drew1 _)).mono ?_
                      rintro e w4 ⟨v4, l, rfl, i4, hp4, hl4, f4⟩
                      have hl0 := (HS3.out.hi.live hp4 hl4).2 rfl
                      obtain rfl : l = [] := List.eq_nil_of_length_eq_zero hl0
                      obtain ⟨g4, k4, rfl⟩ := ints_nil i4
                      have HN := hide (HEND.out w4 ((fr_drew1 w3).trans f4))
                      clear i4 hp4 hl4 f4 hl0
                      go_wp2
                      exact HN.out
                  · have hdd : dead1 (p + q + r) = [] := if_pos (by omega)
                    rw [hdd] at i3
                    obtain ⟨g3, k3, rfl⟩ := ints_nil i3
                    have hz2 : (((p : Int) + q + r) == 0) = false := by rw [beq_eq_false_iff_ne]; omega
                    clear i3 d0 d1 d2 df hdd
                    go_wp2_with fail
                    go_region
                    all_goals
                      go_wp2_with fail
                      refine (HLV.out _ (fr_drew1 _)).mono ?_
                      rintro e w4 ⟨v4, l, rfl, i4, hp4, hl4, f4⟩
                      have hl0 : ¬ l.length = 0 := fun e => hz ((HS3.out.hi.live hp4 hl4).1 e)
                      have hl1 : ((l.length : Int) == 0) = false := by rw [beq_eq_false_iff_ne]; omega
                      obtain ⟨g4, k4, rfl, -⟩ := i4
                      have HN := hide (HEND.out w4 ((fr_drew1 w3).trans f4))
                      clear hp4 hl4 f4 hl0
                      go_wp2
                      exact HN.out
              · obtain rfl : kk = 2 := by omega
                cases r with
                | zero =>
                  have HN : Hid (R4 w t F lb len (.int .i64 ((n : Int) + 1)) wr.drew ∧ M4 len (.int .i64 ((n : Int) + 1)) wr.drew lb < M4 len (.int .i64 n) wr lb) := hide (by
                    have hms := meas_skip (len := len) (i := n) (x := p) (y := q) (z := 0) (by omega) (by omega)
                    refine ⟨⟨n + 1, s, NB, _, _, _, by simp, hp, hq, hr, hNB, by omega, hs⟩, ?_⟩
                    rw [HM4.out, show ((n : Int) + 1) = ((n + 1 : Nat) : Int) by omega, M4_eq hs]
                    exact hms)
                  clear hs hM hNB
                  go_wp2
                  exact HN.out
                | succ r =>
                  have hs1 := hs.set 2 (.int .i64 r) (set_left hs.lh r).2.2
                  have f2 := cf 2
                  have f2' := cf' 2
                  have hv1 : (((r + 1 : Nat)) : Int) - 1 = r := by omega
                  have hv2 : (((r + 1 : Nat) : Int) == 0) = false := by rw [beq_eq_false_iff_ne]; omega
                  have HS1 := hide hs1
                  have HCL := hide (drop_calls hs1.os (by omega) (id := 1) (by decide))
                  obtain ⟨q1, q2⟩ := hs.hi.drop
                  rw [q1] at HCL
                  have HQ := hide q2
                  have hL := meas_less (len := len) (i := n) (x := p) (y := q) (z := (r + 1)) (x' := p) (y' := q) (z' := r) (by omega)
                  have HL := hide hL
                  obtain ⟨d0, d1, d2, df⟩ := hs1.cells
                  skip
                  clear hs hs1 q1 q2 hL
                  go_wp2_with fail
                  refine HCL.out.mono ?_
                  rintro e w3 ⟨v3, rfl, i3, h3, f3⟩
                  have hs3 := HS1.out.step h3 f3 HQ.out
                  obtain ⟨e0, e1, e2, ef⟩ := hs3.cells
                  have HS3 := hide hs3
                  have HLV := hide (fun W (hf : Fr [] [] w3 W) => live_calls (hs3.os.fr hf) (by omega))
                  have HEND : Hid (∀ W, Fr [] [] w3 W → R4 w t F lb len (.int .i64 ((n : Int) + 1)) W ∧ M4 len (.int .i64 ((n : Int) + 1)) W lb < M4 len (.int .i64 n) wr lb) := hide fun W hf => by
                    have h5 := HS3.out.fr hf
                    refine ⟨⟨n + 1, _, _, p, q, r, by simp, by omega, by omega, by omega, by omega, by have := HL.out; omega, h5⟩, ?_⟩
                    rw [HM4.out, show ((n : Int) + 1) = ((n + 1 : Nat) : Int) by omega, M4_eq h5]
                    exact HL.out
                  clear h3 f3 hs3 hM hNB
                  by_cases hz : p + q + r = 0
                  · obtain ⟨rfl, rfl, rfl⟩ : p = 0 ∧ q = 0 ∧ r = 0 := by omega
                    obtain ⟨g3, k3, rfl, -, -⟩ := ints_one (show IntsAt w3 _ v3 [1] from i3)
                    clear i3 d0 d1 d2 df
                    go_wp2_with fail
                    go_region
                    all_goals
                      go_wp2_with fail
                      refine (HLV.out _ (fr_drew1 _)).mono ?_
                      rintro e w4 ⟨v4, l, rfl, i4, hp4, hl4, f4⟩
                      have hl0 := (HS3.out.hi.live hp4 hl4).2 rfl
                      obtain rfl : l = [] := List.eq_nil_of_length_eq_zero hl0
                      obtain ⟨g4, k4, rfl⟩ := ints_nil i4
                      have HN := hide (HEND.out w4 ((fr_drew1 w3).trans f4))
                      clear i4 hp4 hl4 f4 hl0
                      go_wp2
                      exact HN.out
                  · have hdd : dead1 (p + q + r) = [] := if_pos (by omega)
                    rw [hdd] at i3
                    obtain ⟨g3, k3, rfl⟩ := ints_nil i3
                    have hz2 : (((p : Int) + q + r) == 0) = false := by rw [beq_eq_false_iff_ne]; omega
                    clear i3 d0 d1 d2 df hdd
                    go_wp2_with fail
                    go_region
                    all_goals
                      go_wp2_with fail
                      refine (HLV.out _ (fr_drew1 _)).mono ?_
                      rintro e w4 ⟨v4, l, rfl, i4, hp4, hl4, f4⟩
                      have hl0 : ¬ l.length = 0 := fun e => hz ((HS3.out.hi.live hp4 hl4).1 e)
                      have hl1 : ((l.length : Int) == 0) = false := by rw [beq_eq_false_iff_ne]; omega
                      obtain ⟨g4, k4, rfl, -⟩ := i4
                      have HN := hide (HEND.out w4 ((fr_drew1 w3).trans f4))
                      clear hp4 hl4 f4 hl0
                      go_wp2
                      exact HN.out
theorem oheld_row {n0 n1 n2 : Int} {a : Option Addr} {len cap : Nat} {zs : List Int} {w : World} (h : RowI .i64 w a len cap zs) (hy : len * 8 ≤ 140737488351232) :
    Calls Try.prog 5 #[.agg #[.int .i64 n0, .int .i64 n1, .int .i64 n2], .slice a len cap] w fun e w' => e = .returned (.bool true) ∧ Below w.heap.size w w' :=
  oheld_calls n0 n1 n2 a len cap w (ord_row h) (by omega)
end Go.Proofs.Ytfdkemkfiddmjaa
