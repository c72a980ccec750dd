/- The reference's guess: the first pair of registers that fits, if there is one; condition: the text has no more than twelve bytes. -/
import Derived.Test.YtpahjllcomejbaaHit
import Derived.Test.YtpahjllcomejbaaDec0
set_option linter.unusedVariables false
set_option linter.unusedSimpArgs false
namespace Go.Proofs.Ytpahjllcomejbaa
open Go.RowKit Go.MapKept
open Go.Proofs.YtpahjllcomejbaaW.PrintWords Go.Proofs.YtpahjllcomejbaaW.PrintLast Go.Proofs.YtpahjllcomejbaaW.PrintMore

section
variable {P : Program}
theorem results_ct {fn : Func} {p u : Tmp} {ty : TypeId} (h : fn.results = #[.cell p ty, .tmp u]) (tmps : Array Value) (w : World) (g : Nat) (t : TypeId) (cs : Array Value) (fr : Nat × Nat) (d : TypeDesc)
    (hp : tmps.getD p undef = .pointer (some ⟨g, 0, none⟩)) (hg : w.heap[g]? = some (.cells cs t fr))
    (hu : P.underlying ty = some d) (hd : (match d with | .struct _ | .array _ _ => true | _ => false) = true) (hi : (P.info? ty).map (·.size) = some cs.size) :
    (results fn tmps).run P w = .ok (.tuple #[.agg cs, tmps.getD u undef]) w := by
  have hp' : tmps[p]?.getD undef = .pointer (some ⟨g, 0, none⟩) := by simpa using hp
  simp [results, h, hp', asAddr, run_loadVar_row w g t ty cs fr d hg hu hd hi]
end
def pairO (a b : Int) : Obj := .cells #[.int .i64 a, .int .i64 b] 57 (0, 0)
structure Gh (w W : World) (k0 k1 d r : Int) : Prop where
  k : W.heap[w.heap.size]? = some (pairO k0 k1)
  z : W.heap[w.heap.size + 1]? = some (boxed 0 0 0 0 0 0)
  x : W.heap[w.heap.size + 2]? = some (boxed k0 d r k1 0 0)
  f : Fr [] [] w W
theorem Gh.start (w : World) (k0 k1 : Int) : Gh w (((w.alloc (pairO k0 k1)).alloc (boxed 0 0 0 0 0 0)).alloc (boxed k0 0 0 k1 0 0)) k0 k1 0 0 where
  k := heap_alloc_some (heap_alloc_some (heap_alloc_new w _))
  z := by have := heap_alloc_new (w.alloc (pairO k0 k1)) (boxed 0 0 0 0 0 0); simp only [World.size_alloc] at this; exact heap_alloc_some this
  x := by have := heap_alloc_new ((w.alloc (pairO k0 k1)).alloc (boxed 0 0 0 0 0 0)) (boxed k0 0 0 k1 0 0); simp only [World.size_alloc] at this; exact this
  f := (((Fr.refl [] w).alloc' _).alloc' _).alloc' _
theorem Gh.more {w W W' : World} {k0 k1 d r : Int} (h : Gh w W k0 k1 d r) (h2 : Fr [] [] W W') : Gh w W' k0 k1 d r where
  k := h2.keep h.k (by simp)
  z := h2.keep h.z (by simp)
  x := h2.keep h.x (by simp)
  f := h.f.trans h2
theorem Gh.put {w W : World} {k0 k1 d r : Int} (h : Gh w W k0 k1 d r) (d' r' : Int) : Gh w ((W.setCell ⟨w.heap.size + 2, 1, none⟩ (.int .i64 d')).setCell ⟨w.heap.size + 2, 2, none⟩ (.int .i64 r')) k0 k1 d' r' where
  k := heap_setCell_some (a := ⟨_, _, none⟩) (by simp) (heap_setCell_some (a := ⟨_, _, none⟩) (by simp) h.k)
  z := heap_setCell_some (a := ⟨_, _, none⟩) (by simp) (heap_setCell_some (a := ⟨_, _, none⟩) (by simp) h.z)
  x := by have hz := h.x; unfold boxed at hz; exact heap_setCell_same (heap_setCell_same hz)
  f := (h.f.setCell' (a := ⟨_, _, none⟩) (.inr (by simp)) _).setCell' (a := ⟨_, _, none⟩) (.inr (by simp)) _
theorem Gh.cells {w W : World} {k0 k1 d r : Int} (h : Gh w W k0 k1 d r) :
    (W.cell? ⟨w.heap.size, 0, none⟩ = some (.int .i64 k0) ∧ W.cell? ⟨w.heap.size, 1, none⟩ = some (.int .i64 k1)) ∧ BoxAt W (w.heap.size + 2) k0 d r k1 0 0 ∧ (∀ i, W.frozen? ⟨w.heap.size + 2, i, none⟩ = false) ∧ BoxAt W (w.heap.size + 1) 0 0 0 0 0 0 ∧ (∀ i, W.frozen? ⟨w.heap.size + 1, i, none⟩ = false) :=
  ⟨⟨by have := h.k; unfold pairO at this; exact cell_at this 0, by have := h.k; unfold pairO at this; exact cell_at this 1⟩, box_at h.x, fun i => by have := h.x; unfold boxed at this; exact frozen_at this i, box_at h.z, fun i => by have := h.z; unfold boxed at this; exact frozen_at this i⟩
theorem Gh.putz {w W : World} {k0 k1 d r : Int} (h : Gh w W k0 k1 d r) (x0 x1 x2 x3 x4 x5 : Int) : (put6 W (w.heap.size + 1) x0 x1 x2 x3 x4 x5).heap[w.heap.size + 1]? = some (boxed x0 x1 x2 x3 x4 x5) ∧ Below w.heap.size w (put6 W (w.heap.size + 1) x0 x1 x2 x3 x4 x5) := by
  constructor
  · have hz := h.z
    unfold boxed at hz
    exact heap_setCell_same (heap_setCell_same (heap_setCell_same (heap_setCell_same (heap_setCell_same (heap_setCell_same hz)))))
  · exact ((((((h.f.setCell' (a := ⟨_, _, none⟩) (.inr (by simp)) _).setCell' (a := ⟨_, _, none⟩) (.inr (by simp)) _).setCell' (a := ⟨_, _, none⟩) (.inr (by simp)) _).setCell' (a := ⟨_, _, none⟩) (.inr (by simp)) _).setCell' (a := ⟨_, _, none⟩) (.inr (by simp)) _).setCell' (a := ⟨_, _, none⟩) (.inr (by simp)) _).below (Nat.le_refl _) (by simp)
/-- What a try leaves, and the thing that is tried in a block b of its own. -/
structure Gy (w W : World) (k0 k1 d r : Int) (b : Nat) (y : Obj) : Prop where
  g : Gh w W k0 k1 d r
  y : W.heap[b]? = some y
  b : w.heap.size + 3 ≤ b
theorem Gy.new {w W : World} {k0 k1 d r : Int} (h : Gh w W k0 k1 d r) (y : Obj) : Gy w (W.alloc y) k0 k1 d r W.heap.size y where
  g := h.more ((Fr.refl [] W).alloc' _)
  y := heap_alloc_new W y
  b := by have := lt_of_heap h.x; omega
theorem Gy.more {w W W' : World} {k0 k1 d r : Int} {b : Nat} {y : Obj} (h : Gy w W k0 k1 d r b y) (h2 : Fr [] [] W W') : Gy w W' k0 k1 d r b y where
  g := h.g.more h2
  y := h2.keep h.y (by simp)
  b := h.b
theorem Gy.put {w W : World} {k0 k1 d r : Int} {b : Nat} {y0 y1 y2 y3 y4 y5 : Int} (h : Gy w W k0 k1 d r b (boxed y0 y1 y2 y3 y4 y5)) : (∀ v, Gy w (W.setCell ⟨b, 4, none⟩ (.int .i64 v)) k0 k1 d r b (boxed y0 y1 y2 y3 v y5)) ∧ (∀ v, Gy w (W.setCell ⟨b, 5, none⟩ (.int .u64 v)) k0 k1 d r b (boxed y0 y1 y2 y3 y4 v)) := by
  have hb := h.b
  have hg : ∀ i v, Gh w (W.setCell ⟨b, i, none⟩ v) k0 k1 d r := fun i v =>
    ⟨heap_setCell_some (a := ⟨_, _, none⟩) (by simp; omega) h.g.k, heap_setCell_some (a := ⟨_, _, none⟩) (by simp; omega) h.g.z, heap_setCell_some (a := ⟨_, _, none⟩) (by simp; omega) h.g.x, h.g.f.setCell' (a := ⟨_, _, none⟩) (.inr (by simp; omega)) _⟩
  have hz := h.y
  unfold boxed at hz
  exact ⟨fun v => ⟨hg _ _, heap_setCell_same hz, hb⟩, fun v => ⟨hg _ _, heap_setCell_same hz, hb⟩⟩
theorem Gy.cells {w W : World} {k0 k1 d r : Int} {b : Nat} {y0 y1 y2 y3 y4 y5 : Int} (h : Gy w W k0 k1 d r b (boxed y0 y1 y2 y3 y4 y5)) : BoxAt W b y0 y1 y2 y3 y4 y5 ∧ (∀ i, W.frozen? ⟨b, i, none⟩ = false) :=
  ⟨box_at h.y, fun i => by have := h.y; unfold boxed at this; exact frozen_at this i⟩
theorem Gy.zs {w W : World} {k0 k1 d r : Int} {b : Nat} {y : Obj} (h : Gy w W k0 k1 d r b y) : BoxAt W (w.heap.size + 1) 0 0 0 0 0 0 ∧ (∀ i, W.frozen? ⟨w.heap.size + 1, i, none⟩ = false) := h.g.cells.2.2.2
def GIn (w : World) (k0 k1 : Int) (sb : List Int) (d : Int) (v : Value) (wr : World) : Prop := ∃ r : Nat, r ≤ 16 ∧ v = .int .i64 r ∧ (∃ a b, Gh w wr k0 k1 a b) ∧ ∀ q : Nat, q < r → hit k0 k1 sb d q = none
def GOut (w : World) (k0 k1 : Int) (sb : List Int) (v : Value) (wr : World) : Prop := ∃ d : Nat, d ≤ 16 ∧ v = .int .i64 d ∧ (∃ a b, Gh w wr k0 k1 a b) ∧ ∀ p q : Nat, p < d → q < 16 → hit k0 k1 sb p q = none
theorem GOut.full {w wr : World} {k0 k1 a b : Int} {sb : List Int} {d : Nat} (hd : d < 16) (h1 : ∀ p q : Nat, p < d → q < 16 → hit k0 k1 sb p q = none) (h2 : ∀ q : Nat, q < 16 → hit k0 k1 sb d q = none) (hg : Gh w wr k0 k1 a b) : GOut w k0 k1 sb (.int .i64 ((d : Int) + 1)) wr :=
  ⟨d + 1, by omega, by simp, ⟨_, _, hg⟩, fun p q hp hq => by
    by_cases c : p < d
    · exact h1 p q c hq
    · obtain rfl : p = d := by omega
      exact h2 q hq⟩
theorem GOut.next {w wr : World} {k0 k1 a b : Int} {sb : List Int} {d r : Nat} (hd : d < 16) (h1 : ∀ p q : Nat, p < d → q < 16 → hit k0 k1 sb p q = none) (h2 : ∀ q : Nat, q < r → hit k0 k1 sb d q = none) (h3 : hit k0 k1 sb d r = none) (h4 : (bareS k0 d r k1 0 0).2.2.1 ≠ r) (hg : Gh w wr k0 k1 a b) : GOut w k0 k1 sb (.int .i64 ((d : Int) + 1)) wr :=
  GOut.full hd h1 (fun q hq => by rw [hit_drop k0 k1 sb d r q h4]; exact h3) hg
def GuessPost (w : World) (k0 k1 : Int) (sb : List Int) (e : Ending) (W : World) : Prop :=
  ∃ (y : X6) (ok : Bool), e = .returned (.tuple #[.agg #[.int .i64 y.1, .int .i64 y.2.1, .int .i64 y.2.2.1, .int .i64 y.2.2.2.1, .int .i64 y.2.2.2.2.1, .int .u64 y.2.2.2.2.2], .bool ok]) ∧ Below w.heap.size w W ∧
    (ok = true → ∃ d r : Nat, d < 16 ∧ r < 16 ∧ hit k0 k1 sb d r = some y) ∧ (ok = false → ∀ d r : Nat, d < 16 → r < 16 → hit k0 k1 sb d r = none)
set_option maxRecDepth 100000 in
set_option maxHeartbeats 4000000 in
theorem guess_calls (k0 k1 : Int) (sb : List Int) (hl : ByteL sb) (h12 : sb.length ≤ 12) (S : ByteArray) (hS : S = strOfNums sb) (w : World) : Calls Try.prog 19 #[.agg #[.int .i64 k0, .int .i64 k1], .string S] w (GuessPost w k0 k1 sb) := by
  have hu3 := Try.underlying32
  have HG0 := hide (Gh.start w k0 k1)
  have HL := hide hl
  have H12 := hide h12
  have HSS := hide hS
  clear hl h12 hS
  unfold pairO boxed at HG0
  go_enter Try.func19, Try.ntmps19
  go_wp2_with fail
  go_loopw [7] (fun v wr => GOut w k0 k1 sb v wr) (fun v _ => 16 - (intOf v).toNat)
  case atStart => exact ⟨0, by omega, rfl, ⟨0, 0, HG0.out⟩, fun p q hp => by omega⟩
  case round =>
    obtain ⟨d, hd, rfl, ⟨a0, b0, hg⟩, hno⟩ := hrel
    have HNO := hide hno
    clear hno HG0
    by_cases hlt : d < 16
    · have HGI := hide hg
      clear hg
      have hd0 : 0 ≤ (d : Int) := by omega
      have hd1 : (d : Int) < 16 := by omega
      go_wp2_with fail
      go_loopw [8] (fun v wr => GIn w k0 k1 sb d v wr) (fun v _ => 16 - (intOf v).toNat)
      case atStart => exact ⟨0, by omega, rfl, ⟨_, _, HGI.out⟩, fun q hq => by omega⟩
      case round =>
        obtain ⟨r, hr, rfl, ⟨a1, b1, hgh⟩, hnr⟩ := hrel
        have HNR := hide hnr
        clear hnr HGI
        by_cases hlr : r < 16
        · have hr0 : 0 ≤ (r : Int) := by omega
          have hr1 : (r : Int) < 16 := by omega
          have HGP := hide (hgh.put d r)
          have HGH := hide hgh
          obtain ⟨⟨kc0, kc1⟩, ⟨x0, x1, x2, x3, x4, x5⟩, fx, _, _⟩ := hgh.cells
          have fx1 := fx 1
          have fx2 := fx 2
          clear fx hgh
          have HB := hide (rbare_calls k0 d r k1 0 0)
          have HKI := hide (bare_kind k0 d r k1 0 0)
          have HOW := hide (own_bare k0 d r k1 0 0)
          have HHIT : Hid (hit k0 k1 sb d r = hit k0 k1 sb d r) := hide rfl
          have HZI : Hid ((bareS k0 d r k1 0 0).2.2.2.2.1 = 0 ∧ (bareS k0 d r k1 0 0).2.2.2.2.2 = 0) := hide (by unfold bareS; (repeat' split) <;> exact ⟨rfl, rfl⟩)
          generalize hy : bareS k0 d r k1 0 0 = y at HB HKI HOW HZI
          have HY := hide hy
          clear hy
          obtain ⟨y0, y1, y2, y3, y4, y5⟩ := y
          obtain ⟨rfl, rfl⟩ := HZI.out
          clear HZI
          go_wp2_with fail
          refine (HB.out _).mono ?_
          rintro e W2 ⟨rfl, f2⟩
          have HY3 := hide (Gy.new (HGP.out.more f2) (boxed y0 y1 y2 y3 0 0))
          clear f2
          obtain ⟨⟨q0, q1, q2, q3, q4, q5⟩, _⟩ := HY3.out.cells
          unfold boxed at HY3
          have HLAY := hide (rlay_calls y0 y1 y2 y3 0 0 (W2.alloc (boxed y0 y1 y2 y3 0 0)) HOW.out (by decide) (by omega))
          unfold boxed at HLAY
          go_wp2_with fail
          refine HLAY.out.mono ?_
          rintro e W4 ⟨rfl, f4⟩
          have HY4 := hide (HY3.out.more f4)
          clear f4 HY3 q0 q1 q2 q3 q4 q5 x0 x1 x2 x3 x4 x5 kc0 kc1 fx1 fx2 HGP HGH HLAY HB
          have HTB : Hid (okX (y0, y1, y2, y3, 0, 0) = okB y0 y1 y2 y3 0 0) := hide rfl
          generalize hT : strOfNums (okB y0 y1 y2 y3 0 0) = T
          have hTs : T.size = (okX (y0, y1, y2, y3, 0, 0)).length := by rw [← hT, strOfNums_size]; rfl
          have hSs : S.size = sb.length := by rw [HSS.out, strOfNums_size]
          have HTT := hide hT
          have HTs := hide hTs
          have HSs := hide hSs
          have HHIT : Hid (hit k0 k1 sb d r = if okX (y0, y1, y2, y3, 0, 0) = [] ∨ sb.length < (okX (y0, y1, y2, y3, 0, 0)).length then none else if okX (fillS (y0, y1, y2, y3, 0, 0) (sb.take (okX (y0, y1, y2, y3, 0, 0)).length)) = sb.take (okX (y0, y1, y2, y3, 0, 0)).length then some (fillS (y0, y1, y2, y3, 0, 0) (sb.take (okX (y0, y1, y2, y3, 0, 0)).length)) else none) := hide (by unfold hit; rw [HY.out])
          clear hT hTs hSs
          have hs12 : S.size ≤ 12 := by rw [HSs.out]; exact H12.out
          have HNEXT : Hid (∀ W, Gh w W k0 k1 d r → hit k0 k1 sb d r = none → GIn w k0 k1 sb d (.int .i64 ((r : Int) + 1)) W) := hide fun W hg hh => ⟨r + 1, by omega, by simp, ⟨_, _, hg⟩, fun q hq => by
            by_cases c : q < r
            · exact HNR.out q c
            · obtain rfl : q = r := by omega
              exact hh⟩
          by_cases t0 : okX (y0, y1, y2, y3, 0, 0) = []
          · have ht0 : (T.toList == (⟨#[]⟩ : ByteArray).toList) = true := by
              rw [← HTT.out, ← HTB.out, t0, show strOfNums [] = (⟨#[]⟩ : ByteArray) from rfl]; exact beq_self_eq_true _
            have hte : T.toList = [] := by simpa using ht0
            have hti : T.toList.isEmpty = true := by rw [hte]; rfl
            have hnone : hit k0 k1 sb d r = none := by rw [HHIT.out, if_pos (.inl t0)]
            have HN := hide (HNEXT.out _ HY4.out.g hnone)
            clear hnone t0
            go_wp2
            exact ⟨HN.out, by show 16 - ((r : Int) + 1).toNat < 16 - ((r : Int)).toNat; omega⟩
          have ht0 : (T.toList == (⟨#[]⟩ : ByteArray).toList) = false := by
            rw [beq_eq_false_iff_ne]
            intro e
            have e2 := congrArg List.length e
            rw [ByteArray.toList_eq, ByteArray.toList_eq] at e2
            have : T.size = 0 := by rw [show T.size = T.data.toList.length from rfl, e2]; rfl
            rw [HTs.out] at this
            exact t0 (List.eq_nil_of_length_eq_zero this)
          have hte : ¬ T.toList = [] := fun e => by rw [e] at ht0; simp at ht0
          have hti : T.toList.isEmpty = false := by cases hq : T.toList with
            | nil => exact absurd hq hte
            | cons a l => rfl
          by_cases t1 : S.size < T.size
          · have ht1 : (S.size : Int) < T.size := by omega
            have hnone : hit k0 k1 sb d r = none := by rw [HHIT.out, if_pos (.inr (by have := HTs.out; have := HSs.out; omega))]
            have HN := hide (HNEXT.out _ HY4.out.g hnone)
            clear hnone t0
            go_wp2
            exact ⟨HN.out, by show 16 - ((r : Int) + 1).toNat < 16 - ((r : Int)).toNat; omega⟩
          have ht1 : (T.size : Int) ≤ S.size := by omega
          have HTAKE : Hid (S.extract 0 T.size = strOfNums (sb.take (okX (y0, y1, y2, y3, 0, 0)).length)) := hide (by
            rw [HSS.out, HTs.out]
            apply ByteArray.ext
            simp only [strOfNums, ByteArray.data_extract]
            apply Array.ext'
            simp [strOfNums, List.extract_eq_take_drop, List.map_take])
          have HHIT2 : Hid (hit k0 k1 sb d r = if okX (fillS (y0, y1, y2, y3, 0, 0) (sb.take (okX (y0, y1, y2, y3, 0, 0)).length)) = sb.take (okX (y0, y1, y2, y3, 0, 0)).length then some (fillS (y0, y1, y2, y3, 0, 0) (sb.take (okX (y0, y1, y2, y3, 0, 0)).length)) else none) := hide (by
            rw [HHIT.out, if_neg]
            rintro (h | h)
            · exact t0 h
            · have := HTs.out; have := HSs.out; omega)
          have HBL : Hid (ByteL (sb.take (okX (y0, y1, y2, y3, 0, 0)).length)) := hide fun b hb => HL.out b (List.mem_of_mem_take hb)
          have HLL : Hid ((sb.take (okX (y0, y1, y2, y3, 0, 0)).length).length ≤ 1000) := hide (by have := H12.out; rw [List.length_take]; omega)
          clear HHIT t0
          generalize sb.take (okX (y0, y1, y2, y3, 0, 0)).length = tb at HTAKE HHIT2 HBL HLL
          have HTAIL := hide (fun (n : Nat) (hn : n ≤ 8) W => rtail_calls tb HBL.out n hn HLL.out (S.extract 0 T.size) HTAKE.out n rfl W)
          have HRL : Hid (∀ i wd W, BareX y0 y1 y2 y3 i wd → fits32 i = true → 0 ≤ wd ∧ wd < 18446744073709551616 → Calls Try.prog 20 #[.agg #[.int .i64 y0, .int .i64 y1, .int .i64 y2, .int .i64 y3, .int .i64 i, .int .u64 wd]] W (FromPost W (.string (strOfNums (okX (y0, y1, y2, y3, i, wd)))))) := hide fun i wd W a b c => rlay_calls _ _ _ _ _ _ W a b c
          generalize hX : S.extract 0 T.size = X at *
          by_cases ck : k0 = 2
          · skip
            subst ck
            obtain ⟨⟨kd0, kd1⟩, _, _, _, _⟩ := HY4.out.g.cells
            go_wp2_with fail
            refine (HTAIL.out 8 (by omega) _).mono ?_
            rintro e W5 ⟨rfl, f5⟩
            have HY5 := hide (HY4.out.more f5)
            obtain ⟨⟨h0, h1, h2, h3, h4, h5⟩, hfz⟩ := HY5.out.cells
            have hfz4 := hfz 4
            have hfz5 := hfz 5
            clear f5 hfz
            go_wp2_with fail
            have HY6 := hide (HY5.out.put.2 (tailV tb 8))
            clear h0 h1 h2 h3 h4 h5 hfz4 hfz5 HY5
            have hfill : fillS (y0, y1, y2, y3, 0, 0) tb = (y0, y1, y2, y3, 0, (tailV tb 8)) := by unfold fillS; rw [if_pos (show y0 = 2 from HKI.out)]
            generalize hWW : W5.setCell _ _ = W6 at HY6 ⊢
            clear hWW
            have hof := own_fill (y0, y1, y2, y3, 0, 0) tb HOW.out
            rw [hfill] at hof
            have HF := hide (fun W => HRL.out 0 (tailV tb 8) W hof (rfl) (tailV_range tb HBL.out 8 (by omega)))
            have HHIT3 := HHIT2.out
            rw [hfill] at HHIT3
            have HHIT4 := hide HHIT3
            clear hof hfill HHIT2 HHIT3 HRL
            obtain ⟨⟨g0, g1, g2, g3, g4, g5⟩, _⟩ := HY6.out.cells
            generalize hv : (tailV tb 8) = vv at *
            clear hv
            have HXT : Hid (X = strOfNums tb) := HTAKE
            by_cases ceq : okX (y0, y1, y2, y3, 0, vv) = tb
            · have hcmp : ((strOfNums (okX (y0, y1, y2, y3, 0, vv))).toList == X.toList) = true := by
                rw [ceq, HXT.out]; exact beq_self_eq_true _
              rw [if_pos ceq] at HHIT4
              clear ceq
              generalize strOfNums (okX (y0, y1, y2, y3, 0, vv)) = T7 at *
              go_region_with (go_at_call 20; refine (HF.out _).mono ?_; rintro e W7 ⟨rfl, f7⟩; have HY7 : Hid (Gy w W7 _ _ _ _ _ _) := hide (by first | exact HY6.out.more f7 | exact HY6.out.more (((Fr.refl [] W6).drewN' _).trans f7) | exact HY6.out.more (((Fr.refl [] W6).drew').trans f7)); have ⟨⟨e0, e1, e2, e3, e4, e5⟩, _⟩ := HY7.out.cells; have ⟨⟨z0, z1, z2, z3, z4, z5⟩, fz⟩ := HY7.out.zs; have fz0 := fz 0; have fz1 := fz 1; have fz2 := fz 2; have fz3 := fz 3; have fz4 := fz 4; have fz5 := fz 5; clear f7 fz)
              all_goals
                go_wp2_with fail
                have HP := hide (HY7.out.g.putz y0 y1 y2 y3 0 vv)
                unfold put6 boxed at HP
                have HH := hide (fun (h : true = true) => (⟨d, r, by omega, by omega, HHIT4.out⟩ : ∃ d r : Nat, d < 16 ∧ r < 16 ∧ hit _ _ sb d r = some (y0, y1, y2, y3, 0, vv)))
                exact bodyPost_ret (results_ct rfl _ _ (w.heap.size + 1) 32 _ (0, 0) _ rfl HP.out.1 hu3 rfl rfl) rfl ⟨(y0, y1, y2, y3, 0, vv), true, rfl, HP.out.2, HH.out, fun h => by cases h⟩
            · have hcmp : ((strOfNums (okX (y0, y1, y2, y3, 0, vv))).toList == X.toList) = false := by
                rw [beq_eq_false_iff_ne, HXT.out]
                intro e
                exact ceq (str_inj _ _ (okX_bytes _) HBL.out (toList_inj e))
              rw [if_neg ceq] at HHIT4
              clear ceq
              generalize strOfNums (okX (y0, y1, y2, y3, 0, vv)) = T7 at *
              go_region_with (go_at_call 20; refine (HF.out _).mono ?_; rintro e W7 ⟨rfl, f7⟩; have HY7 : Hid (Gy w W7 _ _ _ _ _ _) := hide (by first | exact HY6.out.more f7 | exact HY6.out.more (((Fr.refl [] W6).drewN' _).trans f7) | exact HY6.out.more (((Fr.refl [] W6).drew').trans f7)); have ⟨⟨e0, e1, e2, e3, e4, e5⟩, _⟩ := HY7.out.cells; have ⟨⟨z0, z1, z2, z3, z4, z5⟩, fz⟩ := HY7.out.zs; have fz0 := fz 0; have fz1 := fz 1; have fz2 := fz 2; have fz3 := fz 3; have fz4 := fz 4; have fz5 := fz 5; clear f7 fz)
              all_goals
                by_cases cs : y2 = (r : Int)
                · have cs1 : (y2 != (r : Int)) = false := by rw [cs]; simp
                  have HN := hide (HNEXT.out _ HY7.out.g HHIT4.out)
                  go_wp2
                  exact ⟨HN.out, by show 16 - ((r : Int) + 1).toNat < 16 - ((r : Int)).toNat; omega⟩
                · have cs1 : (y2 != (r : Int)) = true := by simpa using cs
                  have HB := hide (GOut.next hlt HNO.out HNR.out HHIT4.out (by rw [HY.out]; exact cs) HY7.out.g)
                  go_wp2
                  exact ⟨HB.out, by show 16 - ((d : Int) + 1).toNat < 16 - ((d : Int)).toNat; omega⟩
          by_cases ck2 : k0 = 21
          · skip
            obtain ⟨⟨kd0, kd1⟩, _, _, _, _⟩ := HY4.out.g.cells
            subst ck2
            go_wp2_with fail
            refine (HTAIL.out 4 (by omega) _).mono ?_
            rintro e W5 ⟨rfl, f5⟩
            have HY5 := hide (HY4.out.more f5)
            obtain ⟨⟨h0, h1, h2, h3, h4, h5⟩, hfz⟩ := HY5.out.cells
            have hfz4 := hfz 4
            have hfz5 := hfz 5
            clear f5 hfz
            go_wp2_with fail
            have HY6 := hide (HY5.out.put.1 (wrap64 (wrap32 (tailV tb 4))))
            clear h0 h1 h2 h3 h4 h5 hfz4 hfz5 HY5
            have hfill : fillS (y0, y1, y2, y3, 0, 0) tb = (y0, y1, y2, y3, (wrap64 (wrap32 (tailV tb 4))), 0) := by unfold fillS; rw [if_neg (show ¬ y0 = 2 by rw [HKI.out]; decide), if_pos (show immK y0 by rw [HKI.out]; decide)]
            generalize hWW : W5.setCell _ _ = W6 at HY6 ⊢
            clear hWW
            have hof := own_fill (y0, y1, y2, y3, 0, 0) tb HOW.out
            rw [hfill] at hof
            have HF := hide (fun W => HRL.out (wrap64 (wrap32 (tailV tb 4))) 0 W hof (fits32_of _) (by omega))
            have HHIT3 := HHIT2.out
            rw [hfill] at HHIT3
            have HHIT4 := hide HHIT3
            clear hof hfill HHIT2 HHIT3 HRL
            obtain ⟨⟨g0, g1, g2, g3, g4, g5⟩, _⟩ := HY6.out.cells
            generalize hv : (wrap64 (wrap32 (tailV tb 4))) = vv at *
            clear hv
            have HXT : Hid (X = strOfNums tb) := HTAKE
            by_cases ceq : okX (y0, y1, y2, y3, vv, 0) = tb
            · have hcmp : ((strOfNums (okX (y0, y1, y2, y3, vv, 0))).toList == X.toList) = true := by
                rw [ceq, HXT.out]; exact beq_self_eq_true _
              rw [if_pos ceq] at HHIT4
              clear ceq
              generalize strOfNums (okX (y0, y1, y2, y3, vv, 0)) = T7 at *
              go_region_with (go_at_call 20; refine (HF.out _).mono ?_; rintro e W7 ⟨rfl, f7⟩; have HY7 : Hid (Gy w W7 _ _ _ _ _ _) := hide (by first | exact HY6.out.more f7 | exact HY6.out.more (((Fr.refl [] W6).drewN' _).trans f7) | exact HY6.out.more (((Fr.refl [] W6).drew').trans f7)); have ⟨⟨e0, e1, e2, e3, e4, e5⟩, _⟩ := HY7.out.cells; have ⟨⟨z0, z1, z2, z3, z4, z5⟩, fz⟩ := HY7.out.zs; have fz0 := fz 0; have fz1 := fz 1; have fz2 := fz 2; have fz3 := fz 3; have fz4 := fz 4; have fz5 := fz 5; clear f7 fz)
              all_goals
                go_wp2_with fail
                have HP := hide (HY7.out.g.putz y0 y1 y2 y3 vv 0)
                unfold put6 boxed at HP
                have HH := hide (fun (h : true = true) => (⟨d, r, by omega, by omega, HHIT4.out⟩ : ∃ d r : Nat, d < 16 ∧ r < 16 ∧ hit _ _ sb d r = some (y0, y1, y2, y3, vv, 0)))
                exact bodyPost_ret (results_ct rfl _ _ (w.heap.size + 1) 32 _ (0, 0) _ rfl HP.out.1 hu3 rfl rfl) rfl ⟨(y0, y1, y2, y3, vv, 0), true, rfl, HP.out.2, HH.out, fun h => by cases h⟩
            · have hcmp : ((strOfNums (okX (y0, y1, y2, y3, vv, 0))).toList == X.toList) = false := by
                rw [beq_eq_false_iff_ne, HXT.out]
                intro e
                exact ceq (str_inj _ _ (okX_bytes _) HBL.out (toList_inj e))
              rw [if_neg ceq] at HHIT4
              clear ceq
              generalize strOfNums (okX (y0, y1, y2, y3, vv, 0)) = T7 at *
              go_region_with (go_at_call 20; refine (HF.out _).mono ?_; rintro e W7 ⟨rfl, f7⟩; have HY7 : Hid (Gy w W7 _ _ _ _ _ _) := hide (by first | exact HY6.out.more f7 | exact HY6.out.more (((Fr.refl [] W6).drewN' _).trans f7) | exact HY6.out.more (((Fr.refl [] W6).drew').trans f7)); have ⟨⟨e0, e1, e2, e3, e4, e5⟩, _⟩ := HY7.out.cells; have ⟨⟨z0, z1, z2, z3, z4, z5⟩, fz⟩ := HY7.out.zs; have fz0 := fz 0; have fz1 := fz 1; have fz2 := fz 2; have fz3 := fz 3; have fz4 := fz 4; have fz5 := fz 5; clear f7 fz)
              all_goals
                by_cases cs : y2 = (r : Int)
                · have cs1 : (y2 != (r : Int)) = false := by rw [cs]; simp
                  have HN := hide (HNEXT.out _ HY7.out.g HHIT4.out)
                  go_wp2
                  exact ⟨HN.out, by show 16 - ((r : Int) + 1).toNat < 16 - ((r : Int)).toNat; omega⟩
                · have cs1 : (y2 != (r : Int)) = true := by simpa using cs
                  have HB := hide (GOut.next hlt HNO.out HNR.out HHIT4.out (by rw [HY.out]; exact cs) HY7.out.g)
                  go_wp2
                  exact ⟨HB.out, by show 16 - ((d : Int) + 1).toNat < 16 - ((d : Int)).toNat; omega⟩
          by_cases ck3 : k0 = 22
          · skip
            obtain ⟨⟨kd0, kd1⟩, _, _, _, _⟩ := HY4.out.g.cells
            subst ck3
            go_wp2_with fail
            refine (HTAIL.out 4 (by omega) _).mono ?_
            rintro e W5 ⟨rfl, f5⟩
            have HY5 := hide (HY4.out.more f5)
            obtain ⟨⟨h0, h1, h2, h3, h4, h5⟩, hfz⟩ := HY5.out.cells
            have hfz4 := hfz 4
            have hfz5 := hfz 5
            clear f5 hfz
            go_wp2_with fail
            have HY6 := hide (HY5.out.put.1 (wrap64 (wrap32 (tailV tb 4))))
            clear h0 h1 h2 h3 h4 h5 hfz4 hfz5 HY5
            have hfill : fillS (y0, y1, y2, y3, 0, 0) tb = (y0, y1, y2, y3, (wrap64 (wrap32 (tailV tb 4))), 0) := by unfold fillS; rw [if_neg (show ¬ y0 = 2 by rw [HKI.out]; decide), if_pos (show immK y0 by rw [HKI.out]; decide)]
            generalize hWW : W5.setCell _ _ = W6 at HY6 ⊢
            clear hWW
            have hof := own_fill (y0, y1, y2, y3, 0, 0) tb HOW.out
            rw [hfill] at hof
            have HF := hide (fun W => HRL.out (wrap64 (wrap32 (tailV tb 4))) 0 W hof (fits32_of _) (by omega))
            have HHIT3 := HHIT2.out
            rw [hfill] at HHIT3
            have HHIT4 := hide HHIT3
            clear hof hfill HHIT2 HHIT3 HRL
            obtain ⟨⟨g0, g1, g2, g3, g4, g5⟩, _⟩ := HY6.out.cells
            generalize hv : (wrap64 (wrap32 (tailV tb 4))) = vv at *
            clear hv
            have HXT : Hid (X = strOfNums tb) := HTAKE
            by_cases ceq : okX (y0, y1, y2, y3, vv, 0) = tb
            · have hcmp : ((strOfNums (okX (y0, y1, y2, y3, vv, 0))).toList == X.toList) = true := by
                rw [ceq, HXT.out]; exact beq_self_eq_true _
              rw [if_pos ceq] at HHIT4
              clear ceq
              generalize strOfNums (okX (y0, y1, y2, y3, vv, 0)) = T7 at *
              go_region_with (go_at_call 20; refine (HF.out _).mono ?_; rintro e W7 ⟨rfl, f7⟩; have HY7 : Hid (Gy w W7 _ _ _ _ _ _) := hide (by first | exact HY6.out.more f7 | exact HY6.out.more (((Fr.refl [] W6).drewN' _).trans f7) | exact HY6.out.more (((Fr.refl [] W6).drew').trans f7)); have ⟨⟨e0, e1, e2, e3, e4, e5⟩, _⟩ := HY7.out.cells; have ⟨⟨z0, z1, z2, z3, z4, z5⟩, fz⟩ := HY7.out.zs; have fz0 := fz 0; have fz1 := fz 1; have fz2 := fz 2; have fz3 := fz 3; have fz4 := fz 4; have fz5 := fz 5; clear f7 fz)
              all_goals
                go_wp2_with fail
                have HP := hide (HY7.out.g.putz y0 y1 y2 y3 vv 0)
                unfold put6 boxed at HP
                have HH := hide (fun (h : true = true) => (⟨d, r, by omega, by omega, HHIT4.out⟩ : ∃ d r : Nat, d < 16 ∧ r < 16 ∧ hit _ _ sb d r = some (y0, y1, y2, y3, vv, 0)))
                exact bodyPost_ret (results_ct rfl _ _ (w.heap.size + 1) 32 _ (0, 0) _ rfl HP.out.1 hu3 rfl rfl) rfl ⟨(y0, y1, y2, y3, vv, 0), true, rfl, HP.out.2, HH.out, fun h => by cases h⟩
            · have hcmp : ((strOfNums (okX (y0, y1, y2, y3, vv, 0))).toList == X.toList) = false := by
                rw [beq_eq_false_iff_ne, HXT.out]
                intro e
                exact ceq (str_inj _ _ (okX_bytes _) HBL.out (toList_inj e))
              rw [if_neg ceq] at HHIT4
              clear ceq
              generalize strOfNums (okX (y0, y1, y2, y3, vv, 0)) = T7 at *
              go_region_with (go_at_call 20; refine (HF.out _).mono ?_; rintro e W7 ⟨rfl, f7⟩; have HY7 : Hid (Gy w W7 _ _ _ _ _ _) := hide (by first | exact HY6.out.more f7 | exact HY6.out.more (((Fr.refl [] W6).drewN' _).trans f7) | exact HY6.out.more (((Fr.refl [] W6).drew').trans f7)); have ⟨⟨e0, e1, e2, e3, e4, e5⟩, _⟩ := HY7.out.cells; have ⟨⟨z0, z1, z2, z3, z4, z5⟩, fz⟩ := HY7.out.zs; have fz0 := fz 0; have fz1 := fz 1; have fz2 := fz 2; have fz3 := fz 3; have fz4 := fz 4; have fz5 := fz 5; clear f7 fz)
              all_goals
                by_cases cs : y2 = (r : Int)
                · have cs1 : (y2 != (r : Int)) = false := by rw [cs]; simp
                  have HN := hide (HNEXT.out _ HY7.out.g HHIT4.out)
                  go_wp2
                  exact ⟨HN.out, by show 16 - ((r : Int) + 1).toNat < 16 - ((r : Int)).toNat; omega⟩
                · have cs1 : (y2 != (r : Int)) = true := by simpa using cs
                  have HB := hide (GOut.next hlt HNO.out HNR.out HHIT4.out (by rw [HY.out]; exact cs) HY7.out.g)
                  go_wp2
                  exact ⟨HB.out, by show 16 - ((d : Int) + 1).toNat < 16 - ((d : Int)).toNat; omega⟩
          by_cases ck4 : k0 = 18
          · skip
            obtain ⟨⟨kd0, kd1⟩, _, _, _, _⟩ := HY4.out.g.cells
            subst ck4
            go_wp2_with fail
            refine (HTAIL.out 4 (by omega) _).mono ?_
            rintro e W5 ⟨rfl, f5⟩
            have HY5 := hide (HY4.out.more f5)
            obtain ⟨⟨h0, h1, h2, h3, h4, h5⟩, hfz⟩ := HY5.out.cells
            have hfz4 := hfz 4
            have hfz5 := hfz 5
            clear f5 hfz
            go_wp2_with fail
            have HY6 := hide (HY5.out.put.1 (wrap64 (wrap32 (tailV tb 4))))
            clear h0 h1 h2 h3 h4 h5 hfz4 hfz5 HY5
            have hfill : fillS (y0, y1, y2, y3, 0, 0) tb = (y0, y1, y2, y3, (wrap64 (wrap32 (tailV tb 4))), 0) := by unfold fillS; rw [if_neg (show ¬ y0 = 2 by rw [HKI.out]; decide), if_pos (show immK y0 by rw [HKI.out]; decide)]
            generalize hWW : W5.setCell _ _ = W6 at HY6 ⊢
            clear hWW
            have hof := own_fill (y0, y1, y2, y3, 0, 0) tb HOW.out
            rw [hfill] at hof
            have HF := hide (fun W => HRL.out (wrap64 (wrap32 (tailV tb 4))) 0 W hof (fits32_of _) (by omega))
            have HHIT3 := HHIT2.out
            rw [hfill] at HHIT3
            have HHIT4 := hide HHIT3
            clear hof hfill HHIT2 HHIT3 HRL
            obtain ⟨⟨g0, g1, g2, g3, g4, g5⟩, _⟩ := HY6.out.cells
            generalize hv : (wrap64 (wrap32 (tailV tb 4))) = vv at *
            clear hv
            have HXT : Hid (X = strOfNums tb) := HTAKE
            by_cases ceq : okX (y0, y1, y2, y3, vv, 0) = tb
            · have hcmp : ((strOfNums (okX (y0, y1, y2, y3, vv, 0))).toList == X.toList) = true := by
                rw [ceq, HXT.out]; exact beq_self_eq_true _
              rw [if_pos ceq] at HHIT4
              clear ceq
              generalize strOfNums (okX (y0, y1, y2, y3, vv, 0)) = T7 at *
              go_region_with (go_at_call 20; refine (HF.out _).mono ?_; rintro e W7 ⟨rfl, f7⟩; have HY7 : Hid (Gy w W7 _ _ _ _ _ _) := hide (by first | exact HY6.out.more f7 | exact HY6.out.more (((Fr.refl [] W6).drewN' _).trans f7) | exact HY6.out.more (((Fr.refl [] W6).drew').trans f7)); have ⟨⟨e0, e1, e2, e3, e4, e5⟩, _⟩ := HY7.out.cells; have ⟨⟨z0, z1, z2, z3, z4, z5⟩, fz⟩ := HY7.out.zs; have fz0 := fz 0; have fz1 := fz 1; have fz2 := fz 2; have fz3 := fz 3; have fz4 := fz 4; have fz5 := fz 5; clear f7 fz)
              all_goals
                go_wp2_with fail
                have HP := hide (HY7.out.g.putz y0 y1 y2 y3 vv 0)
                unfold put6 boxed at HP
                have HH := hide (fun (h : true = true) => (⟨d, r, by omega, by omega, HHIT4.out⟩ : ∃ d r : Nat, d < 16 ∧ r < 16 ∧ hit _ _ sb d r = some (y0, y1, y2, y3, vv, 0)))
                exact bodyPost_ret (results_ct rfl _ _ (w.heap.size + 1) 32 _ (0, 0) _ rfl HP.out.1 hu3 rfl rfl) rfl ⟨(y0, y1, y2, y3, vv, 0), true, rfl, HP.out.2, HH.out, fun h => by cases h⟩
            · have hcmp : ((strOfNums (okX (y0, y1, y2, y3, vv, 0))).toList == X.toList) = false := by
                rw [beq_eq_false_iff_ne, HXT.out]
                intro e
                exact ceq (str_inj _ _ (okX_bytes _) HBL.out (toList_inj e))
              rw [if_neg ceq] at HHIT4
              clear ceq
              generalize strOfNums (okX (y0, y1, y2, y3, vv, 0)) = T7 at *
              go_region_with (go_at_call 20; refine (HF.out _).mono ?_; rintro e W7 ⟨rfl, f7⟩; have HY7 : Hid (Gy w W7 _ _ _ _ _ _) := hide (by first | exact HY6.out.more f7 | exact HY6.out.more (((Fr.refl [] W6).drewN' _).trans f7) | exact HY6.out.more (((Fr.refl [] W6).drew').trans f7)); have ⟨⟨e0, e1, e2, e3, e4, e5⟩, _⟩ := HY7.out.cells; have ⟨⟨z0, z1, z2, z3, z4, z5⟩, fz⟩ := HY7.out.zs; have fz0 := fz 0; have fz1 := fz 1; have fz2 := fz 2; have fz3 := fz 3; have fz4 := fz 4; have fz5 := fz 5; clear f7 fz)
              all_goals
                by_cases cs : y2 = (r : Int)
                · have cs1 : (y2 != (r : Int)) = false := by rw [cs]; simp
                  have HN := hide (HNEXT.out _ HY7.out.g HHIT4.out)
                  go_wp2
                  exact ⟨HN.out, by show 16 - ((r : Int) + 1).toNat < 16 - ((r : Int)).toNat; omega⟩
                · have cs1 : (y2 != (r : Int)) = true := by simpa using cs
                  have HB := hide (GOut.next hlt HNO.out HNR.out HHIT4.out (by rw [HY.out]; exact cs) HY7.out.g)
                  go_wp2
                  exact ⟨HB.out, by show 16 - ((d : Int) + 1).toNat < 16 - ((d : Int)).toNat; omega⟩
          by_cases ck5 : k0 = 19
          · skip
            obtain ⟨⟨kd0, kd1⟩, _, _, _, _⟩ := HY4.out.g.cells
            subst ck5
            go_wp2_with fail
            refine (HTAIL.out 4 (by omega) _).mono ?_
            rintro e W5 ⟨rfl, f5⟩
            have HY5 := hide (HY4.out.more f5)
            obtain ⟨⟨h0, h1, h2, h3, h4, h5⟩, hfz⟩ := HY5.out.cells
            have hfz4 := hfz 4
            have hfz5 := hfz 5
            clear f5 hfz
            go_wp2_with fail
            have HY6 := hide (HY5.out.put.1 (wrap64 (wrap32 (tailV tb 4))))
            clear h0 h1 h2 h3 h4 h5 hfz4 hfz5 HY5
            have hfill : fillS (y0, y1, y2, y3, 0, 0) tb = (y0, y1, y2, y3, (wrap64 (wrap32 (tailV tb 4))), 0) := by unfold fillS; rw [if_neg (show ¬ y0 = 2 by rw [HKI.out]; decide), if_pos (show immK y0 by rw [HKI.out]; decide)]
            generalize hWW : W5.setCell _ _ = W6 at HY6 ⊢
            clear hWW
            have hof := own_fill (y0, y1, y2, y3, 0, 0) tb HOW.out
            rw [hfill] at hof
            have HF := hide (fun W => HRL.out (wrap64 (wrap32 (tailV tb 4))) 0 W hof (fits32_of _) (by omega))
            have HHIT3 := HHIT2.out
            rw [hfill] at HHIT3
            have HHIT4 := hide HHIT3
            clear hof hfill HHIT2 HHIT3 HRL
            obtain ⟨⟨g0, g1, g2, g3, g4, g5⟩, _⟩ := HY6.out.cells
            generalize hv : (wrap64 (wrap32 (tailV tb 4))) = vv at *
            clear hv
            have HXT : Hid (X = strOfNums tb) := HTAKE
            by_cases ceq : okX (y0, y1, y2, y3, vv, 0) = tb
            · have hcmp : ((strOfNums (okX (y0, y1, y2, y3, vv, 0))).toList == X.toList) = true := by
                rw [ceq, HXT.out]; exact beq_self_eq_true _
              rw [if_pos ceq] at HHIT4
              clear ceq
              generalize strOfNums (okX (y0, y1, y2, y3, vv, 0)) = T7 at *
              go_region_with (go_at_call 20; refine (HF.out _).mono ?_; rintro e W7 ⟨rfl, f7⟩; have HY7 : Hid (Gy w W7 _ _ _ _ _ _) := hide (by first | exact HY6.out.more f7 | exact HY6.out.more (((Fr.refl [] W6).drewN' _).trans f7) | exact HY6.out.more (((Fr.refl [] W6).drew').trans f7)); have ⟨⟨e0, e1, e2, e3, e4, e5⟩, _⟩ := HY7.out.cells; have ⟨⟨z0, z1, z2, z3, z4, z5⟩, fz⟩ := HY7.out.zs; have fz0 := fz 0; have fz1 := fz 1; have fz2 := fz 2; have fz3 := fz 3; have fz4 := fz 4; have fz5 := fz 5; clear f7 fz)
              all_goals
                go_wp2_with fail
                have HP := hide (HY7.out.g.putz y0 y1 y2 y3 vv 0)
                unfold put6 boxed at HP
                have HH := hide (fun (h : true = true) => (⟨d, r, by omega, by omega, HHIT4.out⟩ : ∃ d r : Nat, d < 16 ∧ r < 16 ∧ hit _ _ sb d r = some (y0, y1, y2, y3, vv, 0)))
                exact bodyPost_ret (results_ct rfl _ _ (w.heap.size + 1) 32 _ (0, 0) _ rfl HP.out.1 hu3 rfl rfl) rfl ⟨(y0, y1, y2, y3, vv, 0), true, rfl, HP.out.2, HH.out, fun h => by cases h⟩
            · have hcmp : ((strOfNums (okX (y0, y1, y2, y3, vv, 0))).toList == X.toList) = false := by
                rw [beq_eq_false_iff_ne, HXT.out]
                intro e
                exact ceq (str_inj _ _ (okX_bytes _) HBL.out (toList_inj e))
              rw [if_neg ceq] at HHIT4
              clear ceq
              generalize strOfNums (okX (y0, y1, y2, y3, vv, 0)) = T7 at *
              go_region_with (go_at_call 20; refine (HF.out _).mono ?_; rintro e W7 ⟨rfl, f7⟩; have HY7 : Hid (Gy w W7 _ _ _ _ _ _) := hide (by first | exact HY6.out.more f7 | exact HY6.out.more (((Fr.refl [] W6).drewN' _).trans f7) | exact HY6.out.more (((Fr.refl [] W6).drew').trans f7)); have ⟨⟨e0, e1, e2, e3, e4, e5⟩, _⟩ := HY7.out.cells; have ⟨⟨z0, z1, z2, z3, z4, z5⟩, fz⟩ := HY7.out.zs; have fz0 := fz 0; have fz1 := fz 1; have fz2 := fz 2; have fz3 := fz 3; have fz4 := fz 4; have fz5 := fz 5; clear f7 fz)
              all_goals
                by_cases cs : y2 = (r : Int)
                · have cs1 : (y2 != (r : Int)) = false := by rw [cs]; simp
                  have HN := hide (HNEXT.out _ HY7.out.g HHIT4.out)
                  go_wp2
                  exact ⟨HN.out, by show 16 - ((r : Int) + 1).toNat < 16 - ((r : Int)).toNat; omega⟩
                · have cs1 : (y2 != (r : Int)) = true := by simpa using cs
                  have HB := hide (GOut.next hlt HNO.out HNR.out HHIT4.out (by rw [HY.out]; exact cs) HY7.out.g)
                  go_wp2
                  exact ⟨HB.out, by show 16 - ((d : Int) + 1).toNat < 16 - ((d : Int)).toNat; omega⟩
          by_cases ck6 : k0 = 20
          · skip
            obtain ⟨⟨kd0, kd1⟩, _, _, _, _⟩ := HY4.out.g.cells
            subst ck6
            go_wp2_with fail
            refine (HTAIL.out 4 (by omega) _).mono ?_
            rintro e W5 ⟨rfl, f5⟩
            have HY5 := hide (HY4.out.more f5)
            obtain ⟨⟨h0, h1, h2, h3, h4, h5⟩, hfz⟩ := HY5.out.cells
            have hfz4 := hfz 4
            have hfz5 := hfz 5
            clear f5 hfz
            go_wp2_with fail
            have HY6 := hide (HY5.out.put.1 (wrap64 (wrap32 (tailV tb 4))))
            clear h0 h1 h2 h3 h4 h5 hfz4 hfz5 HY5
            have hfill : fillS (y0, y1, y2, y3, 0, 0) tb = (y0, y1, y2, y3, (wrap64 (wrap32 (tailV tb 4))), 0) := by unfold fillS; rw [if_neg (show ¬ y0 = 2 by rw [HKI.out]; decide), if_pos (show immK y0 by rw [HKI.out]; decide)]
            generalize hWW : W5.setCell _ _ = W6 at HY6 ⊢
            clear hWW
            have hof := own_fill (y0, y1, y2, y3, 0, 0) tb HOW.out
            rw [hfill] at hof
            have HF := hide (fun W => HRL.out (wrap64 (wrap32 (tailV tb 4))) 0 W hof (fits32_of _) (by omega))
            have HHIT3 := HHIT2.out
            rw [hfill] at HHIT3
            have HHIT4 := hide HHIT3
            clear hof hfill HHIT2 HHIT3 HRL
            obtain ⟨⟨g0, g1, g2, g3, g4, g5⟩, _⟩ := HY6.out.cells
            generalize hv : (wrap64 (wrap32 (tailV tb 4))) = vv at *
            clear hv
            have HXT : Hid (X = strOfNums tb) := HTAKE
            by_cases ceq : okX (y0, y1, y2, y3, vv, 0) = tb
            · have hcmp : ((strOfNums (okX (y0, y1, y2, y3, vv, 0))).toList == X.toList) = true := by
                rw [ceq, HXT.out]; exact beq_self_eq_true _
              rw [if_pos ceq] at HHIT4
              clear ceq
              generalize strOfNums (okX (y0, y1, y2, y3, vv, 0)) = T7 at *
              go_region_with (go_at_call 20; refine (HF.out _).mono ?_; rintro e W7 ⟨rfl, f7⟩; have HY7 : Hid (Gy w W7 _ _ _ _ _ _) := hide (by first | exact HY6.out.more f7 | exact HY6.out.more (((Fr.refl [] W6).drewN' _).trans f7) | exact HY6.out.more (((Fr.refl [] W6).drew').trans f7)); have ⟨⟨e0, e1, e2, e3, e4, e5⟩, _⟩ := HY7.out.cells; have ⟨⟨z0, z1, z2, z3, z4, z5⟩, fz⟩ := HY7.out.zs; have fz0 := fz 0; have fz1 := fz 1; have fz2 := fz 2; have fz3 := fz 3; have fz4 := fz 4; have fz5 := fz 5; clear f7 fz)
              all_goals
                go_wp2_with fail
                have HP := hide (HY7.out.g.putz y0 y1 y2 y3 vv 0)
                unfold put6 boxed at HP
                have HH := hide (fun (h : true = true) => (⟨d, r, by omega, by omega, HHIT4.out⟩ : ∃ d r : Nat, d < 16 ∧ r < 16 ∧ hit _ _ sb d r = some (y0, y1, y2, y3, vv, 0)))
                exact bodyPost_ret (results_ct rfl _ _ (w.heap.size + 1) 32 _ (0, 0) _ rfl HP.out.1 hu3 rfl rfl) rfl ⟨(y0, y1, y2, y3, vv, 0), true, rfl, HP.out.2, HH.out, fun h => by cases h⟩
            · have hcmp : ((strOfNums (okX (y0, y1, y2, y3, vv, 0))).toList == X.toList) = false := by
                rw [beq_eq_false_iff_ne, HXT.out]
                intro e
                exact ceq (str_inj _ _ (okX_bytes _) HBL.out (toList_inj e))
              rw [if_neg ceq] at HHIT4
              clear ceq
              generalize strOfNums (okX (y0, y1, y2, y3, vv, 0)) = T7 at *
              go_region_with (go_at_call 20; refine (HF.out _).mono ?_; rintro e W7 ⟨rfl, f7⟩; have HY7 : Hid (Gy w W7 _ _ _ _ _ _) := hide (by first | exact HY6.out.more f7 | exact HY6.out.more (((Fr.refl [] W6).drewN' _).trans f7) | exact HY6.out.more (((Fr.refl [] W6).drew').trans f7)); have ⟨⟨e0, e1, e2, e3, e4, e5⟩, _⟩ := HY7.out.cells; have ⟨⟨z0, z1, z2, z3, z4, z5⟩, fz⟩ := HY7.out.zs; have fz0 := fz 0; have fz1 := fz 1; have fz2 := fz 2; have fz3 := fz 3; have fz4 := fz 4; have fz5 := fz 5; clear f7 fz)
              all_goals
                by_cases cs : y2 = (r : Int)
                · have cs1 : (y2 != (r : Int)) = false := by rw [cs]; simp
                  have HN := hide (HNEXT.out _ HY7.out.g HHIT4.out)
                  go_wp2
                  exact ⟨HN.out, by show 16 - ((r : Int) + 1).toNat < 16 - ((r : Int)).toNat; omega⟩
                · have cs1 : (y2 != (r : Int)) = true := by simpa using cs
                  have HB := hide (GOut.next hlt HNO.out HNR.out HHIT4.out (by rw [HY.out]; exact cs) HY7.out.g)
                  go_wp2
                  exact ⟨HB.out, by show 16 - ((d : Int) + 1).toNat < 16 - ((d : Int)).toNat; omega⟩
          · skip
            obtain ⟨⟨kd0, kd1⟩, _, _, _, _⟩ := HY4.out.g.cells
            go_wp2_with fail
            have HY6 := hide HY4.out
            have hfill : fillS (y0, y1, y2, y3, 0, 0) tb = (y0, y1, y2, y3, 0, 0) := by unfold fillS; rw [if_neg (show ¬ y0 = 2 by rw [HKI.out]; exact ck), if_neg (show ¬ immK y0 by rw [HKI.out]; unfold immK; omega)]
            generalize W4 = W6 at *
            have hof := own_fill (y0, y1, y2, y3, 0, 0) tb HOW.out
            rw [hfill] at hof
            have HF := hide (fun W => HRL.out 0 0 W hof (rfl) (by omega))
            have HHIT3 := HHIT2.out
            rw [hfill] at HHIT3
            have HHIT4 := hide HHIT3
            clear hof hfill HHIT2 HHIT3 HRL
            obtain ⟨⟨g0, g1, g2, g3, g4, g5⟩, _⟩ := HY6.out.cells
            have HXT : Hid (X = strOfNums tb) := HTAKE
            by_cases ceq : okX (y0, y1, y2, y3, 0, 0) = tb
            · have hcmp : ((strOfNums (okX (y0, y1, y2, y3, 0, 0))).toList == X.toList) = true := by
                rw [ceq, HXT.out]; exact beq_self_eq_true _
              rw [if_pos ceq] at HHIT4
              clear ceq
              generalize strOfNums (okX (y0, y1, y2, y3, 0, 0)) = T7 at *
              go_region_with (go_at_call 20; refine (HF.out _).mono ?_; rintro e W7 ⟨rfl, f7⟩; have HY7 : Hid (Gy w W7 _ _ _ _ _ _) := hide (by first | exact HY6.out.more f7 | exact HY6.out.more (((Fr.refl [] W6).drewN' _).trans f7) | exact HY6.out.more (((Fr.refl [] W6).drew').trans f7)); have ⟨⟨e0, e1, e2, e3, e4, e5⟩, _⟩ := HY7.out.cells; have ⟨⟨z0, z1, z2, z3, z4, z5⟩, fz⟩ := HY7.out.zs; have fz0 := fz 0; have fz1 := fz 1; have fz2 := fz 2; have fz3 := fz 3; have fz4 := fz 4; have fz5 := fz 5; clear f7 fz)
              all_goals
                go_wp2_with fail
                have HP := hide (HY7.out.g.putz y0 y1 y2 y3 0 0)
                unfold put6 boxed at HP
                have HH := hide (fun (h : true = true) => (⟨d, r, by omega, by omega, HHIT4.out⟩ : ∃ d r : Nat, d < 16 ∧ r < 16 ∧ hit _ _ sb d r = some (y0, y1, y2, y3, 0, 0)))
                exact bodyPost_ret (results_ct rfl _ _ (w.heap.size + 1) 32 _ (0, 0) _ rfl HP.out.1 hu3 rfl rfl) rfl ⟨(y0, y1, y2, y3, 0, 0), true, rfl, HP.out.2, HH.out, fun h => by cases h⟩
            · have hcmp : ((strOfNums (okX (y0, y1, y2, y3, 0, 0))).toList == X.toList) = false := by
                rw [beq_eq_false_iff_ne, HXT.out]
                intro e
                exact ceq (str_inj _ _ (okX_bytes _) HBL.out (toList_inj e))
              rw [if_neg ceq] at HHIT4
              clear ceq
              generalize strOfNums (okX (y0, y1, y2, y3, 0, 0)) = T7 at *
              go_region_with (go_at_call 20; refine (HF.out _).mono ?_; rintro e W7 ⟨rfl, f7⟩; have HY7 : Hid (Gy w W7 _ _ _ _ _ _) := hide (by first | exact HY6.out.more f7 | exact HY6.out.more (((Fr.refl [] W6).drewN' _).trans f7) | exact HY6.out.more (((Fr.refl [] W6).drew').trans f7)); have ⟨⟨e0, e1, e2, e3, e4, e5⟩, _⟩ := HY7.out.cells; have ⟨⟨z0, z1, z2, z3, z4, z5⟩, fz⟩ := HY7.out.zs; have fz0 := fz 0; have fz1 := fz 1; have fz2 := fz 2; have fz3 := fz 3; have fz4 := fz 4; have fz5 := fz 5; clear f7 fz)
              all_goals
                by_cases cs : y2 = (r : Int)
                · have cs1 : (y2 != (r : Int)) = false := by rw [cs]; simp
                  have HN := hide (HNEXT.out _ HY7.out.g HHIT4.out)
                  go_wp2
                  exact ⟨HN.out, by show 16 - ((r : Int) + 1).toNat < 16 - ((r : Int)).toNat; omega⟩
                · have cs1 : (y2 != (r : Int)) = true := by simpa using cs
                  have HB := hide (GOut.next hlt HNO.out HNR.out HHIT4.out (by rw [HY.out]; exact cs) HY7.out.g)
                  go_wp2
                  exact ⟨HB.out, by show 16 - ((d : Int) + 1).toNat < 16 - ((d : Int)).toNat; omega⟩
        · have HEN : Hid (GOut w k0 k1 sb (.int .i64 ((d : Int) + 1)) wr) := hide (GOut.full hlt HNO.out (fun q hq => HNR.out q (by omega)) hgh)
          have hlr1 : ¬ (r : Int) < 16 := by omega
          clear hgh
          go_wp2
          exact ⟨HEN.out, by show 16 - ((d : Int) + 1).toNat < 16 - ((d : Int)).toNat; omega⟩
    · obtain ⟨⟨kc0, kc1⟩, ⟨x0, x1, x2, x3, x4, x5⟩, _, ⟨z0, z1, z2, z3, z4, z5⟩, fz⟩ := hg.cells
      have fz0 := fz 0
      have fz1 := fz 1
      have fz2 := fz 2
      have fz3 := fz 3
      have fz4 := fz 4
      have fz5 := fz 5
      have HP := hide (hg.putz k0 a0 b0 k1 0 0)
      unfold put6 boxed at HP
      have hlt1 : ¬ (d : Int) < 16 := by omega
      have HH : Hid (false = false → ∀ p q : Nat, p < 16 → q < 16 → hit k0 k1 sb p q = none) := hide (fun _ p q hp hq => HNO.out p q (by omega) hq)
      clear fz hg
      go_wp2
      exact bodyPost_ret (results_ct rfl _ _ (w.heap.size + 1) 32 _ (0, 0) _ rfl HP.out.1 hu3 rfl rfl) rfl ⟨(k0, a0, b0, k1, 0, 0), false, rfl, HP.out.2, (fun h => by cases h), fun _ => HH.out trivial⟩
end Go.Proofs.Ytpahjllcomejbaa
