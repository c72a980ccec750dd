/- The reader's short, whole; condition: the reader lies in memory, and the prefix is a byte. -/
import Derived.Test.YtpahjllcomejbaaMA
import Derived.Test.YtpahjllcomejbaaMB
import Derived.Test.YtpahjllcomejbaaRd
set_option linter.unusedVariables false
set_option linter.unusedSimpArgs false
namespace Go.Proofs.Ytpahjllcomejbaa
open Go.RowKit Go.MapKept
open Go.Proofs.YtpahjllcomejbaaW.PrintWords Go.Proofs.YtpahjllcomejbaaW.PrintLast Go.Proofs.YtpahjllcomejbaaW.PrintMore
open PX86Encodes

abbrev X9 := Int × Int × Int × Int × Int × Int × ByteArray × Int × Bool
/-- The kind of an operation of one register; 0: there is none. -/
def oneInv (op v : Int) : Int := if op = 211 then (if v = 4 then 11 else if v = 5 then 12 else if v = 7 then 13 else 0) else (if v = 3 then 14 else if v = 6 then 15 else if v = 7 then 16 else 0)
def twoInv (op : Int) : Int := if op = 1 then 3 else if op = 41 then 4 else if op = 33 then 5 else if op = 9 then 6 else if op = 49 then 7 else if op = 57 then 8 else if op = 133 then 9 else 0
def wideB (rex : Int) : Bool := bits BinOp.and IntKind.u8 rex 8 != 0
def shortT (k : Nat) (op : Int) (s : ByteArray) (a : Int) (e : Bool) (rex : Int) (half : Bool) : Option X9 :=
  if op = 15 then x86_reader_long.f k s a e rex
  else if 184 ≤ op ∧ op < 192 then (x86_reader_number.f k s a e 8).bind fun q => some (2, lowB rex op, 0, 0, 0, q.1, q.2.1, q.2.2.1, q.2.2.2)
  else if 80 ≤ op ∧ op < 88 then some (23, lowB rex op, 0, 0, 0, 0, s, a, e)
  else if 88 ≤ op ∧ op < 96 then some (24, lowB rex op, 0, 0, 0, 0, s, a, e)
  else if op = 153 then some (17, 0, 0, 0, 0, 0, s, a, e)
  else if op = 99 then x86_reader_load.f k s a e rex 4 true
  else if op = 139 then (if wideB rex = true then x86_reader_load.f k s a e rex 8 false else x86_reader_load.f k s a e rex 4 false)
  else if op = 136 then x86_reader_store.f k s a e rex 1
  else if op = 137 then (if half = true then x86_reader_store.f k s a e rex 2 else if wideB rex = true then x86_reader_store.f k s a e rex 8 else x86_reader_store.f k s a e rex 4)
  else if op = 211 ∨ op = 247 then (x86_reader_fields.f s a e rex).bind fun q => if oneInv op (q.2.1 % 8) = 0 then some (0, 0, 0, 0, 0, 0, q.2.2.2.1, q.2.2.2.2.1, q.2.2.2.2.2) else some (oneInv op (q.2.1 % 8), q.2.2.1, 0, 0, 0, 0, q.2.2.2.1, q.2.2.2.2.1, q.2.2.2.2.2)
  else (x86_reader_fields.f s a e rex).bind fun q => if twoInv op = 0 then some (0, 0, 0, 0, 0, 0, q.2.2.2.1, q.2.2.2.2.1, q.2.2.2.2.2) else some (twoInv op, q.2.2.1, q.2.1, 0, 0, 0, q.2.2.2.1, q.2.2.2.2.1, q.2.2.2.2.2)
def shortF (k : Nat) (s : ByteArray) (a : Int) (e : Bool) (rex : Int) (half : Bool) : Option X9 :=
  (x86_reader_next.f s a e).bind fun p => shortT k p.1 p.2.1 p.2.2.1 p.2.2.2 rex half
theorem next_byte {s : ByteArray} {a : Int} {e : Bool} {r : Int} {s' : ByteArray} {a' : Int} {e' : Bool} (h : x86_reader_next.f s a e = some (r, s', a', e')) : 0 ≤ r ∧ r < 256 := by
  unfold x86_reader_next.f at h
  split at h
  · cases h; omega
  · split at h
    · split at h
      · simp only [Option.some.injEq, Prod.mk.injEq] at h
        obtain ⟨rfl, _⟩ := h
        unfold bt
        split
        · rename_i hq
          have := (s[(wrap64 (wrap64 (a + 1) - 1)).toNat]'(by assumption)).toNat_lt
          omega
        · omega
      · cases h
    · cases h
set_option maxRecDepth 100000 in
theorem u8_248 (op : Int) (h : 0 ≤ op ∧ op < 256) : bits BinOp.and IntKind.u8 op 248 = op / 8 * 8 := by
  have key : ∀ n : Fin 256, bits BinOp.and IntKind.u8 (n.val : Int) 248 = (n.val : Int) / 8 * 8 := by decide
  obtain ⟨m, rfl⟩ := Int.eq_ofNat_of_zero_le h.1
  exact key ⟨m, by omega⟩
theorem twoInv_spec (op : Int) (h : twoInv op ≠ 0) : ∃ T : Nat, 3 ≤ T ∧ T ≤ 9 ∧ twoB T = op ∧ twoInv op = T ∧ ∀ j : Nat, 3 ≤ j → j < T → twoB j ≠ op := by
  have hop : op = 1 ∨ op = 41 ∨ op = 33 ∨ op = 9 ∨ op = 49 ∨ op = 57 ∨ op = 133 := by
    refine Decidable.byContradiction fun c => h ?_
    unfold twoInv
    rw [if_neg (by omega), if_neg (by omega), if_neg (by omega), if_neg (by omega), if_neg (by omega), if_neg (by omega), if_neg (by omega)]
  have fin : ∀ (T : Nat) (o : Int), T ≤ 9 → (∀ j : Fin 10, 3 ≤ j.val → j.val < T → twoB (j.val : Int) ≠ o) → ∀ j : Nat, 3 ≤ j → j < T → twoB j ≠ o := fun T o hT hf j h1 h2 => hf ⟨j, by omega⟩ h1 h2
  rcases hop with rfl | rfl | rfl | rfl | rfl | rfl | rfl
  · exact ⟨3, by omega, by omega, by decide, by decide, fin 3 _ (by omega) (by decide)⟩
  · exact ⟨4, by omega, by omega, by decide, by decide, fin 4 _ (by omega) (by decide)⟩
  · exact ⟨5, by omega, by omega, by decide, by decide, fin 5 _ (by omega) (by decide)⟩
  · exact ⟨6, by omega, by omega, by decide, by decide, fin 6 _ (by omega) (by decide)⟩
  · exact ⟨7, by omega, by omega, by decide, by decide, fin 7 _ (by omega) (by decide)⟩
  · exact ⟨8, by omega, by omega, by decide, by decide, fin 8 _ (by omega) (by decide)⟩
  · exact ⟨9, by omega, by omega, by decide, by decide, fin 9 _ (by omega) (by decide)⟩
theorem twoInv_zero (op : Int) (h : twoInv op = 0) (j : Nat) (h1 : 3 ≤ j) (h2 : j < 10) : twoB j ≠ op := by
  have hj : j = 3 ∨ j = 4 ∨ j = 5 ∨ j = 6 ∨ j = 7 ∨ j = 8 ∨ j = 9 := by omega
  rintro rfl
  rcases hj with rfl | rfl | rfl | rfl | rfl | rfl | rfl <;> revert h <;> decide
set_option maxHeartbeats 1000000 in
theorem short_calls (k g : Nat) (s s2 : ByteArray) (a a2 : Int) (e e2 : Bool) (rex r1 r2 r3 r4 r5 r6 : Int) (half : Bool) (w : World) (hg : w.heap[g]? = some (rdO s a e)) (hr : 0 ≤ rex ∧ rex < 256)
    (h : shortF k s a e rex half = some (r1, r2, r3, r4, r5, r6, s2, a2, e2)) :
    Calls Try.prog 17 #[.pointer (some ⟨g, 0, none⟩), .int .u8 rex, .bool half] w (RdPost w g (.agg #[.int .i64 r1, .int .i64 r2, .int .i64 r3, .int .i64 r4, .int .i64 r5, .int .u64 r6]) s2 a2 e2) := by
  unfold shortF at h
  obtain ⟨⟨op, s1, a1, e1⟩, hn, h⟩ := Option.bind_eq_some_iff.1 h
  have hop := next_byte hn
  simp only [shortT] at h
  by_cases c : op = 15
  · subst c
    rw [if_pos rfl] at h
    exact short_15 k g s s1 s2 a a1 a2 e e1 e2 rex r1 r2 r3 r4 r5 r6 half w hg hn h
  rw [if_neg c] at h
  by_cases c184 : 184 ≤ op ∧ op < 192
  · rw [if_pos c184] at h
    obtain ⟨⟨n, s', a', e'⟩, hc, h⟩ := Option.bind_eq_some_iff.1 h
    simp only [Option.some.injEq, Prod.mk.injEq] at h
    obtain ⟨rfl, rfl, rfl, rfl, rfl, rfl, rfl, rfl, rfl⟩ := h
    exact short_184 k g s s1 s' a a1 a' e e1 e' rex op 0 0 0 0 0 0 half w hg hn n hc c184 hr
  rw [if_neg c184] at h
  by_cases c80 : 80 ≤ op ∧ op < 88
  · rw [if_pos c80] at h
    simp only [Option.some.injEq, Prod.mk.injEq] at h
    obtain ⟨rfl, rfl, rfl, rfl, rfl, rfl, rfl, rfl, rfl⟩ := h
    exact short_80 k g s s1 s1 a a1 a1 e e1 e1 rex op 0 0 0 0 0 0 half w hg hn c80 hr
  rw [if_neg c80] at h
  by_cases c88 : 88 ≤ op ∧ op < 96
  · rw [if_pos c88] at h
    simp only [Option.some.injEq, Prod.mk.injEq] at h
    obtain ⟨rfl, rfl, rfl, rfl, rfl, rfl, rfl, rfl, rfl⟩ := h
    exact short_88 k g s s1 s1 a a1 a1 e e1 e1 rex op 0 0 0 0 0 0 half w hg hn c88 hr
  rw [if_neg c88] at h
  by_cases c153 : op = 153
  · subst c153
    rw [if_pos rfl] at h
    simp only [Option.some.injEq, Prod.mk.injEq] at h
    obtain ⟨rfl, rfl, rfl, rfl, rfl, rfl, rfl, rfl, rfl⟩ := h
    exact short_153 k g s s1 s1 a a1 a1 e e1 e1 rex 0 0 0 0 0 0 half w hg hn
  rw [if_neg c153] at h
  by_cases c99 : op = 99
  · subst c99
    rw [if_pos rfl] at h
    exact short_99 k g s s1 s2 a a1 a2 e e1 e2 rex r1 r2 r3 r4 r5 r6 half w hg hn h
  rw [if_neg c99] at h
  by_cases c139 : op = 139
  · subst c139
    rw [if_pos rfl] at h
    cases hw : wideB rex with
    | true => rw [hw, if_pos rfl] at h; exact short_139w k g s s1 s2 a a1 a2 e e1 e2 rex r1 r2 r3 r4 r5 r6 half w hg hn h hw
    | false => rw [hw, if_neg (by simp)] at h; exact short_139n k g s s1 s2 a a1 a2 e e1 e2 rex r1 r2 r3 r4 r5 r6 half w hg hn h hw
  rw [if_neg c139] at h
  by_cases c136 : op = 136
  · subst c136
    rw [if_pos rfl] at h
    exact short_136 k g s s1 s2 a a1 a2 e e1 e2 rex r1 r2 r3 r4 r5 r6 half w hg hn h
  rw [if_neg c136] at h
  by_cases c137 : op = 137
  · subst c137
    rw [if_pos rfl] at h
    cases half with
    | true => rw [if_pos rfl] at h; exact short_137h k g s s1 s2 a a1 a2 e e1 e2 rex r1 r2 r3 r4 r5 r6 true w hg hn h rfl
    | false =>
      rw [if_neg (by simp)] at h
      cases hw : wideB rex with
      | true => rw [hw, if_pos rfl] at h; exact short_137w k g s s1 s2 a a1 a2 e e1 e2 rex r1 r2 r3 r4 r5 r6 false w hg hn h rfl hw
      | false => rw [hw, if_neg (by simp)] at h; exact short_137n k g s s1 s2 a a1 a2 e e1 e2 rex r1 r2 r3 r4 r5 r6 false w hg hn h rfl hw
  rw [if_neg c137] at h
  by_cases c1 : op = 211 ∨ op = 247
  · rw [if_pos c1] at h
    obtain ⟨⟨mem, n, d, s', a', e'⟩, hc, h⟩ := Option.bind_eq_some_iff.1 h
    simp only at h
    rcases c1 with rfl | rfl
    · by_cases v4 : n % 8 = 4
      · rw [v4] at h
        rw [if_neg (by decide)] at h
        simp only [Option.some.injEq, Prod.mk.injEq] at h
        obtain ⟨rfl, rfl, rfl, rfl, rfl, rfl, rfl, rfl, rfl⟩ := h
        exact short_211_4 k g s s1 s' a a1 a' e e1 e' rex 0 0 0 0 0 0 half w hg hn mem n d hc v4
      by_cases v5 : n % 8 = 5
      · rw [v5] at h
        rw [if_neg (by decide)] at h
        simp only [Option.some.injEq, Prod.mk.injEq] at h
        obtain ⟨rfl, rfl, rfl, rfl, rfl, rfl, rfl, rfl, rfl⟩ := h
        exact short_211_5 k g s s1 s' a a1 a' e e1 e' rex 0 0 0 0 0 0 half w hg hn mem n d hc v5
      by_cases v7 : n % 8 = 7
      · rw [v7] at h
        rw [if_neg (by decide)] at h
        simp only [Option.some.injEq, Prod.mk.injEq] at h
        obtain ⟨rfl, rfl, rfl, rfl, rfl, rfl, rfl, rfl, rfl⟩ := h
        exact short_211_7 k g s s1 s' a a1 a' e e1 e' rex 0 0 0 0 0 0 half w hg hn mem n d hc v7
      rw [if_pos (by simp [oneInv, v4, v5, v7])] at h
      simp only [Option.some.injEq, Prod.mk.injEq] at h
      obtain ⟨rfl, rfl, rfl, rfl, rfl, rfl, rfl, rfl, rfl⟩ := h
      exact short_211_no k g s s1 s' a a1 a' e e1 e' rex 0 0 0 0 0 0 half w hg hn mem n d hc ⟨v4, v5, v7⟩
    · by_cases v4 : n % 8 = 3
      · rw [v4] at h
        rw [if_neg (by decide)] at h
        simp only [Option.some.injEq, Prod.mk.injEq] at h
        obtain ⟨rfl, rfl, rfl, rfl, rfl, rfl, rfl, rfl, rfl⟩ := h
        exact short_247_3 k g s s1 s' a a1 a' e e1 e' rex 0 0 0 0 0 0 half w hg hn mem n d hc v4
      by_cases v5 : n % 8 = 6
      · rw [v5] at h
        rw [if_neg (by decide)] at h
        simp only [Option.some.injEq, Prod.mk.injEq] at h
        obtain ⟨rfl, rfl, rfl, rfl, rfl, rfl, rfl, rfl, rfl⟩ := h
        exact short_247_6 k g s s1 s' a a1 a' e e1 e' rex 0 0 0 0 0 0 half w hg hn mem n d hc v5
      by_cases v7 : n % 8 = 7
      · rw [v7] at h
        rw [if_neg (by decide)] at h
        simp only [Option.some.injEq, Prod.mk.injEq] at h
        obtain ⟨rfl, rfl, rfl, rfl, rfl, rfl, rfl, rfl, rfl⟩ := h
        exact short_247_7 k g s s1 s' a a1 a' e e1 e' rex 0 0 0 0 0 0 half w hg hn mem n d hc v7
      rw [if_pos (by simp [oneInv, v4, v5, v7])] at h
      simp only [Option.some.injEq, Prod.mk.injEq] at h
      obtain ⟨rfl, rfl, rfl, rfl, rfl, rfl, rfl, rfl, rfl⟩ := h
      exact short_247_no k g s s1 s' a a1 a' e e1 e' rex 0 0 0 0 0 0 half w hg hn mem n d hc ⟨v4, v5, v7⟩
  rw [if_neg c1] at h
  obtain ⟨⟨mem, q, d, s', a', e'⟩, hc, h⟩ := Option.bind_eq_some_iff.1 h
  simp only at h
  have h248 := u8_248 op hop
  have b1 : (bits BinOp.and IntKind.u8 op 248 == 184) = false := by rw [beq_eq_false_iff_ne, h248]; omega
  have b2 : (bits BinOp.and IntKind.u8 op 248 == 80) = false := by rw [beq_eq_false_iff_ne, h248]; omega
  have b3 : (bits BinOp.and IntKind.u8 op 248 == 88) = false := by rw [beq_eq_false_iff_ne, h248]; omega
  have hne : op ≠ 15 ∧ op ≠ 153 ∧ op ≠ 99 ∧ op ≠ 139 ∧ op ≠ 136 ∧ op ≠ 137 ∧ op ≠ 211 ∧ op ≠ 247 := ⟨c, c153, c99, c139, c136, c137, fun q => c1 (.inl q), fun q => c1 (.inr q)⟩
  by_cases ht : twoInv op = 0
  · rw [if_pos ht] at h
    simp only [Option.some.injEq, Prod.mk.injEq] at h
    obtain ⟨rfl, rfl, rfl, rfl, rfl, rfl, rfl, rfl, rfl⟩ := h
    exact short_none k g s s1 s' a a1 a' e e1 e' rex op 0 0 0 0 0 0 half w hg hn mem q d hc hne b1 b2 b3 (twoInv_zero op ht)
  · rw [if_neg ht] at h
    obtain ⟨T, t1, t2, t3, t4, t5⟩ := twoInv_spec op ht
    rw [t4] at h
    simp only [Option.some.injEq, Prod.mk.injEq] at h
    obtain ⟨rfl, rfl, rfl, rfl, rfl, rfl, rfl, rfl, rfl⟩ := h
    exact short_two k g s s1 s' a a1 a' e e1 e' rex op 0 0 0 0 0 0 half w hg hn mem q d hc hne b1 b2 b3 T ⟨t1, t2⟩ t3 t5
end Go.Proofs.Ytpahjllcomejbaa
set_option linter.unusedVariables false
set_option linter.unusedSimpArgs false
namespace Go.Proofs.Ytpahjllcomejbaa
open Go.RowKit Go.MapKept
open Go.Proofs.YtpahjllcomejbaaW.PrintWords Go.Proofs.YtpahjllcomejbaaW.PrintLast Go.Proofs.YtpahjllcomejbaaW.PrintMore
open PX86Encodes

def box6 (x : X6) : Obj := boxed x.1 x.2.1 x.2.2.1 x.2.2.2.1 x.2.2.2.2.1 x.2.2.2.2.2
structure Dh (w W : World) (s : ByteArray) (a : Int) (e : Bool) (x : Obj) : Prop where
  hg : W.heap[w.heap.size + 1]? = some (rdO s a e)
  z : W.heap[w.heap.size]? = some (boxed 0 0 0 0 0 0)
  x : W.heap[w.heap.size + 2]? = some x
  f : Fr [] [] w W
theorem Dh.start (w : World) (s : ByteArray) (a : Int) : Dh w (((w.alloc (boxed 0 0 0 0 0 0)).alloc (rdO s a false)).alloc (boxed 0 0 0 0 0 0)) s a false (boxed 0 0 0 0 0 0) where
  hg := by have := heap_alloc_new (w.alloc (boxed 0 0 0 0 0 0)) (rdO s a false); simp only [World.size_alloc] at this; exact heap_alloc_some this
  z := heap_alloc_some (heap_alloc_some (heap_alloc_new w _))
  x := by have := heap_alloc_new ((w.alloc (boxed 0 0 0 0 0 0)).alloc (rdO s a false)) (boxed 0 0 0 0 0 0); simp only [World.size_alloc] at this; exact this
  f := (((Fr.refl [] w).alloc' _).alloc' _).alloc' _
theorem Dh.next {w W W' : World} {s s' : ByteArray} {a a' : Int} {e e' : Bool} {x : Obj} (h : Dh w W s a e x) (h1 : W'.heap[w.heap.size + 1]? = some (rdO s' a' e')) (h2 : Fr [w.heap.size + 1] [w.heap.size + 1] W W') : Dh w W' s' a' e' x where
  hg := h1
  z := h2.keep h.z (by simp)
  x := h2.keep h.x (by simp)
  f := ⟨h2.os.trans h.f.os, h2.tape.trans h.f.tape, h2.output.trans h.f.output, Nat.le_trans h.f.size h2.size, fun k hk hn => (h2.block k (Nat.lt_of_lt_of_le hk h.f.size) (by simp; omega)).trans (h.f.block k hk hn), by simp⟩
theorem Dh.more {w W W' : World} {s : ByteArray} {a : Int} {e : Bool} {x : Obj} (h : Dh w W s a e x) (h2 : Fr [] [] W W') : Dh w W' s a e x where
  hg := h2.keep h.hg (by simp)
  z := h2.keep h.z (by simp)
  x := h2.keep h.x (by simp)
  f := h.f.trans h2
theorem Dh.putx {w W : World} {s : ByteArray} {a : Int} {e : Bool} {y0 y1 y2 y3 y4 y5 : Int} (h : Dh w W s a e (boxed y0 y1 y2 y3 y4 y5)) (x0 x1 x2 x3 x4 x5 : Int) : Dh w (put6 W (w.heap.size + 2) x0 x1 x2 x3 x4 x5) s a e (boxed x0 x1 x2 x3 x4 x5) where
  hg := heap_setCell_some (a := ⟨_, _, none⟩) (by simp) (heap_setCell_some (a := ⟨_, _, none⟩) (by simp) (heap_setCell_some (a := ⟨_, _, none⟩) (by simp) (heap_setCell_some (a := ⟨_, _, none⟩) (by simp) (heap_setCell_some (a := ⟨_, _, none⟩) (by simp) (heap_setCell_some (a := ⟨_, _, none⟩) (by simp) h.hg)))))
  z := heap_setCell_some (a := ⟨_, _, none⟩) (by simp) (heap_setCell_some (a := ⟨_, _, none⟩) (by simp) (heap_setCell_some (a := ⟨_, _, none⟩) (by simp) (heap_setCell_some (a := ⟨_, _, none⟩) (by simp) (heap_setCell_some (a := ⟨_, _, none⟩) (by simp) (heap_setCell_some (a := ⟨_, _, none⟩) (by simp) h.z)))))
  x := by
    have hz := h.x
    unfold boxed at hz
    exact heap_setCell_same (heap_setCell_same (heap_setCell_same (heap_setCell_same (heap_setCell_same (heap_setCell_same hz)))))
  f := (((((h.f.setCell' (a := ⟨_, _, none⟩) (.inr (by simp)) _).setCell' (a := ⟨_, _, none⟩) (.inr (by simp)) _).setCell' (a := ⟨_, _, none⟩) (.inr (by simp)) _).setCell' (a := ⟨_, _, none⟩) (.inr (by simp)) _).setCell' (a := ⟨_, _, none⟩) (.inr (by simp)) _).setCell' (a := ⟨_, _, none⟩) (.inr (by simp)) _
theorem Dh.putz {w W : World} {s : ByteArray} {a : Int} {e : Bool} {x : Obj} (h : Dh w W s a e x) (x0 x1 x2 x3 x4 x5 : Int) : (put6 W w.heap.size x0 x1 x2 x3 x4 x5).heap[w.heap.size]? = some (boxed x0 x1 x2 x3 x4 x5) ∧ Below w.heap.size w (put6 W w.heap.size x0 x1 x2 x3 x4 x5) := by
  constructor
  · have hz := h.z
    unfold boxed at hz
    exact heap_setCell_same (heap_setCell_same (heap_setCell_same (heap_setCell_same (heap_setCell_same (heap_setCell_same hz)))))
  · exact ((((((h.f.setCell' (a := ⟨_, _, none⟩) (.inr (by simp)) _).setCell' (a := ⟨_, _, none⟩) (.inr (by simp)) _).setCell' (a := ⟨_, _, none⟩) (.inr (by simp)) _).setCell' (a := ⟨_, _, none⟩) (.inr (by simp)) _).setCell' (a := ⟨_, _, none⟩) (.inr (by simp)) _).setCell' (a := ⟨_, _, none⟩) (.inr (by simp)) _).below (Nat.le_refl _) (by simp)
theorem Dh.cells {w W : World} {s : ByteArray} {a : Int} {e : Bool} {x0 x1 x2 x3 x4 x5 : Int} (h : Dh w W s a e (boxed x0 x1 x2 x3 x4 x5)) :
    BoxAt W w.heap.size 0 0 0 0 0 0 ∧ BoxAt W (w.heap.size + 2) x0 x1 x2 x3 x4 x5 ∧ (∀ i, W.frozen? ⟨w.heap.size, i, none⟩ = false) ∧ (∀ i, W.frozen? ⟨w.heap.size + 2, i, none⟩ = false) ∧ W.cell? ⟨w.heap.size + 1, 1, none⟩ = some (.int .i64 a) ∧ W.cell? ⟨w.heap.size + 1, 2, none⟩ = some (.bool e) :=
  ⟨box_at h.z, box_at h.x, fun i => by have := h.z; unfold boxed at this; exact frozen_at this i, fun i => by have := h.x; unfold boxed at this; exact frozen_at this i, by have := h.hg; unfold rdO at this; exact cell_at this 1, by have := h.hg; unfold rdO at this; exact cell_at this 2⟩
/-- Encode of one instruction that was just laid. -/
theorem enc_one (x0 x1 x2 x3 x4 x5 : Int) (h5 : 0 ≤ x5 ∧ x5 < 18446744073709551616) (W : World) (B : Nat) (hB : W.heap.size = B) :
    Calls Try.prog 6 #[.slice (some ⟨B, 0, none⟩) 1 1] (W.alloc (.cells #[.int .i64 x0, .int .i64 x1, .int .i64 x2, .int .i64 x3, .int .i64 x4, .int .u64 x5] 32)) fun e W' => e = .returned (.tuple #[.string (encR (encX [⟨x0, x1, x2, x3, x4, x5⟩])).1, .int .i64 (encR (encX [⟨x0, x1, x2, x3, x4, x5⟩])).2]) ∧ Fr [] [] W W' := by
  subst hB
  have hb := heap_alloc_new W (.cells #[.int .i64 x0, .int .i64 x1, .int .i64 x2, .int .i64 x3, .int .i64 x4, .int .u64 x5] 32)
  have add : ∀ m, (⟨W.heap.size, 0, none⟩ : Addr).add m = ⟨W.heap.size, m, none⟩ := fun m => by unfold Addr.add; split <;> simp_all
  have hC : Kd.C k32 (W.alloc (.cells #[.int .i64 x0, .int .i64 x1, .int .i64 x2, .int .i64 x3, .int .i64 x4, .int .u64 x5] 32)) (some ⟨W.heap.size, 0, none⟩) 1 [(⟨x0, x1, x2, x3, x4, x5⟩ : S32)] := by
    refine ⟨rfl, by omega, fun _ => ⟨_, rfl, fun j p hp => ?_⟩⟩
    have hj : j = 0 := by
      have := (List.getElem?_eq_some_iff.1 hp).1
      simp at this
      exact this
    subst hj
    cases hp
    refine ⟨[.int .i64 x0, .int .i64 x1, .int .i64 x2, .int .i64 x3, .int .i64 x4, .int .u64 x5], rfl, ?_, fun i u hu => ?_⟩
    · exact ⟨[_], [_, _, _, _, _], rfl, rfl, [_], [_, _, _, _], rfl, rfl, [_], [_, _, _], rfl, rfl, [_], [_, _], rfl, rfl, [_], [_], rfl, rfl, rfl⟩
    · rw [add, cell_at hb]
      match i, hu with
      | 0, hu => cases hu; rfl
      | 1, hu => cases hu; rfl
      | 2, hu => cases hu; rfl
      | 3, hu => cases hu; rfl
      | 4, hu => cases hu; rfl
      | 5, hu => cases hu; rfl
  have := xenc_calls (some ⟨W.heap.size, 0, none⟩) 1 [(⟨x0, x1, x2, x3, x4, x5⟩ : S32)] _ hC (Nat.le_refl _) (fun b o _ e => by cases e; simp) (fun x hx => by simp at hx; subst hx; exact h5) (by simp)
  refine this.mono ?_
  rintro e W' ⟨rfl, hbl⟩
  exact ⟨rfl, ((Fr.refl [] W).alloc' _).trans (below_fr hbl)⟩
end Go.Proofs.Ytpahjllcomejbaa
