/- The reader: what a memory holds for it, and its methods' contracts told by that; condition: the reader lies in memory. -/
import Derived.Test.YtpahjllcomejbaaLayAll
import Derived.Test.YtpahjllcomejbaaPX86Encodesx5
set_option linter.unusedVariables false
set_option linter.unusedSimpArgs false
namespace Go.Proofs.Ytpahjllcomejbaa
open Go.RowKit Go.MapKept
open Go.Proofs.YtpahjllcomejbaaW.PrintWords Go.Proofs.YtpahjllcomejbaaW.PrintLast Go.Proofs.YtpahjllcomejbaaW.PrintMore
open PX86Encodes

def rdO (s : ByteArray) (a : Int) (e : Bool) : Obj := .cells #[.string s, .int .i64 a, .bool e] 47 (0, 0)
def RdPost (w : World) (g : Nat) (v : Value) (s : ByteArray) (a : Int) (e : Bool) (en : Ending) (w' : World) : Prop := en = .returned v ∧ w'.heap[g]? = some (rdO s a e) ∧ Fr [g] [g] w w'
theorem rd_in {w : World} {g : Nat} {s : ByteArray} {a : Int} {e : Bool} (h : w.heap[g]? = some (rdO s a e)) : IsS47 { w with heap := #[] } w g s a e ∧ Below ({ w with heap := #[] } : World).heap.size { w with heap := #[] } w :=
  ⟨⟨h, Nat.zero_le _⟩, ⟨rfl, rfl, rfl, Nat.zero_le _, fun k hk => by simp at hk⟩⟩
theorem rd_out {w : World} {g : Nat} {s : ByteArray} {a : Int} {e : Bool} {v : Value} {en : Ending} {w' : World} (h : en = .returned v ∧ IsS47 { w with heap := #[] } w' g s a e ∧ Below ({ w with heap := #[] } : World).heap.size { w with heap := #[] } w' ∧ KeepBut w w' g none) : RdPost w g v s a e en w' := by
  obtain ⟨h1, h2, h3, h4⟩ := h
  exact ⟨h1, h2.1, h3.os, h3.tape, h3.output, h4.1, fun k hk hn => h4.2 k hk (fun c => hn (by simp [c])) (by simp), fun k hk => .inl hk⟩
theorem rd_next {g : Nat} {s : ByteArray} {a : Int} {e : Bool} {r1 : Int} {s' : ByteArray} {a' : Int} {e' : Bool} (h : x86_reader_next.f s a e = some (r1, s', a', e')) (w : World) (hg : w.heap[g]? = some (rdO s a e)) :
    Calls Try.prog 14 #[.pointer (some ⟨g, 0, none⟩)] w (RdPost w g (.int .u8 r1) s' a' e') :=
  (x86_reader_next.calls g s a e r1 s' a' e' _ w (rd_in hg).1 (rd_in hg).2 h).mono fun _ _ hp => rd_out hp
theorem rd_imm {k g : Nat} {s : ByteArray} {a : Int} {e : Bool} {r1 : Int} {s' : ByteArray} {a' : Int} {e' : Bool} (h : x86_reader_imm.f k s a e = some (r1, s', a', e')) (w : World) (hg : w.heap[g]? = some (rdO s a e)) :
    Calls Try.prog 15 #[.pointer (some ⟨g, 0, none⟩)] w (RdPost w g (.int .i64 r1) s' a' e') :=
  (x86_reader_imm.calls k g s a e r1 s' a' e' _ w (rd_in hg).1 (rd_in hg).2 h).mono fun _ _ hp => rd_out hp
theorem rd_number {k g : Nat} {s : ByteArray} {a : Int} {e : Bool} {m r1 : Int} {s' : ByteArray} {a' : Int} {e' : Bool} (h : x86_reader_number.f k s a e m = some (r1, s', a', e')) (w : World) (hg : w.heap[g]? = some (rdO s a e)) :
    Calls Try.prog 31 #[.pointer (some ⟨g, 0, none⟩), .int .i64 m] w (RdPost w g (.int .u64 r1) s' a' e') :=
  (x86_reader_number.calls k g s a e m r1 s' a' e' _ w (rd_in hg).1 (rd_in hg).2 h).mono fun _ _ hp => rd_out hp
theorem rd_fields {g : Nat} {s : ByteArray} {a : Int} {e : Bool} {x r2 r3 : Int} {r1 : Bool} {s' : ByteArray} {a' : Int} {e' : Bool} (h : x86_reader_fields.f s a e x = some (r1, r2, r3, s', a', e')) (w : World) (hg : w.heap[g]? = some (rdO s a e)) :
    Calls Try.prog 32 #[.pointer (some ⟨g, 0, none⟩), .int .u8 x] w (RdPost w g (.tuple #[.bool r1, .int .i64 r2, .int .i64 r3]) s' a' e') :=
  (x86_reader_fields.calls g s a e x r1 r2 r3 s' a' e' _ w (rd_in hg).1 (rd_in hg).2 h).mono fun _ _ hp => rd_out hp
theorem rd_load {k g : Nat} {s : ByteArray} {a : Int} {e : Bool} {x m : Int} {q : Bool} {r1 r2 r3 r4 r5 r6 : Int} {s' : ByteArray} {a' : Int} {e' : Bool} (h : x86_reader_load.f k s a e x m q = some (r1, r2, r3, r4, r5, r6, s', a', e')) (w : World) (hg : w.heap[g]? = some (rdO s a e)) :
    Calls Try.prog 33 #[.pointer (some ⟨g, 0, none⟩), .int .u8 x, .int .i64 m, .bool q] w (RdPost w g (.agg #[.int .i64 r1, .int .i64 r2, .int .i64 r3, .int .i64 r4, .int .i64 r5, .int .u64 r6]) s' a' e') :=
  (x86_reader_load.calls k g s a e x m q r1 r2 r3 r4 r5 r6 s' a' e' _ w (rd_in hg).1 (rd_in hg).2 h).mono fun _ _ hp => rd_out hp
theorem rd_store {k g : Nat} {s : ByteArray} {a : Int} {e : Bool} {x m : Int} {r1 r2 r3 r4 r5 r6 : Int} {s' : ByteArray} {a' : Int} {e' : Bool} (h : x86_reader_store.f k s a e x m = some (r1, r2, r3, r4, r5, r6, s', a', e')) (w : World) (hg : w.heap[g]? = some (rdO s a e)) :
    Calls Try.prog 35 #[.pointer (some ⟨g, 0, none⟩), .int .u8 x, .int .i64 m] w (RdPost w g (.agg #[.int .i64 r1, .int .i64 r2, .int .i64 r3, .int .i64 r4, .int .i64 r5, .int .u64 r6]) s' a' e') :=
  (x86_reader_store.calls k g s a e x m r1 r2 r3 r4 r5 r6 s' a' e' _ w (rd_in hg).1 (rd_in hg).2 h).mono fun _ _ hp => rd_out hp
theorem rd_long {k g : Nat} {s : ByteArray} {a : Int} {e : Bool} {x : Int} {r1 r2 r3 r4 r5 r6 : Int} {s' : ByteArray} {a' : Int} {e' : Bool} (h : x86_reader_long.f k s a e x = some (r1, r2, r3, r4, r5, r6, s', a', e')) (w : World) (hg : w.heap[g]? = some (rdO s a e)) :
    Calls Try.prog 16 #[.pointer (some ⟨g, 0, none⟩), .int .u8 x] w (RdPost w g (.agg #[.int .i64 r1, .int .i64 r2, .int .i64 r3, .int .i64 r4, .int .i64 r5, .int .u64 r6]) s' a' e') :=
  (x86_reader_long.calls k g s a e x r1 r2 r3 r4 r5 r6 s' a' e' _ w (rd_in hg).1 (rd_in hg).2 h).mono fun _ _ hp => rd_out hp
/-- What the walk of short has at hand: the world behind a call, the prefix's box and the result's box there. -/
structure Sh (w W : World) (g : Nat) (rex : Int) (s : ByteArray) (a : Int) (e : Bool) : Prop where
  hg : W.heap[g]? = some (rdO s a e)
  f : Fr [g] [g] w W
  r : W.heap[w.heap.size]? = some (.cells #[.int .u8 rex] 5 (0, 0))
  z : W.heap[w.heap.size + 1]? = some (boxed 0 0 0 0 0 0)
  n : g < w.heap.size
theorem Sh.start {w : World} {g : Nat} {rex : Int} {s : ByteArray} {a : Int} {e : Bool} (hg : w.heap[g]? = some (rdO s a e)) :
    Sh w ((w.alloc (.cells #[.int .u8 rex] 5)).alloc (boxed 0 0 0 0 0 0)) g rex s a e where
  hg := heap_alloc_some (heap_alloc_some hg)
  f := ((Fr.refl [g] w).alloc' _).alloc' _
  r := heap_alloc_some (heap_alloc_new w _)
  z := by have := heap_alloc_new (w.alloc (.cells #[.int .u8 rex] 5)) (boxed 0 0 0 0 0 0); simpa using this
  n := lt_of_heap hg
theorem Sh.next {w W W' : World} {g : Nat} {rex : Int} {s s' : ByteArray} {a a' : Int} {e e' : Bool} (h : Sh w W g rex s a e) (h1 : W'.heap[g]? = some (rdO s' a' e')) (h2 : Fr [g] [g] W W') : Sh w W' g rex s' a' e' where
  hg := h1
  f := h.f.trans h2
  r := h2.keep h.r (by have := h.n; simp; omega)
  z := h2.keep h.z (by have := h.n; simp; omega)
  n := h.n
theorem Sh.more {w W W' : World} {g : Nat} {rex : Int} {s : ByteArray} {a : Int} {e : Bool} (h : Sh w W g rex s a e) (h2 : Fr [] [] W W') : Sh w W' g rex s a e where
  hg := h2.keep h.hg (by simp)
  f := h.f.more h2
  r := h2.keep h.r (by simp)
  z := h2.keep h.z (by simp)
  n := h.n
theorem Sh.cells {w W : World} {g : Nat} {rex : Int} {s : ByteArray} {a : Int} {e : Bool} (h : Sh w W g rex s a e) : W.cell? ⟨w.heap.size, 0, none⟩ = some (.int .u8 rex) ∧ BoxAt W (w.heap.size + 1) 0 0 0 0 0 0 ∧ (∀ i, W.frozen? ⟨w.heap.size + 1, i, none⟩ = false) :=
  ⟨cell_at h.r 0, box_at h.z, fun i => by have := h.z; unfold boxed at this; exact frozen_at this i⟩
/-- The result is written, and told. -/
def put6 (W : World) (b : Nat) (x0 x1 x2 x3 x4 x5 : Int) : World := (((((W.setCell ⟨b, 0, none⟩ (.int .i64 x0)).setCell ⟨b, 1, none⟩ (.int .i64 x1)).setCell ⟨b, 2, none⟩ (.int .i64 x2)).setCell ⟨b, 3, none⟩ (.int .i64 x3)).setCell ⟨b, 4, none⟩ (.int .i64 x4)).setCell ⟨b, 5, none⟩ (.int .u64 x5)
theorem Sh.put {w W : World} {g : Nat} {rex : Int} {s : ByteArray} {a : Int} {e : Bool} (h : Sh w W g rex s a e) (x0 x1 x2 x3 x4 x5 : Int) :
    (put6 W (w.heap.size + 1) x0 x1 x2 x3 x4 x5).heap[g]? = some (rdO s a e) ∧ Fr [g] [g] w (put6 W (w.heap.size + 1) x0 x1 x2 x3 x4 x5) ∧ (put6 W (w.heap.size + 1) x0 x1 x2 x3 x4 x5).heap[w.heap.size + 1]? = some (boxed x0 x1 x2 x3 x4 x5) := by
  have hn := h.n
  have key : ∀ (W : World) (i : Nat) (u : Value), W.heap[g]? = some (rdO s a e) → Fr [g] [g] w W → (W.setCell ⟨w.heap.size + 1, i, none⟩ u).heap[g]? = some (rdO s a e) ∧ Fr [g] [g] w (W.setCell ⟨w.heap.size + 1, i, none⟩ u) := fun W i u h1 h2 =>
    ⟨heap_setCell_some (a := ⟨w.heap.size + 1, i, none⟩) (by show w.heap.size + 1 ≠ g; omega) h1, h2.setCell' (.inr (by show w.heap.size ≤ w.heap.size + 1; omega)) u⟩
  obtain ⟨a0, b0⟩ := key W 0 (.int .i64 x0) h.hg h.f
  obtain ⟨a1, b1⟩ := key _ 1 (.int .i64 x1) a0 b0
  obtain ⟨a2, b2⟩ := key _ 2 (.int .i64 x2) a1 b1
  obtain ⟨a3, b3⟩ := key _ 3 (.int .i64 x3) a2 b2
  obtain ⟨a4, b4⟩ := key _ 4 (.int .i64 x4) a3 b3
  obtain ⟨a5, b5⟩ := key _ 5 (.int .u64 x5) a4 b4
  refine ⟨a5, b5, ?_⟩
  have hz := h.z
  unfold boxed at hz
  exact heap_setCell_same (heap_setCell_same (heap_setCell_same (heap_setCell_same (heap_setCell_same (heap_setCell_same hz)))))
end Go.Proofs.Ytpahjllcomejbaa
