/- The reader's short, way by way; condition: the reader lies in memory. -/
import Derived.Test.YtpahjllcomejbaaRd
set_option linter.unusedVariables false
set_option linter.unusedSimpArgs false
namespace Go.Proofs.Ytpahjllcomejbaa
open Go.RowKit Go.MapKept
open Go.Proofs.YtpahjllcomejbaaW.PrintWords Go.Proofs.YtpahjllcomejbaaW.PrintLast Go.Proofs.YtpahjllcomejbaaW.PrintMore
open PX86Encodes

set_option maxRecDepth 100000 in
set_option maxHeartbeats 4000000 in
theorem short_15 (k g : Nat) (s s1 s2 : ByteArray) (a a1 a2 : Int) (e e1 e2 : Bool) (rex r1 r2 r3 r4 r5 r6 : Int) (half : Bool) (w : World) (hg : w.heap[g]? = some (rdO s a e)) (hn : x86_reader_next.f s a e = some (15, s1, a1, e1)) (hc : x86_reader_long.f k s1 a1 e1 rex = some (r1, r2, r3, r4, r5, r6, s2, a2, e2)) :
  Calls Try.prog 17 #[.pointer (some ⟨g, 0, none⟩), .int .u8 rex, .bool half] w (RdPost w g (.agg #[.int .i64 (r1), .int .i64 (r2), .int .i64 (r3), .int .i64 (r4), .int .i64 (r5), .int .u64 (r6)]) s2 a2 e2) := by
 have HS0 := hide (Sh.start (rex := rex) hg)
 obtain ⟨b0, ⟨c0, c1, c2, c3, c4, c5⟩, ff⟩ := HS0.out.cells
 have f0 := ff 0
 have f1 := ff 1
 have f2 := ff 2
 have f3 := ff 3
 have f4 := ff 4
 have f5 := ff 5
 clear ff
 have hu3 := Try.underlying32
 have HN := hide (rd_next (g := g) hn)
 have HC := hide (rd_long (g := g) hc)
 clear hg hn
 unfold boxed at *
 go_enter Try.func17, Try.ntmps17
 go_wp2_with fail
 refine (HN.out _ HS0.out.hg).mono ?_
 rintro en W1 ⟨rfl, h1, fr1⟩
 have HS1 := hide (HS0.out.next h1 fr1)
 clear h1 fr1 c0 c1 c2 c3 c4 c5 f0 f1 f2 f3 f4 f5 b0
 obtain ⟨b0, ⟨c0, c1, c2, c3, c4, c5⟩, ff⟩ := HS1.out.cells
 have f0 := ff 0
 have f1 := ff 1
 have f2 := ff 2
 have f3 := ff 3
 have f4 := ff 4
 have f5 := ff 5
 clear ff
 go_wp2_with fail
 refine (HC.out _ HS1.out.hg).mono ?_
 rintro en W2 ⟨rfl, h1, fr1⟩
 have HS2 := hide (HS1.out.next h1 fr1)
 clear h1 fr1 c0 c1 c2 c3 c4 c5 f0 f1 f2 f3 f4 f5 b0
 obtain ⟨b0, ⟨c0, c1, c2, c3, c4, c5⟩, ff⟩ := HS2.out.cells
 have f0 := ff 0
 have f1 := ff 1
 have f2 := ff 2
 have f3 := ff 3
 have f4 := ff 4
 have f5 := ff 5
 clear ff
 go_wp2
 obtain ⟨p1, p2, p3⟩ := HS2.out.put (r1) (r2) (r3) (r4) (r5) (r6)
 exact bodyPost_ret (v := .agg #[.int .i64 (r1), .int .i64 (r2), .int .i64 (r3), .int .i64 (r4), .int .i64 (r5), .int .u64 (r6)]) (results_cell_row rfl _ _ (w.heap.size + 1) 32 _ (0, 0) _ rfl p3 hu3 rfl rfl) rfl ⟨rfl, p1, p2⟩
set_option maxRecDepth 100000 in
set_option maxHeartbeats 4000000 in
theorem short_99 (k g : Nat) (s s1 s2 : ByteArray) (a a1 a2 : Int) (e e1 e2 : Bool) (rex r1 r2 r3 r4 r5 r6 : Int) (half : Bool) (w : World) (hg : w.heap[g]? = some (rdO s a e)) (hn : x86_reader_next.f s a e = some (99, s1, a1, e1)) (hc : x86_reader_load.f k s1 a1 e1 rex 4 true = some (r1, r2, r3, r4, r5, r6, s2, a2, e2)) :
  Calls Try.prog 17 #[.pointer (some ⟨g, 0, none⟩), .int .u8 rex, .bool half] w (RdPost w g (.agg #[.int .i64 (r1), .int .i64 (r2), .int .i64 (r3), .int .i64 (r4), .int .i64 (r5), .int .u64 (r6)]) s2 a2 e2) := by
 have HS0 := hide (Sh.start (rex := rex) hg)
 obtain ⟨b0, ⟨c0, c1, c2, c3, c4, c5⟩, ff⟩ := HS0.out.cells
 have f0 := ff 0
 have f1 := ff 1
 have f2 := ff 2
 have f3 := ff 3
 have f4 := ff 4
 have f5 := ff 5
 clear ff
 have hu3 := Try.underlying32
 have HN := hide (rd_next (g := g) hn)
 have HC := hide (rd_load (g := g) hc)
 clear hg hn
 unfold boxed at *
 go_enter Try.func17, Try.ntmps17
 go_wp2_with fail
 refine (HN.out _ HS0.out.hg).mono ?_
 rintro en W1 ⟨rfl, h1, fr1⟩
 have HS1 := hide (HS0.out.next h1 fr1)
 clear h1 fr1 c0 c1 c2 c3 c4 c5 f0 f1 f2 f3 f4 f5 b0
 obtain ⟨b0, ⟨c0, c1, c2, c3, c4, c5⟩, ff⟩ := HS1.out.cells
 have f0 := ff 0
 have f1 := ff 1
 have f2 := ff 2
 have f3 := ff 3
 have f4 := ff 4
 have f5 := ff 5
 clear ff
 go_wp2_with fail
 refine (HC.out _ HS1.out.hg).mono ?_
 rintro en W2 ⟨rfl, h1, fr1⟩
 have HS2 := hide (HS1.out.next h1 fr1)
 clear h1 fr1 c0 c1 c2 c3 c4 c5 f0 f1 f2 f3 f4 f5 b0
 obtain ⟨b0, ⟨c0, c1, c2, c3, c4, c5⟩, ff⟩ := HS2.out.cells
 have f0 := ff 0
 have f1 := ff 1
 have f2 := ff 2
 have f3 := ff 3
 have f4 := ff 4
 have f5 := ff 5
 clear ff
 go_wp2
 obtain ⟨p1, p2, p3⟩ := HS2.out.put (r1) (r2) (r3) (r4) (r5) (r6)
 exact bodyPost_ret (v := .agg #[.int .i64 (r1), .int .i64 (r2), .int .i64 (r3), .int .i64 (r4), .int .i64 (r5), .int .u64 (r6)]) (results_cell_row rfl _ _ (w.heap.size + 1) 32 _ (0, 0) _ rfl p3 hu3 rfl rfl) rfl ⟨rfl, p1, p2⟩
set_option maxRecDepth 100000 in
set_option maxHeartbeats 4000000 in
theorem short_139w (k g : Nat) (s s1 s2 : ByteArray) (a a1 a2 : Int) (e e1 e2 : Bool) (rex r1 r2 r3 r4 r5 r6 : Int) (half : Bool) (w : World) (hg : w.heap[g]? = some (rdO s a e)) (hn : x86_reader_next.f s a e = some (139, s1, a1, e1)) (hc : x86_reader_load.f k s1 a1 e1 rex 8 false = some (r1, r2, r3, r4, r5, r6, s2, a2, e2)) (hw : (bits BinOp.and IntKind.u8 rex 8 != 0) = true) :
  Calls Try.prog 17 #[.pointer (some ⟨g, 0, none⟩), .int .u8 rex, .bool half] w (RdPost w g (.agg #[.int .i64 (r1), .int .i64 (r2), .int .i64 (r3), .int .i64 (r4), .int .i64 (r5), .int .u64 (r6)]) s2 a2 e2) := by
 have HS0 := hide (Sh.start (rex := rex) hg)
 obtain ⟨b0, ⟨c0, c1, c2, c3, c4, c5⟩, ff⟩ := HS0.out.cells
 have f0 := ff 0
 have f1 := ff 1
 have f2 := ff 2
 have f3 := ff 3
 have f4 := ff 4
 have f5 := ff 5
 clear ff
 have hu3 := Try.underlying32
 have HN := hide (rd_next (g := g) hn)
 have HC := hide (rd_load (g := g) hc)
 clear hg hn
 unfold boxed at *
 go_enter Try.func17, Try.ntmps17
 go_wp2_with fail
 refine (HN.out _ HS0.out.hg).mono ?_
 rintro en W1 ⟨rfl, h1, fr1⟩
 have HS1 := hide (HS0.out.next h1 fr1)
 clear h1 fr1 c0 c1 c2 c3 c4 c5 f0 f1 f2 f3 f4 f5 b0
 obtain ⟨b0, ⟨c0, c1, c2, c3, c4, c5⟩, ff⟩ := HS1.out.cells
 have f0 := ff 0
 have f1 := ff 1
 have f2 := ff 2
 have f3 := ff 3
 have f4 := ff 4
 have f5 := ff 5
 clear ff
 go_wp2_with fail
 refine (HC.out _ HS1.out.hg).mono ?_
 rintro en W2 ⟨rfl, h1, fr1⟩
 have HS2 := hide (HS1.out.next h1 fr1)
 clear h1 fr1 c0 c1 c2 c3 c4 c5 f0 f1 f2 f3 f4 f5 b0
 obtain ⟨b0, ⟨c0, c1, c2, c3, c4, c5⟩, ff⟩ := HS2.out.cells
 have f0 := ff 0
 have f1 := ff 1
 have f2 := ff 2
 have f3 := ff 3
 have f4 := ff 4
 have f5 := ff 5
 clear ff
 go_wp2
 obtain ⟨p1, p2, p3⟩ := HS2.out.put (r1) (r2) (r3) (r4) (r5) (r6)
 exact bodyPost_ret (v := .agg #[.int .i64 (r1), .int .i64 (r2), .int .i64 (r3), .int .i64 (r4), .int .i64 (r5), .int .u64 (r6)]) (results_cell_row rfl _ _ (w.heap.size + 1) 32 _ (0, 0) _ rfl p3 hu3 rfl rfl) rfl ⟨rfl, p1, p2⟩
set_option maxRecDepth 100000 in
set_option maxHeartbeats 4000000 in
theorem short_139n (k g : Nat) (s s1 s2 : ByteArray) (a a1 a2 : Int) (e e1 e2 : Bool) (rex r1 r2 r3 r4 r5 r6 : Int) (half : Bool) (w : World) (hg : w.heap[g]? = some (rdO s a e)) (hn : x86_reader_next.f s a e = some (139, s1, a1, e1)) (hc : x86_reader_load.f k s1 a1 e1 rex 4 false = some (r1, r2, r3, r4, r5, r6, s2, a2, e2)) (hw : (bits BinOp.and IntKind.u8 rex 8 != 0) = false) :
  Calls Try.prog 17 #[.pointer (some ⟨g, 0, none⟩), .int .u8 rex, .bool half] w (RdPost w g (.agg #[.int .i64 (r1), .int .i64 (r2), .int .i64 (r3), .int .i64 (r4), .int .i64 (r5), .int .u64 (r6)]) s2 a2 e2) := by
 have HS0 := hide (Sh.start (rex := rex) hg)
 obtain ⟨b0, ⟨c0, c1, c2, c3, c4, c5⟩, ff⟩ := HS0.out.cells
 have f0 := ff 0
 have f1 := ff 1
 have f2 := ff 2
 have f3 := ff 3
 have f4 := ff 4
 have f5 := ff 5
 clear ff
 have hu3 := Try.underlying32
 have HN := hide (rd_next (g := g) hn)
 have HC := hide (rd_load (g := g) hc)
 clear hg hn
 unfold boxed at *
 go_enter Try.func17, Try.ntmps17
 go_wp2_with fail
 refine (HN.out _ HS0.out.hg).mono ?_
 rintro en W1 ⟨rfl, h1, fr1⟩
 have HS1 := hide (HS0.out.next h1 fr1)
 clear h1 fr1 c0 c1 c2 c3 c4 c5 f0 f1 f2 f3 f4 f5 b0
 obtain ⟨b0, ⟨c0, c1, c2, c3, c4, c5⟩, ff⟩ := HS1.out.cells
 have f0 := ff 0
 have f1 := ff 1
 have f2 := ff 2
 have f3 := ff 3
 have f4 := ff 4
 have f5 := ff 5
 clear ff
 go_wp2_with fail
 refine (HC.out _ HS1.out.hg).mono ?_
 rintro en W2 ⟨rfl, h1, fr1⟩
 have HS2 := hide (HS1.out.next h1 fr1)
 clear h1 fr1 c0 c1 c2 c3 c4 c5 f0 f1 f2 f3 f4 f5 b0
 obtain ⟨b0, ⟨c0, c1, c2, c3, c4, c5⟩, ff⟩ := HS2.out.cells
 have f0 := ff 0
 have f1 := ff 1
 have f2 := ff 2
 have f3 := ff 3
 have f4 := ff 4
 have f5 := ff 5
 clear ff
 go_wp2
 obtain ⟨p1, p2, p3⟩ := HS2.out.put (r1) (r2) (r3) (r4) (r5) (r6)
 exact bodyPost_ret (v := .agg #[.int .i64 (r1), .int .i64 (r2), .int .i64 (r3), .int .i64 (r4), .int .i64 (r5), .int .u64 (r6)]) (results_cell_row rfl _ _ (w.heap.size + 1) 32 _ (0, 0) _ rfl p3 hu3 rfl rfl) rfl ⟨rfl, p1, p2⟩
set_option maxRecDepth 100000 in
set_option maxHeartbeats 4000000 in
theorem short_136 (k g : Nat) (s s1 s2 : ByteArray) (a a1 a2 : Int) (e e1 e2 : Bool) (rex r1 r2 r3 r4 r5 r6 : Int) (half : Bool) (w : World) (hg : w.heap[g]? = some (rdO s a e)) (hn : x86_reader_next.f s a e = some (136, s1, a1, e1)) (hc : x86_reader_store.f k s1 a1 e1 rex 1 = some (r1, r2, r3, r4, r5, r6, s2, a2, e2)) :
  Calls Try.prog 17 #[.pointer (some ⟨g, 0, none⟩), .int .u8 rex, .bool half] w (RdPost w g (.agg #[.int .i64 (r1), .int .i64 (r2), .int .i64 (r3), .int .i64 (r4), .int .i64 (r5), .int .u64 (r6)]) s2 a2 e2) := by
 have HS0 := hide (Sh.start (rex := rex) hg)
 obtain ⟨b0, ⟨c0, c1, c2, c3, c4, c5⟩, ff⟩ := HS0.out.cells
 have f0 := ff 0
 have f1 := ff 1
 have f2 := ff 2
 have f3 := ff 3
 have f4 := ff 4
 have f5 := ff 5
 clear ff
 have hu3 := Try.underlying32
 have HN := hide (rd_next (g := g) hn)
 have HC := hide (rd_store (g := g) hc)
 clear hg hn
 unfold boxed at *
 go_enter Try.func17, Try.ntmps17
 go_wp2_with fail
 refine (HN.out _ HS0.out.hg).mono ?_
 rintro en W1 ⟨rfl, h1, fr1⟩
 have HS1 := hide (HS0.out.next h1 fr1)
 clear h1 fr1 c0 c1 c2 c3 c4 c5 f0 f1 f2 f3 f4 f5 b0
 obtain ⟨b0, ⟨c0, c1, c2, c3, c4, c5⟩, ff⟩ := HS1.out.cells
 have f0 := ff 0
 have f1 := ff 1
 have f2 := ff 2
 have f3 := ff 3
 have f4 := ff 4
 have f5 := ff 5
 clear ff
 go_wp2_with fail
 refine (HC.out _ HS1.out.hg).mono ?_
 rintro en W2 ⟨rfl, h1, fr1⟩
 have HS2 := hide (HS1.out.next h1 fr1)
 clear h1 fr1 c0 c1 c2 c3 c4 c5 f0 f1 f2 f3 f4 f5 b0
 obtain ⟨b0, ⟨c0, c1, c2, c3, c4, c5⟩, ff⟩ := HS2.out.cells
 have f0 := ff 0
 have f1 := ff 1
 have f2 := ff 2
 have f3 := ff 3
 have f4 := ff 4
 have f5 := ff 5
 clear ff
 go_wp2
 obtain ⟨p1, p2, p3⟩ := HS2.out.put (r1) (r2) (r3) (r4) (r5) (r6)
 exact bodyPost_ret (v := .agg #[.int .i64 (r1), .int .i64 (r2), .int .i64 (r3), .int .i64 (r4), .int .i64 (r5), .int .u64 (r6)]) (results_cell_row rfl _ _ (w.heap.size + 1) 32 _ (0, 0) _ rfl p3 hu3 rfl rfl) rfl ⟨rfl, p1, p2⟩
set_option maxRecDepth 100000 in
set_option maxHeartbeats 4000000 in
theorem short_137h (k g : Nat) (s s1 s2 : ByteArray) (a a1 a2 : Int) (e e1 e2 : Bool) (rex r1 r2 r3 r4 r5 r6 : Int) (half : Bool) (w : World) (hg : w.heap[g]? = some (rdO s a e)) (hn : x86_reader_next.f s a e = some (137, s1, a1, e1)) (hc : x86_reader_store.f k s1 a1 e1 rex 2 = some (r1, r2, r3, r4, r5, r6, s2, a2, e2)) (hh : half = true) :
  Calls Try.prog 17 #[.pointer (some ⟨g, 0, none⟩), .int .u8 rex, .bool half] w (RdPost w g (.agg #[.int .i64 (r1), .int .i64 (r2), .int .i64 (r3), .int .i64 (r4), .int .i64 (r5), .int .u64 (r6)]) s2 a2 e2) := by
 have HS0 := hide (Sh.start (rex := rex) hg)
 obtain ⟨b0, ⟨c0, c1, c2, c3, c4, c5⟩, ff⟩ := HS0.out.cells
 have f0 := ff 0
 have f1 := ff 1
 have f2 := ff 2
 have f3 := ff 3
 have f4 := ff 4
 have f5 := ff 5
 clear ff
 have hu3 := Try.underlying32
 have HN := hide (rd_next (g := g) hn)
 have HC := hide (rd_store (g := g) hc)
 subst hh
 clear hg hn
 unfold boxed at *
 go_enter Try.func17, Try.ntmps17
 go_wp2_with fail
 refine (HN.out _ HS0.out.hg).mono ?_
 rintro en W1 ⟨rfl, h1, fr1⟩
 have HS1 := hide (HS0.out.next h1 fr1)
 clear h1 fr1 c0 c1 c2 c3 c4 c5 f0 f1 f2 f3 f4 f5 b0
 obtain ⟨b0, ⟨c0, c1, c2, c3, c4, c5⟩, ff⟩ := HS1.out.cells
 have f0 := ff 0
 have f1 := ff 1
 have f2 := ff 2
 have f3 := ff 3
 have f4 := ff 4
 have f5 := ff 5
 clear ff
 go_wp2_with fail
 refine (HC.out _ HS1.out.hg).mono ?_
 rintro en W2 ⟨rfl, h1, fr1⟩
 have HS2 := hide (HS1.out.next h1 fr1)
 clear h1 fr1 c0 c1 c2 c3 c4 c5 f0 f1 f2 f3 f4 f5 b0
 obtain ⟨b0, ⟨c0, c1, c2, c3, c4, c5⟩, ff⟩ := HS2.out.cells
 have f0 := ff 0
 have f1 := ff 1
 have f2 := ff 2
 have f3 := ff 3
 have f4 := ff 4
 have f5 := ff 5
 clear ff
 go_wp2
 obtain ⟨p1, p2, p3⟩ := HS2.out.put (r1) (r2) (r3) (r4) (r5) (r6)
 exact bodyPost_ret (v := .agg #[.int .i64 (r1), .int .i64 (r2), .int .i64 (r3), .int .i64 (r4), .int .i64 (r5), .int .u64 (r6)]) (results_cell_row rfl _ _ (w.heap.size + 1) 32 _ (0, 0) _ rfl p3 hu3 rfl rfl) rfl ⟨rfl, p1, p2⟩
set_option maxRecDepth 100000 in
set_option maxHeartbeats 4000000 in
theorem short_137w (k g : Nat) (s s1 s2 : ByteArray) (a a1 a2 : Int) (e e1 e2 : Bool) (rex r1 r2 r3 r4 r5 r6 : Int) (half : Bool) (w : World) (hg : w.heap[g]? = some (rdO s a e)) (hn : x86_reader_next.f s a e = some (137, s1, a1, e1)) (hc : x86_reader_store.f k s1 a1 e1 rex 8 = some (r1, r2, r3, r4, r5, r6, s2, a2, e2)) (hh : half = false) (hw : (bits BinOp.and IntKind.u8 rex 8 != 0) = true) :
  Calls Try.prog 17 #[.pointer (some ⟨g, 0, none⟩), .int .u8 rex, .bool half] w (RdPost w g (.agg #[.int .i64 (r1), .int .i64 (r2), .int .i64 (r3), .int .i64 (r4), .int .i64 (r5), .int .u64 (r6)]) s2 a2 e2) := by
 have HS0 := hide (Sh.start (rex := rex) hg)
 obtain ⟨b0, ⟨c0, c1, c2, c3, c4, c5⟩, ff⟩ := HS0.out.cells
 have f0 := ff 0
 have f1 := ff 1
 have f2 := ff 2
 have f3 := ff 3
 have f4 := ff 4
 have f5 := ff 5
 clear ff
 have hu3 := Try.underlying32
 have HN := hide (rd_next (g := g) hn)
 have HC := hide (rd_store (g := g) hc)
 subst hh
 clear hg hn
 unfold boxed at *
 go_enter Try.func17, Try.ntmps17
 go_wp2_with fail
 refine (HN.out _ HS0.out.hg).mono ?_
 rintro en W1 ⟨rfl, h1, fr1⟩
 have HS1 := hide (HS0.out.next h1 fr1)
 clear h1 fr1 c0 c1 c2 c3 c4 c5 f0 f1 f2 f3 f4 f5 b0
 obtain ⟨b0, ⟨c0, c1, c2, c3, c4, c5⟩, ff⟩ := HS1.out.cells
 have f0 := ff 0
 have f1 := ff 1
 have f2 := ff 2
 have f3 := ff 3
 have f4 := ff 4
 have f5 := ff 5
 clear ff
 go_wp2_with fail
 refine (HC.out _ HS1.out.hg).mono ?_
 rintro en W2 ⟨rfl, h1, fr1⟩
 have HS2 := hide (HS1.out.next h1 fr1)
 clear h1 fr1 c0 c1 c2 c3 c4 c5 f0 f1 f2 f3 f4 f5 b0
 obtain ⟨b0, ⟨c0, c1, c2, c3, c4, c5⟩, ff⟩ := HS2.out.cells
 have f0 := ff 0
 have f1 := ff 1
 have f2 := ff 2
 have f3 := ff 3
 have f4 := ff 4
 have f5 := ff 5
 clear ff
 go_wp2
 obtain ⟨p1, p2, p3⟩ := HS2.out.put (r1) (r2) (r3) (r4) (r5) (r6)
 exact bodyPost_ret (v := .agg #[.int .i64 (r1), .int .i64 (r2), .int .i64 (r3), .int .i64 (r4), .int .i64 (r5), .int .u64 (r6)]) (results_cell_row rfl _ _ (w.heap.size + 1) 32 _ (0, 0) _ rfl p3 hu3 rfl rfl) rfl ⟨rfl, p1, p2⟩
set_option maxRecDepth 100000 in
set_option maxHeartbeats 4000000 in
theorem short_137n (k g : Nat) (s s1 s2 : ByteArray) (a a1 a2 : Int) (e e1 e2 : Bool) (rex r1 r2 r3 r4 r5 r6 : Int) (half : Bool) (w : World) (hg : w.heap[g]? = some (rdO s a e)) (hn : x86_reader_next.f s a e = some (137, s1, a1, e1)) (hc : x86_reader_store.f k s1 a1 e1 rex 4 = some (r1, r2, r3, r4, r5, r6, s2, a2, e2)) (hh : half = false) (hw : (bits BinOp.and IntKind.u8 rex 8 != 0) = false) :
  Calls Try.prog 17 #[.pointer (some ⟨g, 0, none⟩), .int .u8 rex, .bool half] w (RdPost w g (.agg #[.int .i64 (r1), .int .i64 (r2), .int .i64 (r3), .int .i64 (r4), .int .i64 (r5), .int .u64 (r6)]) s2 a2 e2) := by
 have HS0 := hide (Sh.start (rex := rex) hg)
 obtain ⟨b0, ⟨c0, c1, c2, c3, c4, c5⟩, ff⟩ := HS0.out.cells
 have f0 := ff 0
 have f1 := ff 1
 have f2 := ff 2
 have f3 := ff 3
 have f4 := ff 4
 have f5 := ff 5
 clear ff
 have hu3 := Try.underlying32
 have HN := hide (rd_next (g := g) hn)
 have HC := hide (rd_store (g := g) hc)
 subst hh
 clear hg hn
 unfold boxed at *
 go_enter Try.func17, Try.ntmps17
 go_wp2_with fail
 refine (HN.out _ HS0.out.hg).mono ?_
 rintro en W1 ⟨rfl, h1, fr1⟩
 have HS1 := hide (HS0.out.next h1 fr1)
 clear h1 fr1 c0 c1 c2 c3 c4 c5 f0 f1 f2 f3 f4 f5 b0
 obtain ⟨b0, ⟨c0, c1, c2, c3, c4, c5⟩, ff⟩ := HS1.out.cells
 have f0 := ff 0
 have f1 := ff 1
 have f2 := ff 2
 have f3 := ff 3
 have f4 := ff 4
 have f5 := ff 5
 clear ff
 go_wp2_with fail
 refine (HC.out _ HS1.out.hg).mono ?_
 rintro en W2 ⟨rfl, h1, fr1⟩
 have HS2 := hide (HS1.out.next h1 fr1)
 clear h1 fr1 c0 c1 c2 c3 c4 c5 f0 f1 f2 f3 f4 f5 b0
 obtain ⟨b0, ⟨c0, c1, c2, c3, c4, c5⟩, ff⟩ := HS2.out.cells
 have f0 := ff 0
 have f1 := ff 1
 have f2 := ff 2
 have f3 := ff 3
 have f4 := ff 4
 have f5 := ff 5
 clear ff
 go_wp2
 obtain ⟨p1, p2, p3⟩ := HS2.out.put (r1) (r2) (r3) (r4) (r5) (r6)
 exact bodyPost_ret (v := .agg #[.int .i64 (r1), .int .i64 (r2), .int .i64 (r3), .int .i64 (r4), .int .i64 (r5), .int .u64 (r6)]) (results_cell_row rfl _ _ (w.heap.size + 1) 32 _ (0, 0) _ rfl p3 hu3 rfl rfl) rfl ⟨rfl, p1, p2⟩
end Go.Proofs.Ytpahjllcomejbaa
