/- The reader's short, way by way; condition: the reader lies in memory. -/
import Derived.Test.YtpahjllcomejbaaRd
import Derived.Test.YtpahjllcomejbaaX86Bits
set_option linter.unusedVariables false
set_option linter.unusedSimpArgs false
namespace Go.Proofs.Ytpahjllcomejbaa
open Go.RowKit Go.MapKept
open Go.Proofs.YtpahjllcomejbaaW.PrintWords Go.Proofs.YtpahjllcomejbaaW.PrintLast Go.Proofs.YtpahjllcomejbaaW.PrintMore
open PX86Encodes

def OneRel (w : World) (B g : Nat) (rex : Int) (s : ByteArray) (a : Int) (e : Bool) (T : Nat) (v : Value) (wr : World) : Prop := ∃ i : Nat, i ≤ T ∧ v = .int .i64 (i : Int) ∧ Sh w wr g rex s a e ∧ wr.heap[B]? = some (.cells #[.int .i64 11, .int .i64 12, .int .i64 13, .int .i64 14, .int .i64 15, .int .i64 16] 3 (0, 0))
set_option maxRecDepth 100000 in
set_option maxHeartbeats 4000000 in
theorem short_211_4 (k g : Nat) (s s1 s2 : ByteArray) (a a1 a2 : Int) (e e1 e2 : Bool) (rex r1 r2 r3 r4 r5 r6 : Int) (half : Bool) (w : World) (hg : w.heap[g]? = some (rdO s a e)) (hn : x86_reader_next.f s a e = some (211, s1, a1, e1)) (mem : Bool) (n d : Int) (hc : x86_reader_fields.f s1 a1 e1 rex = some (mem, n, d, s2, a2, e2)) (hv : n % 8 = 4) :
  Calls Try.prog 17 #[.pointer (some ⟨g, 0, none⟩), .int .u8 rex, .bool half] w (RdPost w g (.agg #[.int .i64 (11), .int .i64 (d), .int .i64 (0), .int .i64 (0), .int .i64 (0), .int .u64 (0)]) s2 a2 e2) := by
 have HS0 := hide (Sh.start (rex := rex) hg)
 obtain ⟨b0, ⟨c0, c1, c2, c3, c4, c5⟩, ff⟩ := HS0.out.cells
 have f0 := ff 0
 have f1 := ff 1
 have f2 := ff 2
 have f3 := ff 3
 have f4 := ff 4
 have f5 := ff 5
 clear ff
 have hu3 := Try.underlying32
 have HN := hide (rd_next (g := g) hn)
 have HC := hide (rd_fields (g := g) hc)
 have h7 := and7 n
 rw [hv] at h7
 clear hv
 have HO11 : Hid (∀ W : World, Calls Try.prog 26 #[.int .i64 11] W (TwoPost W (.tuple #[.int .u8 211, .int .i64 4]))) := hide fun W => one_calls 11 W
 have HO12 : Hid (∀ W : World, Calls Try.prog 26 #[.int .i64 12] W (TwoPost W (.tuple #[.int .u8 211, .int .i64 5]))) := hide fun W => one_calls 12 W
 have HO13 : Hid (∀ W : World, Calls Try.prog 26 #[.int .i64 13] W (TwoPost W (.tuple #[.int .u8 211, .int .i64 7]))) := hide fun W => one_calls 13 W
 have HO14 : Hid (∀ W : World, Calls Try.prog 26 #[.int .i64 14] W (TwoPost W (.tuple #[.int .u8 247, .int .i64 3]))) := hide fun W => one_calls 14 W
 have HO15 : Hid (∀ W : World, Calls Try.prog 26 #[.int .i64 15] W (TwoPost W (.tuple #[.int .u8 247, .int .i64 6]))) := hide fun W => one_calls 15 W
 have HO16 : Hid (∀ W : World, Calls Try.prog 26 #[.int .i64 16] W (TwoPost W (.tuple #[.int .u8 247, .int .i64 7]))) := hide fun W => one_calls 16 W
 clear hg hn
 unfold boxed at *
 go_enter Try.func17, Try.ntmps17
 go_wp2_with fail
 refine (HN.out _ HS0.out.hg).mono ?_
 rintro en W1 ⟨rfl, h1, fr1⟩
 have HS1 := hide (HS0.out.next h1 fr1)
 clear h1 fr1 c0 c1 c2 c3 c4 c5 f0 f1 f2 f3 f4 f5 b0
 obtain ⟨b0, ⟨c0, c1, c2, c3, c4, c5⟩, ff⟩ := HS1.out.cells
 have f0 := ff 0
 have f1 := ff 1
 have f2 := ff 2
 have f3 := ff 3
 have f4 := ff 4
 have f5 := ff 5
 clear ff
 go_wp2_with fail
 refine (HC.out _ HS1.out.hg).mono ?_
 rintro en W2 ⟨rfl, h1, fr1⟩
 have HS2 := hide (HS1.out.next h1 fr1)
 clear h1 fr1 c0 c1 c2 c3 c4 c5 f0 f1 f2 f3 f4 f5 b0
 obtain ⟨b0, ⟨c0, c1, c2, c3, c4, c5⟩, ff⟩ := HS2.out.cells
 have f0 := ff 0
 have f1 := ff 1
 have f2 := ff 2
 have f3 := ff 3
 have f4 := ff 4
 have f5 := ff 5
 clear ff
 have HR0 := hide (show OneRel w (W2.heap.size) g rex s2 a2 e2 0 (.int .i64 0) (W2.alloc (.cells #[.int .i64 11, .int .i64 12, .int .i64 13, .int .i64 14, .int .i64 15, .int .i64 16] 3 (0, 0))) from ⟨0, Nat.zero_le _, rfl, HS2.out.more ((Fr.refl [] W2).alloc' _), heap_alloc_new W2 _⟩)
 go_wp2_with fail
 go_loopw [130] (fun v wr => OneRel w (W2.heap.size) g rex s2 a2 e2 0 v wr) (fun v _ => 6 - (intOf v).toNat)
 case atStart => exact HR0.out
 case round =>
  clear c0 c1 c2 c3 c4 c5 f0 f1 f2 f3 f4 f5 b0
  obtain ⟨i, hi, rfl, hsh, hb⟩ := hrel
  have HS3 := hide hsh
  have HB := hide hb
  have L0 := cell_at hb 0
  have L1 := cell_at hb 1
  have L2 := cell_at hb 2
  have L3 := cell_at hb 3
  have L4 := cell_at hb 4
  have L5 := cell_at hb 5
  simp at L0 L1 L2 L3 L4 L5
  clear hsh hb
  obtain ⟨wo, rfl⟩ : ∃ wo : World, wo = wr := ⟨_, rfl⟩
  have hi' : i = 0 := by omega
  clear hi
  subst hi'
  ·
   go_wp2_with fail
   refine (HO11.out _).mono ?_
   rintro en W4 ⟨rfl, fr4⟩
   have HB4 := hide (fr4.keep HB.out (by simp))
   have HS4 := hide (HS3.out.more fr4)
   clear fr4
   obtain ⟨b0, ⟨c0, c1, c2, c3, c4, c5⟩, ff⟩ := HS4.out.cells
   have f0 := ff 0
   have f1 := ff 1
   have f2 := ff 2
   have f3 := ff 3
   have f4 := ff 4
   have f5 := ff 5
   clear ff
   go_wp2
   obtain ⟨p1, p2, p3⟩ := HS4.out.put (11) (d) (0) (0) (0) (0)
   exact bodyPost_ret (v := .agg #[.int .i64 (11), .int .i64 (d), .int .i64 (0), .int .i64 (0), .int .i64 (0), .int .u64 (0)]) (results_cell_row rfl _ _ (w.heap.size + 1) 32 _ (0, 0) _ rfl p3 hu3 rfl rfl) rfl ⟨rfl, p1, p2⟩
set_option maxRecDepth 100000 in
set_option maxHeartbeats 4000000 in
theorem short_211_5 (k g : Nat) (s s1 s2 : ByteArray) (a a1 a2 : Int) (e e1 e2 : Bool) (rex r1 r2 r3 r4 r5 r6 : Int) (half : Bool) (w : World) (hg : w.heap[g]? = some (rdO s a e)) (hn : x86_reader_next.f s a e = some (211, s1, a1, e1)) (mem : Bool) (n d : Int) (hc : x86_reader_fields.f s1 a1 e1 rex = some (mem, n, d, s2, a2, e2)) (hv : n % 8 = 5) :
  Calls Try.prog 17 #[.pointer (some ⟨g, 0, none⟩), .int .u8 rex, .bool half] w (RdPost w g (.agg #[.int .i64 (12), .int .i64 (d), .int .i64 (0), .int .i64 (0), .int .i64 (0), .int .u64 (0)]) s2 a2 e2) := by
 have HS0 := hide (Sh.start (rex := rex) hg)
 obtain ⟨b0, ⟨c0, c1, c2, c3, c4, c5⟩, ff⟩ := HS0.out.cells
 have f0 := ff 0
 have f1 := ff 1
 have f2 := ff 2
 have f3 := ff 3
 have f4 := ff 4
 have f5 := ff 5
 clear ff
 have hu3 := Try.underlying32
 have HN := hide (rd_next (g := g) hn)
 have HC := hide (rd_fields (g := g) hc)
 have h7 := and7 n
 rw [hv] at h7
 clear hv
 have HO11 : Hid (∀ W : World, Calls Try.prog 26 #[.int .i64 11] W (TwoPost W (.tuple #[.int .u8 211, .int .i64 4]))) := hide fun W => one_calls 11 W
 have HO12 : Hid (∀ W : World, Calls Try.prog 26 #[.int .i64 12] W (TwoPost W (.tuple #[.int .u8 211, .int .i64 5]))) := hide fun W => one_calls 12 W
 have HO13 : Hid (∀ W : World, Calls Try.prog 26 #[.int .i64 13] W (TwoPost W (.tuple #[.int .u8 211, .int .i64 7]))) := hide fun W => one_calls 13 W
 have HO14 : Hid (∀ W : World, Calls Try.prog 26 #[.int .i64 14] W (TwoPost W (.tuple #[.int .u8 247, .int .i64 3]))) := hide fun W => one_calls 14 W
 have HO15 : Hid (∀ W : World, Calls Try.prog 26 #[.int .i64 15] W (TwoPost W (.tuple #[.int .u8 247, .int .i64 6]))) := hide fun W => one_calls 15 W
 have HO16 : Hid (∀ W : World, Calls Try.prog 26 #[.int .i64 16] W (TwoPost W (.tuple #[.int .u8 247, .int .i64 7]))) := hide fun W => one_calls 16 W
 clear hg hn
 unfold boxed at *
 go_enter Try.func17, Try.ntmps17
 go_wp2_with fail
 refine (HN.out _ HS0.out.hg).mono ?_
 rintro en W1 ⟨rfl, h1, fr1⟩
 have HS1 := hide (HS0.out.next h1 fr1)
 clear h1 fr1 c0 c1 c2 c3 c4 c5 f0 f1 f2 f3 f4 f5 b0
 obtain ⟨b0, ⟨c0, c1, c2, c3, c4, c5⟩, ff⟩ := HS1.out.cells
 have f0 := ff 0
 have f1 := ff 1
 have f2 := ff 2
 have f3 := ff 3
 have f4 := ff 4
 have f5 := ff 5
 clear ff
 go_wp2_with fail
 refine (HC.out _ HS1.out.hg).mono ?_
 rintro en W2 ⟨rfl, h1, fr1⟩
 have HS2 := hide (HS1.out.next h1 fr1)
 clear h1 fr1 c0 c1 c2 c3 c4 c5 f0 f1 f2 f3 f4 f5 b0
 obtain ⟨b0, ⟨c0, c1, c2, c3, c4, c5⟩, ff⟩ := HS2.out.cells
 have f0 := ff 0
 have f1 := ff 1
 have f2 := ff 2
 have f3 := ff 3
 have f4 := ff 4
 have f5 := ff 5
 clear ff
 have HR0 := hide (show OneRel w (W2.heap.size) g rex s2 a2 e2 1 (.int .i64 0) (W2.alloc (.cells #[.int .i64 11, .int .i64 12, .int .i64 13, .int .i64 14, .int .i64 15, .int .i64 16] 3 (0, 0))) from ⟨0, Nat.zero_le _, rfl, HS2.out.more ((Fr.refl [] W2).alloc' _), heap_alloc_new W2 _⟩)
 go_wp2_with fail
 go_loopw [130] (fun v wr => OneRel w (W2.heap.size) g rex s2 a2 e2 1 v wr) (fun v _ => 6 - (intOf v).toNat)
 case atStart => exact HR0.out
 case round =>
  clear c0 c1 c2 c3 c4 c5 f0 f1 f2 f3 f4 f5 b0
  obtain ⟨i, hi, rfl, hsh, hb⟩ := hrel
  have HS3 := hide hsh
  have HB := hide hb
  have L0 := cell_at hb 0
  have L1 := cell_at hb 1
  have L2 := cell_at hb 2
  have L3 := cell_at hb 3
  have L4 := cell_at hb 4
  have L5 := cell_at hb 5
  simp at L0 L1 L2 L3 L4 L5
  clear hsh hb
  obtain ⟨wo, rfl⟩ : ∃ wo : World, wo = wr := ⟨_, rfl⟩
  have hi' : i = 0 ∨ i = 1 := by omega
  clear hi
  rcases hi' with rfl | rfl
  ·
   go_wp2_with fail
   refine (HO11.out _).mono ?_
   rintro en W4 ⟨rfl, fr4⟩
   have HB4 := hide (fr4.keep HB.out (by simp))
   have HS4 := hide (HS3.out.more fr4)
   clear fr4
   have HX := hide (show OneRel w (W2.heap.size) g rex s2 a2 e2 1 (.int .i64 1) W4 from ⟨1, by omega, rfl, HS4.out, HB4.out⟩)
   go_wp2
   exact ⟨HX.out, by simp [intOf]⟩
  ·
   go_wp2_with fail
   refine (HO12.out _).mono ?_
   rintro en W4 ⟨rfl, fr4⟩
   have HB4 := hide (fr4.keep HB.out (by simp))
   have HS4 := hide (HS3.out.more fr4)
   clear fr4
   obtain ⟨b0, ⟨c0, c1, c2, c3, c4, c5⟩, ff⟩ := HS4.out.cells
   have f0 := ff 0
   have f1 := ff 1
   have f2 := ff 2
   have f3 := ff 3
   have f4 := ff 4
   have f5 := ff 5
   clear ff
   go_wp2
   obtain ⟨p1, p2, p3⟩ := HS4.out.put (12) (d) (0) (0) (0) (0)
   exact bodyPost_ret (v := .agg #[.int .i64 (12), .int .i64 (d), .int .i64 (0), .int .i64 (0), .int .i64 (0), .int .u64 (0)]) (results_cell_row rfl _ _ (w.heap.size + 1) 32 _ (0, 0) _ rfl p3 hu3 rfl rfl) rfl ⟨rfl, p1, p2⟩
set_option maxRecDepth 100000 in
set_option maxHeartbeats 4000000 in
theorem short_211_7 (k g : Nat) (s s1 s2 : ByteArray) (a a1 a2 : Int) (e e1 e2 : Bool) (rex r1 r2 r3 r4 r5 r6 : Int) (half : Bool) (w : World) (hg : w.heap[g]? = some (rdO s a e)) (hn : x86_reader_next.f s a e = some (211, s1, a1, e1)) (mem : Bool) (n d : Int) (hc : x86_reader_fields.f s1 a1 e1 rex = some (mem, n, d, s2, a2, e2)) (hv : n % 8 = 7) :
  Calls Try.prog 17 #[.pointer (some ⟨g, 0, none⟩), .int .u8 rex, .bool half] w (RdPost w g (.agg #[.int .i64 (13), .int .i64 (d), .int .i64 (0), .int .i64 (0), .int .i64 (0), .int .u64 (0)]) s2 a2 e2) := by
 have HS0 := hide (Sh.start (rex := rex) hg)
 obtain ⟨b0, ⟨c0, c1, c2, c3, c4, c5⟩, ff⟩ := HS0.out.cells
 have f0 := ff 0
 have f1 := ff 1
 have f2 := ff 2
 have f3 := ff 3
 have f4 := ff 4
 have f5 := ff 5
 clear ff
 have hu3 := Try.underlying32
 have HN := hide (rd_next (g := g) hn)
 have HC := hide (rd_fields (g := g) hc)
 have h7 := and7 n
 rw [hv] at h7
 clear hv
 have HO11 : Hid (∀ W : World, Calls Try.prog 26 #[.int .i64 11] W (TwoPost W (.tuple #[.int .u8 211, .int .i64 4]))) := hide fun W => one_calls 11 W
 have HO12 : Hid (∀ W : World, Calls Try.prog 26 #[.int .i64 12] W (TwoPost W (.tuple #[.int .u8 211, .int .i64 5]))) := hide fun W => one_calls 12 W
 have HO13 : Hid (∀ W : World, Calls Try.prog 26 #[.int .i64 13] W (TwoPost W (.tuple #[.int .u8 211, .int .i64 7]))) := hide fun W => one_calls 13 W
 have HO14 : Hid (∀ W : World, Calls Try.prog 26 #[.int .i64 14] W (TwoPost W (.tuple #[.int .u8 247, .int .i64 3]))) := hide fun W => one_calls 14 W
 have HO15 : Hid (∀ W : World, Calls Try.prog 26 #[.int .i64 15] W (TwoPost W (.tuple #[.int .u8 247, .int .i64 6]))) := hide fun W => one_calls 15 W
 have HO16 : Hid (∀ W : World, Calls Try.prog 26 #[.int .i64 16] W (TwoPost W (.tuple #[.int .u8 247, .int .i64 7]))) := hide fun W => one_calls 16 W
 clear hg hn
 unfold boxed at *
 go_enter Try.func17, Try.ntmps17
 go_wp2_with fail
 refine (HN.out _ HS0.out.hg).mono ?_
 rintro en W1 ⟨rfl, h1, fr1⟩
 have HS1 := hide (HS0.out.next h1 fr1)
 clear h1 fr1 c0 c1 c2 c3 c4 c5 f0 f1 f2 f3 f4 f5 b0
 obtain ⟨b0, ⟨c0, c1, c2, c3, c4, c5⟩, ff⟩ := HS1.out.cells
 have f0 := ff 0
 have f1 := ff 1
 have f2 := ff 2
 have f3 := ff 3
 have f4 := ff 4
 have f5 := ff 5
 clear ff
 go_wp2_with fail
 refine (HC.out _ HS1.out.hg).mono ?_
 rintro en W2 ⟨rfl, h1, fr1⟩
 have HS2 := hide (HS1.out.next h1 fr1)
 clear h1 fr1 c0 c1 c2 c3 c4 c5 f0 f1 f2 f3 f4 f5 b0
 obtain ⟨b0, ⟨c0, c1, c2, c3, c4, c5⟩, ff⟩ := HS2.out.cells
 have f0 := ff 0
 have f1 := ff 1
 have f2 := ff 2
 have f3 := ff 3
 have f4 := ff 4
 have f5 := ff 5
 clear ff
 have HR0 := hide (show OneRel w (W2.heap.size) g rex s2 a2 e2 2 (.int .i64 0) (W2.alloc (.cells #[.int .i64 11, .int .i64 12, .int .i64 13, .int .i64 14, .int .i64 15, .int .i64 16] 3 (0, 0))) from ⟨0, Nat.zero_le _, rfl, HS2.out.more ((Fr.refl [] W2).alloc' _), heap_alloc_new W2 _⟩)
 go_wp2_with fail
 go_loopw [130] (fun v wr => OneRel w (W2.heap.size) g rex s2 a2 e2 2 v wr) (fun v _ => 6 - (intOf v).toNat)
 case atStart => exact HR0.out
 case round =>
  clear c0 c1 c2 c3 c4 c5 f0 f1 f2 f3 f4 f5 b0
  obtain ⟨i, hi, rfl, hsh, hb⟩ := hrel
  have HS3 := hide hsh
  have HB := hide hb
  have L0 := cell_at hb 0
  have L1 := cell_at hb 1
  have L2 := cell_at hb 2
  have L3 := cell_at hb 3
  have L4 := cell_at hb 4
  have L5 := cell_at hb 5
  simp at L0 L1 L2 L3 L4 L5
  clear hsh hb
  obtain ⟨wo, rfl⟩ : ∃ wo : World, wo = wr := ⟨_, rfl⟩
  have hi' : i = 0 ∨ i = 1 ∨ i = 2 := by omega
  clear hi
  rcases hi' with rfl | rfl | rfl
  ·
   go_wp2_with fail
   refine (HO11.out _).mono ?_
   rintro en W4 ⟨rfl, fr4⟩
   have HB4 := hide (fr4.keep HB.out (by simp))
   have HS4 := hide (HS3.out.more fr4)
   clear fr4
   have HX := hide (show OneRel w (W2.heap.size) g rex s2 a2 e2 2 (.int .i64 1) W4 from ⟨1, by omega, rfl, HS4.out, HB4.out⟩)
   go_wp2
   exact ⟨HX.out, by simp [intOf]⟩
  ·
   go_wp2_with fail
   refine (HO12.out _).mono ?_
   rintro en W4 ⟨rfl, fr4⟩
   have HB4 := hide (fr4.keep HB.out (by simp))
   have HS4 := hide (HS3.out.more fr4)
   clear fr4
   have HX := hide (show OneRel w (W2.heap.size) g rex s2 a2 e2 2 (.int .i64 2) W4 from ⟨2, by omega, rfl, HS4.out, HB4.out⟩)
   go_wp2
   exact ⟨HX.out, by simp [intOf]⟩
  ·
   go_wp2_with fail
   refine (HO13.out _).mono ?_
   rintro en W4 ⟨rfl, fr4⟩
   have HB4 := hide (fr4.keep HB.out (by simp))
   have HS4 := hide (HS3.out.more fr4)
   clear fr4
   obtain ⟨b0, ⟨c0, c1, c2, c3, c4, c5⟩, ff⟩ := HS4.out.cells
   have f0 := ff 0
   have f1 := ff 1
   have f2 := ff 2
   have f3 := ff 3
   have f4 := ff 4
   have f5 := ff 5
   clear ff
   go_wp2
   obtain ⟨p1, p2, p3⟩ := HS4.out.put (13) (d) (0) (0) (0) (0)
   exact bodyPost_ret (v := .agg #[.int .i64 (13), .int .i64 (d), .int .i64 (0), .int .i64 (0), .int .i64 (0), .int .u64 (0)]) (results_cell_row rfl _ _ (w.heap.size + 1) 32 _ (0, 0) _ rfl p3 hu3 rfl rfl) rfl ⟨rfl, p1, p2⟩
set_option maxRecDepth 100000 in
set_option maxHeartbeats 4000000 in
theorem short_211_no (k g : Nat) (s s1 s2 : ByteArray) (a a1 a2 : Int) (e e1 e2 : Bool) (rex r1 r2 r3 r4 r5 r6 : Int) (half : Bool) (w : World) (hg : w.heap[g]? = some (rdO s a e)) (hn : x86_reader_next.f s a e = some (211, s1, a1, e1)) (mem : Bool) (n d : Int) (hc : x86_reader_fields.f s1 a1 e1 rex = some (mem, n, d, s2, a2, e2)) (hv : n % 8 ≠ 4 ∧ n % 8 ≠ 5 ∧ n % 8 ≠ 7) :
  Calls Try.prog 17 #[.pointer (some ⟨g, 0, none⟩), .int .u8 rex, .bool half] w (RdPost w g (.agg #[.int .i64 (0), .int .i64 (0), .int .i64 (0), .int .i64 (0), .int .i64 (0), .int .u64 (0)]) s2 a2 e2) := by
 have HS0 := hide (Sh.start (rex := rex) hg)
 obtain ⟨b0, ⟨c0, c1, c2, c3, c4, c5⟩, ff⟩ := HS0.out.cells
 have f0 := ff 0
 have f1 := ff 1
 have f2 := ff 2
 have f3 := ff 3
 have f4 := ff 4
 have f5 := ff 5
 clear ff
 have hu3 := Try.underlying32
 have HN := hide (rd_next (g := g) hn)
 have HC := hide (rd_fields (g := g) hc)
 have h7 := and7 n
 have hm4 : ((4 : Int) == bits BinOp.and IntKind.i64 n 7) = false := by rw [h7, beq_eq_false_iff_ne]; omega
 have hm5 : ((5 : Int) == bits BinOp.and IntKind.i64 n 7) = false := by rw [h7, beq_eq_false_iff_ne]; omega
 have hm7 : ((7 : Int) == bits BinOp.and IntKind.i64 n 7) = false := by rw [h7, beq_eq_false_iff_ne]; omega
 clear h7 hv
 have HO11 : Hid (∀ W : World, Calls Try.prog 26 #[.int .i64 11] W (TwoPost W (.tuple #[.int .u8 211, .int .i64 4]))) := hide fun W => one_calls 11 W
 have HO12 : Hid (∀ W : World, Calls Try.prog 26 #[.int .i64 12] W (TwoPost W (.tuple #[.int .u8 211, .int .i64 5]))) := hide fun W => one_calls 12 W
 have HO13 : Hid (∀ W : World, Calls Try.prog 26 #[.int .i64 13] W (TwoPost W (.tuple #[.int .u8 211, .int .i64 7]))) := hide fun W => one_calls 13 W
 have HO14 : Hid (∀ W : World, Calls Try.prog 26 #[.int .i64 14] W (TwoPost W (.tuple #[.int .u8 247, .int .i64 3]))) := hide fun W => one_calls 14 W
 have HO15 : Hid (∀ W : World, Calls Try.prog 26 #[.int .i64 15] W (TwoPost W (.tuple #[.int .u8 247, .int .i64 6]))) := hide fun W => one_calls 15 W
 have HO16 : Hid (∀ W : World, Calls Try.prog 26 #[.int .i64 16] W (TwoPost W (.tuple #[.int .u8 247, .int .i64 7]))) := hide fun W => one_calls 16 W
 clear hg hn
 unfold boxed at *
 go_enter Try.func17, Try.ntmps17
 go_wp2_with fail
 refine (HN.out _ HS0.out.hg).mono ?_
 rintro en W1 ⟨rfl, h1, fr1⟩
 have HS1 := hide (HS0.out.next h1 fr1)
 clear h1 fr1 c0 c1 c2 c3 c4 c5 f0 f1 f2 f3 f4 f5 b0
 obtain ⟨b0, ⟨c0, c1, c2, c3, c4, c5⟩, ff⟩ := HS1.out.cells
 have f0 := ff 0
 have f1 := ff 1
 have f2 := ff 2
 have f3 := ff 3
 have f4 := ff 4
 have f5 := ff 5
 clear ff
 go_wp2_with fail
 refine (HC.out _ HS1.out.hg).mono ?_
 rintro en W2 ⟨rfl, h1, fr1⟩
 have HS2 := hide (HS1.out.next h1 fr1)
 clear h1 fr1 c0 c1 c2 c3 c4 c5 f0 f1 f2 f3 f4 f5 b0
 obtain ⟨b0, ⟨c0, c1, c2, c3, c4, c5⟩, ff⟩ := HS2.out.cells
 have f0 := ff 0
 have f1 := ff 1
 have f2 := ff 2
 have f3 := ff 3
 have f4 := ff 4
 have f5 := ff 5
 clear ff
 have HR0 := hide (show OneRel w (W2.heap.size) g rex s2 a2 e2 6 (.int .i64 0) (W2.alloc (.cells #[.int .i64 11, .int .i64 12, .int .i64 13, .int .i64 14, .int .i64 15, .int .i64 16] 3 (0, 0))) from ⟨0, Nat.zero_le _, rfl, HS2.out.more ((Fr.refl [] W2).alloc' _), heap_alloc_new W2 _⟩)
 go_wp2_with fail
 go_loopw [130] (fun v wr => OneRel w (W2.heap.size) g rex s2 a2 e2 6 v wr) (fun v _ => 6 - (intOf v).toNat)
 case atStart => exact HR0.out
 case round =>
  clear c0 c1 c2 c3 c4 c5 f0 f1 f2 f3 f4 f5 b0
  obtain ⟨i, hi, rfl, hsh, hb⟩ := hrel
  have HS3 := hide hsh
  have HB := hide hb
  have L0 := cell_at hb 0
  have L1 := cell_at hb 1
  have L2 := cell_at hb 2
  have L3 := cell_at hb 3
  have L4 := cell_at hb 4
  have L5 := cell_at hb 5
  simp at L0 L1 L2 L3 L4 L5
  clear hsh hb
  obtain ⟨wo, rfl⟩ : ∃ wo : World, wo = wr := ⟨_, rfl⟩
  have hi' : i = 0 ∨ i = 1 ∨ i = 2 ∨ i = 3 ∨ i = 4 ∨ i = 5 ∨ i = 6 := by omega
  clear hi
  rcases hi' with rfl | rfl | rfl | rfl | rfl | rfl | rfl
  ·
   go_wp2_with fail
   refine (HO11.out _).mono ?_
   rintro en W4 ⟨rfl, fr4⟩
   have HB4 := hide (fr4.keep HB.out (by simp))
   have HS4 := hide (HS3.out.more fr4)
   clear fr4
   have HX := hide (show OneRel w (W2.heap.size) g rex s2 a2 e2 6 (.int .i64 1) W4 from ⟨1, by omega, rfl, HS4.out, HB4.out⟩)
   go_wp2
   exact ⟨HX.out, by simp [intOf]⟩
  ·
   go_wp2_with fail
   refine (HO12.out _).mono ?_
   rintro en W4 ⟨rfl, fr4⟩
   have HB4 := hide (fr4.keep HB.out (by simp))
   have HS4 := hide (HS3.out.more fr4)
   clear fr4
   have HX := hide (show OneRel w (W2.heap.size) g rex s2 a2 e2 6 (.int .i64 2) W4 from ⟨2, by omega, rfl, HS4.out, HB4.out⟩)
   go_wp2
   exact ⟨HX.out, by simp [intOf]⟩
  ·
   go_wp2_with fail
   refine (HO13.out _).mono ?_
   rintro en W4 ⟨rfl, fr4⟩
   have HB4 := hide (fr4.keep HB.out (by simp))
   have HS4 := hide (HS3.out.more fr4)
   clear fr4
   have HX := hide (show OneRel w (W2.heap.size) g rex s2 a2 e2 6 (.int .i64 3) W4 from ⟨3, by omega, rfl, HS4.out, HB4.out⟩)
   go_wp2
   exact ⟨HX.out, by simp [intOf]⟩
  ·
   go_wp2_with fail
   refine (HO14.out _).mono ?_
   rintro en W4 ⟨rfl, fr4⟩
   have HB4 := hide (fr4.keep HB.out (by simp))
   have HS4 := hide (HS3.out.more fr4)
   clear fr4
   have HX := hide (show OneRel w (W2.heap.size) g rex s2 a2 e2 6 (.int .i64 4) W4 from ⟨4, by omega, rfl, HS4.out, HB4.out⟩)
   go_wp2
   exact ⟨HX.out, by simp [intOf]⟩
  ·
   go_wp2_with fail
   refine (HO15.out _).mono ?_
   rintro en W4 ⟨rfl, fr4⟩
   have HB4 := hide (fr4.keep HB.out (by simp))
   have HS4 := hide (HS3.out.more fr4)
   clear fr4
   have HX := hide (show OneRel w (W2.heap.size) g rex s2 a2 e2 6 (.int .i64 5) W4 from ⟨5, by omega, rfl, HS4.out, HB4.out⟩)
   go_wp2
   exact ⟨HX.out, by simp [intOf]⟩
  ·
   go_wp2_with fail
   refine (HO16.out _).mono ?_
   rintro en W4 ⟨rfl, fr4⟩
   have HB4 := hide (fr4.keep HB.out (by simp))
   have HS4 := hide (HS3.out.more fr4)
   clear fr4
   have HX := hide (show OneRel w (W2.heap.size) g rex s2 a2 e2 6 (.int .i64 6) W4 from ⟨6, by omega, rfl, HS4.out, HB4.out⟩)
   go_wp2
   exact ⟨HX.out, by simp [intOf]⟩
  ·
   obtain ⟨b0, ⟨c0, c1, c2, c3, c4, c5⟩, ff⟩ := HS3.out.cells
   have f0 := ff 0
   have f1 := ff 1
   have f2 := ff 2
   have f3 := ff 3
   have f4 := ff 4
   have f5 := ff 5
   clear ff
   go_wp2
   obtain ⟨p1, p2, p3⟩ := HS3.out.put (0) (0) (0) (0) (0) (0)
   exact bodyPost_ret (v := .agg #[.int .i64 (0), .int .i64 (0), .int .i64 (0), .int .i64 (0), .int .i64 (0), .int .u64 (0)]) (results_cell_row rfl _ _ (w.heap.size + 1) 32 _ (0, 0) _ rfl p3 hu3 rfl rfl) rfl ⟨rfl, p1, p2⟩
end Go.Proofs.Ytpahjllcomejbaa
