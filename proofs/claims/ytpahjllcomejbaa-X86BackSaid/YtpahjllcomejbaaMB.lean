/- The reader's short, way by way; condition: the reader lies in memory. -/
import Derived.Test.YtpahjllcomejbaaRd
import Derived.Test.YtpahjllcomejbaaX86Bits
import Derived.Test.YtpahjllcomejbaaXEnc
set_option linter.unusedVariables false
set_option linter.unusedSimpArgs false
namespace Go.Proofs.Ytpahjllcomejbaa
open Go.RowKit Go.MapKept
open Go.Proofs.YtpahjllcomejbaaW.PrintWords Go.Proofs.YtpahjllcomejbaaW.PrintLast Go.Proofs.YtpahjllcomejbaaW.PrintMore
open PX86Encodes

def OneRel' (w : World) (B g : Nat) (rex : Int) (s : ByteArray) (a : Int) (e : Bool) (T : Nat) (v : Value) (wr : World) : Prop := ∃ i : Nat, i ≤ T ∧ v = .int .i64 (i : Int) ∧ Sh w wr g rex s a e ∧ wr.heap[B]? = some (.cells #[.int .i64 11, .int .i64 12, .int .i64 13, .int .i64 14, .int .i64 15, .int .i64 16] 3 (0, 0))
def TwoRel' (w : World) (g : Nat) (rex : Int) (s : ByteArray) (a : Int) (e : Bool) (T : Nat) (v : Value) (wr : World) : Prop := ∃ i : Nat, 3 ≤ i ∧ i ≤ T ∧ v = .int .i64 (i : Int) ∧ Sh w wr g rex s a e
set_option maxRecDepth 100000 in
set_option maxHeartbeats 4000000 in
theorem short_247_3 (k g : Nat) (s s1 s2 : ByteArray) (a a1 a2 : Int) (e e1 e2 : Bool) (rex r1 r2 r3 r4 r5 r6 : Int) (half : Bool) (w : World) (hg : w.heap[g]? = some (rdO s a e)) (hn : x86_reader_next.f s a e = some (247, s1, a1, e1)) (mem : Bool) (n d : Int) (hc : x86_reader_fields.f s1 a1 e1 rex = some (mem, n, d, s2, a2, e2)) (hv : n % 8 = 3) :
    Calls Try.prog 17 #[.pointer (some ⟨g, 0, none⟩), .int .u8 rex, .bool half] w (RdPost w g (.agg #[.int .i64 (14), .int .i64 (d), .int .i64 (0), .int .i64 (0), .int .i64 (0), .int .u64 (0)]) s2 a2 e2) := by
  have HS0 := hide (Sh.start (rex := rex) hg)
  obtain ⟨b0, ⟨c0, c1, c2, c3, c4, c5⟩, ff⟩ := HS0.out.cells
  have f0 := ff 0
  have f1 := ff 1
  have f2 := ff 2
  have f3 := ff 3
  have f4 := ff 4
  have f5 := ff 5
  clear ff
  have hu3 := Try.underlying32
  have HN := hide (rd_next (g := g) hn)
  have HC := hide (rd_fields (g := g) hc)
  have h7 := and7 n
  rw [hv] at h7
  clear hv
  have HO11 : Hid (∀ W : World, Calls Try.prog 26 #[.int .i64 11] W (TwoPost W (.tuple #[.int .u8 211, .int .i64 4]))) := hide fun W => one_calls 11 W
  have HO12 : Hid (∀ W : World, Calls Try.prog 26 #[.int .i64 12] W (TwoPost W (.tuple #[.int .u8 211, .int .i64 5]))) := hide fun W => one_calls 12 W
  have HO13 : Hid (∀ W : World, Calls Try.prog 26 #[.int .i64 13] W (TwoPost W (.tuple #[.int .u8 211, .int .i64 7]))) := hide fun W => one_calls 13 W
  have HO14 : Hid (∀ W : World, Calls Try.prog 26 #[.int .i64 14] W (TwoPost W (.tuple #[.int .u8 247, .int .i64 3]))) := hide fun W => one_calls 14 W
  have HO15 : Hid (∀ W : World, Calls Try.prog 26 #[.int .i64 15] W (TwoPost W (.tuple #[.int .u8 247, .int .i64 6]))) := hide fun W => one_calls 15 W
  have HO16 : Hid (∀ W : World, Calls Try.prog 26 #[.int .i64 16] W (TwoPost W (.tuple #[.int .u8 247, .int .i64 7]))) := hide fun W => one_calls 16 W
  clear hg hn
  unfold boxed at *
  go_enter Try.func17, Try.ntmps17
  go_wp2_with fail
  refine (HN.out _ HS0.out.hg).mono ?_
  rintro en W1 ⟨rfl, h1, fr1⟩
  have HS1 := hide (HS0.out.next h1 fr1)
  clear h1 fr1 c0 c1 c2 c3 c4 c5 f0 f1 f2 f3 f4 f5 b0
  obtain ⟨b0, ⟨c0, c1, c2, c3, c4, c5⟩, ff⟩ := HS1.out.cells
  have f0 := ff 0
  have f1 := ff 1
  have f2 := ff 2
  have f3 := ff 3
  have f4 := ff 4
  have f5 := ff 5
  clear ff
  go_wp2_with fail
  refine (HC.out _ HS1.out.hg).mono ?_
  rintro en W2 ⟨rfl, h1, fr1⟩
  have HS2 := hide (HS1.out.next h1 fr1)
  clear h1 fr1 c0 c1 c2 c3 c4 c5 f0 f1 f2 f3 f4 f5 b0
  obtain ⟨b0, ⟨c0, c1, c2, c3, c4, c5⟩, ff⟩ := HS2.out.cells
  have f0 := ff 0
  have f1 := ff 1
  have f2 := ff 2
  have f3 := ff 3
  have f4 := ff 4
  have f5 := ff 5
  clear ff
  have HR0 := hide (show OneRel' w (W2.heap.size) g rex s2 a2 e2 3 (.int .i64 0) (W2.alloc (.cells #[.int .i64 11, .int .i64 12, .int .i64 13, .int .i64 14, .int .i64 15, .int .i64 16] 3 (0, 0))) from ⟨0, Nat.zero_le _, rfl, HS2.out.more ((Fr.refl [] W2).alloc' _), heap_alloc_new W2 _⟩)
  go_wp2_with fail
  go_loopw [130] (fun v wr => OneRel' w (W2.heap.size) g rex s2 a2 e2 3 v wr) (fun v _ => 6 - (intOf v).toNat)
  case atStart => exact HR0.out
  case round =>
    clear c0 c1 c2 c3 c4 c5 f0 f1 f2 f3 f4 f5 b0
    obtain ⟨i, hi, rfl, hsh, hb⟩ := hrel
    have HS3 := hide hsh
    have HB := hide hb
    have L0 := cell_at hb 0
    have L1 := cell_at hb 1
    have L2 := cell_at hb 2
    have L3 := cell_at hb 3
    have L4 := cell_at hb 4
    have L5 := cell_at hb 5
    simp at L0 L1 L2 L3 L4 L5
    clear hsh hb
    obtain ⟨wo, rfl⟩ : ∃ wo : World, wo = wr := ⟨_, rfl⟩
    have hi' : i = 0 ∨ i = 1 ∨ i = 2 ∨ i = 3 := by omega
    clear hi
    rcases hi' with rfl | rfl | rfl | rfl
    · go_wp2_with fail
      refine (HO11.out _).mono ?_
      rintro en W4 ⟨rfl, fr4⟩
      have HB4 := hide (fr4.keep HB.out (by simp))
      have HS4 := hide (HS3.out.more fr4)
      clear fr4
      have HX := hide (show OneRel' w (W2.heap.size) g rex s2 a2 e2 3 (.int .i64 1) W4 from ⟨1, by omega, rfl, HS4.out, HB4.out⟩)
      go_wp2
      exact ⟨HX.out, by simp [intOf]⟩
    · go_wp2_with fail
      refine (HO12.out _).mono ?_
      rintro en W4 ⟨rfl, fr4⟩
      have HB4 := hide (fr4.keep HB.out (by simp))
      have HS4 := hide (HS3.out.more fr4)
      clear fr4
      have HX := hide (show OneRel' w (W2.heap.size) g rex s2 a2 e2 3 (.int .i64 2) W4 from ⟨2, by omega, rfl, HS4.out, HB4.out⟩)
      go_wp2
      exact ⟨HX.out, by simp [intOf]⟩
    · go_wp2_with fail
      refine (HO13.out _).mono ?_
      rintro en W4 ⟨rfl, fr4⟩
      have HB4 := hide (fr4.keep HB.out (by simp))
      have HS4 := hide (HS3.out.more fr4)
      clear fr4
      have HX := hide (show OneRel' w (W2.heap.size) g rex s2 a2 e2 3 (.int .i64 3) W4 from ⟨3, by omega, rfl, HS4.out, HB4.out⟩)
      go_wp2
      exact ⟨HX.out, by simp [intOf]⟩
    · go_wp2_with fail
      refine (HO14.out _).mono ?_
      rintro en W4 ⟨rfl, fr4⟩
      have HB4 := hide (fr4.keep HB.out (by simp))
      have HS4 := hide (HS3.out.more fr4)
      clear fr4
      obtain ⟨b0, ⟨c0, c1, c2, c3, c4, c5⟩, ff⟩ := HS4.out.cells
      have f0 := ff 0
      have f1 := ff 1
      have f2 := ff 2
      have f3 := ff 3
      have f4 := ff 4
      have f5 := ff 5
      clear ff
      go_wp2
      obtain ⟨p1, p2, p3⟩ := HS4.out.put (14) (d) (0) (0) (0) (0)
      exact bodyPost_ret (v := .agg #[.int .i64 (14), .int .i64 (d), .int .i64 (0), .int .i64 (0), .int .i64 (0), .int .u64 (0)]) (results_cell_row rfl _ _ (w.heap.size + 1) 32 _ (0, 0) _ rfl p3 hu3 rfl rfl) rfl ⟨rfl, p1, p2⟩
set_option maxRecDepth 100000 in
set_option maxHeartbeats 4000000 in
theorem short_247_6 (k g : Nat) (s s1 s2 : ByteArray) (a a1 a2 : Int) (e e1 e2 : Bool) (rex r1 r2 r3 r4 r5 r6 : Int) (half : Bool) (w : World) (hg : w.heap[g]? = some (rdO s a e)) (hn : x86_reader_next.f s a e = some (247, s1, a1, e1)) (mem : Bool) (n d : Int) (hc : x86_reader_fields.f s1 a1 e1 rex = some (mem, n, d, s2, a2, e2)) (hv : n % 8 = 6) :
    Calls Try.prog 17 #[.pointer (some ⟨g, 0, none⟩), .int .u8 rex, .bool half] w (RdPost w g (.agg #[.int .i64 (15), .int .i64 (d), .int .i64 (0), .int .i64 (0), .int .i64 (0), .int .u64 (0)]) s2 a2 e2) := by
  have HS0 := hide (Sh.start (rex := rex) hg)
  obtain ⟨b0, ⟨c0, c1, c2, c3, c4, c5⟩, ff⟩ := HS0.out.cells
  have f0 := ff 0
  have f1 := ff 1
  have f2 := ff 2
  have f3 := ff 3
  have f4 := ff 4
  have f5 := ff 5
  clear ff
  have hu3 := Try.underlying32
  have HN := hide (rd_next (g := g) hn)
  have HC := hide (rd_fields (g := g) hc)
  have h7 := and7 n
  rw [hv] at h7
  clear hv
  have HO11 : Hid (∀ W : World, Calls Try.prog 26 #[.int .i64 11] W (TwoPost W (.tuple #[.int .u8 211, .int .i64 4]))) := hide fun W => one_calls 11 W
  have HO12 : Hid (∀ W : World, Calls Try.prog 26 #[.int .i64 12] W (TwoPost W (.tuple #[.int .u8 211, .int .i64 5]))) := hide fun W => one_calls 12 W
  have HO13 : Hid (∀ W : World, Calls Try.prog 26 #[.int .i64 13] W (TwoPost W (.tuple #[.int .u8 211, .int .i64 7]))) := hide fun W => one_calls 13 W
  have HO14 : Hid (∀ W : World, Calls Try.prog 26 #[.int .i64 14] W (TwoPost W (.tuple #[.int .u8 247, .int .i64 3]))) := hide fun W => one_calls 14 W
  have HO15 : Hid (∀ W : World, Calls Try.prog 26 #[.int .i64 15] W (TwoPost W (.tuple #[.int .u8 247, .int .i64 6]))) := hide fun W => one_calls 15 W
  have HO16 : Hid (∀ W : World, Calls Try.prog 26 #[.int .i64 16] W (TwoPost W (.tuple #[.int .u8 247, .int .i64 7]))) := hide fun W => one_calls 16 W
  clear hg hn
  unfold boxed at *
  go_enter Try.func17, Try.ntmps17
  go_wp2_with fail
  refine (HN.out _ HS0.out.hg).mono ?_
  rintro en W1 ⟨rfl, h1, fr1⟩
  have HS1 := hide (HS0.out.next h1 fr1)
  clear h1 fr1 c0 c1 c2 c3 c4 c5 f0 f1 f2 f3 f4 f5 b0
  obtain ⟨b0, ⟨c0, c1, c2, c3, c4, c5⟩, ff⟩ := HS1.out.cells
  have f0 := ff 0
  have f1 := ff 1
  have f2 := ff 2
  have f3 := ff 3
  have f4 := ff 4
  have f5 := ff 5
  clear ff
  go_wp2_with fail
  refine (HC.out _ HS1.out.hg).mono ?_
  rintro en W2 ⟨rfl, h1, fr1⟩
  have HS2 := hide (HS1.out.next h1 fr1)
  clear h1 fr1 c0 c1 c2 c3 c4 c5 f0 f1 f2 f3 f4 f5 b0
  obtain ⟨b0, ⟨c0, c1, c2, c3, c4, c5⟩, ff⟩ := HS2.out.cells
  have f0 := ff 0
  have f1 := ff 1
  have f2 := ff 2
  have f3 := ff 3
  have f4 := ff 4
  have f5 := ff 5
  clear ff
  have HR0 := hide (show OneRel' w (W2.heap.size) g rex s2 a2 e2 4 (.int .i64 0) (W2.alloc (.cells #[.int .i64 11, .int .i64 12, .int .i64 13, .int .i64 14, .int .i64 15, .int .i64 16] 3 (0, 0))) from ⟨0, Nat.zero_le _, rfl, HS2.out.more ((Fr.refl [] W2).alloc' _), heap_alloc_new W2 _⟩)
  go_wp2_with fail
  go_loopw [130] (fun v wr => OneRel' w (W2.heap.size) g rex s2 a2 e2 4 v wr) (fun v _ => 6 - (intOf v).toNat)
  case atStart => exact HR0.out
  case round =>
    clear c0 c1 c2 c3 c4 c5 f0 f1 f2 f3 f4 f5 b0
    obtain ⟨i, hi, rfl, hsh, hb⟩ := hrel
    have HS3 := hide hsh
    have HB := hide hb
    have L0 := cell_at hb 0
    have L1 := cell_at hb 1
    have L2 := cell_at hb 2
    have L3 := cell_at hb 3
    have L4 := cell_at hb 4
    have L5 := cell_at hb 5
    simp at L0 L1 L2 L3 L4 L5
    clear hsh hb
    obtain ⟨wo, rfl⟩ : ∃ wo : World, wo = wr := ⟨_, rfl⟩
    have hi' : i = 0 ∨ i = 1 ∨ i = 2 ∨ i = 3 ∨ i = 4 := by omega
    clear hi
    rcases hi' with rfl | rfl | rfl | rfl | rfl
    · go_wp2_with fail
      refine (HO11.out _).mono ?_
      rintro en W4 ⟨rfl, fr4⟩
      have HB4 := hide (fr4.keep HB.out (by simp))
      have HS4 := hide (HS3.out.more fr4)
      clear fr4
      have HX := hide (show OneRel' w (W2.heap.size) g rex s2 a2 e2 4 (.int .i64 1) W4 from ⟨1, by omega, rfl, HS4.out, HB4.out⟩)
      go_wp2
      exact ⟨HX.out, by simp [intOf]⟩
    · go_wp2_with fail
      refine (HO12.out _).mono ?_
      rintro en W4 ⟨rfl, fr4⟩
      have HB4 := hide (fr4.keep HB.out (by simp))
      have HS4 := hide (HS3.out.more fr4)
      clear fr4
      have HX := hide (show OneRel' w (W2.heap.size) g rex s2 a2 e2 4 (.int .i64 2) W4 from ⟨2, by omega, rfl, HS4.out, HB4.out⟩)
      go_wp2
      exact ⟨HX.out, by simp [intOf]⟩
    · go_wp2_with fail
      refine (HO13.out _).mono ?_
      rintro en W4 ⟨rfl, fr4⟩
      have HB4 := hide (fr4.keep HB.out (by simp))
      have HS4 := hide (HS3.out.more fr4)
      clear fr4
      have HX := hide (show OneRel' w (W2.heap.size) g rex s2 a2 e2 4 (.int .i64 3) W4 from ⟨3, by omega, rfl, HS4.out, HB4.out⟩)
      go_wp2
      exact ⟨HX.out, by simp [intOf]⟩
    · go_wp2_with fail
      refine (HO14.out _).mono ?_
      rintro en W4 ⟨rfl, fr4⟩
      have HB4 := hide (fr4.keep HB.out (by simp))
      have HS4 := hide (HS3.out.more fr4)
      clear fr4
      have HX := hide (show OneRel' w (W2.heap.size) g rex s2 a2 e2 4 (.int .i64 4) W4 from ⟨4, by omega, rfl, HS4.out, HB4.out⟩)
      go_wp2
      exact ⟨HX.out, by simp [intOf]⟩
    · go_wp2_with fail
      refine (HO15.out _).mono ?_
      rintro en W4 ⟨rfl, fr4⟩
      have HB4 := hide (fr4.keep HB.out (by simp))
      have HS4 := hide (HS3.out.more fr4)
      clear fr4
      obtain ⟨b0, ⟨c0, c1, c2, c3, c4, c5⟩, ff⟩ := HS4.out.cells
      have f0 := ff 0
      have f1 := ff 1
      have f2 := ff 2
      have f3 := ff 3
      have f4 := ff 4
      have f5 := ff 5
      clear ff
      go_wp2
      obtain ⟨p1, p2, p3⟩ := HS4.out.put (15) (d) (0) (0) (0) (0)
      exact bodyPost_ret (v := .agg #[.int .i64 (15), .int .i64 (d), .int .i64 (0), .int .i64 (0), .int .i64 (0), .int .u64 (0)]) (results_cell_row rfl _ _ (w.heap.size + 1) 32 _ (0, 0) _ rfl p3 hu3 rfl rfl) rfl ⟨rfl, p1, p2⟩
set_option maxRecDepth 100000 in
set_option maxHeartbeats 4000000 in
theorem short_247_7 (k g : Nat) (s s1 s2 : ByteArray) (a a1 a2 : Int) (e e1 e2 : Bool) (rex r1 r2 r3 r4 r5 r6 : Int) (half : Bool) (w : World) (hg : w.heap[g]? = some (rdO s a e)) (hn : x86_reader_next.f s a e = some (247, s1, a1, e1)) (mem : Bool) (n d : Int) (hc : x86_reader_fields.f s1 a1 e1 rex = some (mem, n, d, s2, a2, e2)) (hv : n % 8 = 7) :
    Calls Try.prog 17 #[.pointer (some ⟨g, 0, none⟩), .int .u8 rex, .bool half] w (RdPost w g (.agg #[.int .i64 (16), .int .i64 (d), .int .i64 (0), .int .i64 (0), .int .i64 (0), .int .u64 (0)]) s2 a2 e2) := by
  have HS0 := hide (Sh.start (rex := rex) hg)
  obtain ⟨b0, ⟨c0, c1, c2, c3, c4, c5⟩, ff⟩ := HS0.out.cells
  have f0 := ff 0
  have f1 := ff 1
  have f2 := ff 2
  have f3 := ff 3
  have f4 := ff 4
  have f5 := ff 5
  clear ff
  have hu3 := Try.underlying32
  have HN := hide (rd_next (g := g) hn)
  have HC := hide (rd_fields (g := g) hc)
  have h7 := and7 n
  rw [hv] at h7
  clear hv
  have HO11 : Hid (∀ W : World, Calls Try.prog 26 #[.int .i64 11] W (TwoPost W (.tuple #[.int .u8 211, .int .i64 4]))) := hide fun W => one_calls 11 W
  have HO12 : Hid (∀ W : World, Calls Try.prog 26 #[.int .i64 12] W (TwoPost W (.tuple #[.int .u8 211, .int .i64 5]))) := hide fun W => one_calls 12 W
  have HO13 : Hid (∀ W : World, Calls Try.prog 26 #[.int .i64 13] W (TwoPost W (.tuple #[.int .u8 211, .int .i64 7]))) := hide fun W => one_calls 13 W
  have HO14 : Hid (∀ W : World, Calls Try.prog 26 #[.int .i64 14] W (TwoPost W (.tuple #[.int .u8 247, .int .i64 3]))) := hide fun W => one_calls 14 W
  have HO15 : Hid (∀ W : World, Calls Try.prog 26 #[.int .i64 15] W (TwoPost W (.tuple #[.int .u8 247, .int .i64 6]))) := hide fun W => one_calls 15 W
  have HO16 : Hid (∀ W : World, Calls Try.prog 26 #[.int .i64 16] W (TwoPost W (.tuple #[.int .u8 247, .int .i64 7]))) := hide fun W => one_calls 16 W
  clear hg hn
  unfold boxed at *
  go_enter Try.func17, Try.ntmps17
  go_wp2_with fail
  refine (HN.out _ HS0.out.hg).mono ?_
  rintro en W1 ⟨rfl, h1, fr1⟩
  have HS1 := hide (HS0.out.next h1 fr1)
  clear h1 fr1 c0 c1 c2 c3 c4 c5 f0 f1 f2 f3 f4 f5 b0
  obtain ⟨b0, ⟨c0, c1, c2, c3, c4, c5⟩, ff⟩ := HS1.out.cells
  have f0 := ff 0
  have f1 := ff 1
  have f2 := ff 2
  have f3 := ff 3
  have f4 := ff 4
  have f5 := ff 5
  clear ff
  go_wp2_with fail
  refine (HC.out _ HS1.out.hg).mono ?_
  rintro en W2 ⟨rfl, h1, fr1⟩
  have HS2 := hide (HS1.out.next h1 fr1)
  clear h1 fr1 c0 c1 c2 c3 c4 c5 f0 f1 f2 f3 f4 f5 b0
  obtain ⟨b0, ⟨c0, c1, c2, c3, c4, c5⟩, ff⟩ := HS2.out.cells
  have f0 := ff 0
  have f1 := ff 1
  have f2 := ff 2
  have f3 := ff 3
  have f4 := ff 4
  have f5 := ff 5
  clear ff
  have HR0 := hide (show OneRel' w (W2.heap.size) g rex s2 a2 e2 5 (.int .i64 0) (W2.alloc (.cells #[.int .i64 11, .int .i64 12, .int .i64 13, .int .i64 14, .int .i64 15, .int .i64 16] 3 (0, 0))) from ⟨0, Nat.zero_le _, rfl, HS2.out.more ((Fr.refl [] W2).alloc' _), heap_alloc_new W2 _⟩)
  go_wp2_with fail
  go_loopw [130] (fun v wr => OneRel' w (W2.heap.size) g rex s2 a2 e2 5 v wr) (fun v _ => 6 - (intOf v).toNat)
  case atStart => exact HR0.out
  case round =>
    clear c0 c1 c2 c3 c4 c5 f0 f1 f2 f3 f4 f5 b0
    obtain ⟨i, hi, rfl, hsh, hb⟩ := hrel
    have HS3 := hide hsh
    have HB := hide hb
    have L0 := cell_at hb 0
    have L1 := cell_at hb 1
    have L2 := cell_at hb 2
    have L3 := cell_at hb 3
    have L4 := cell_at hb 4
    have L5 := cell_at hb 5
    simp at L0 L1 L2 L3 L4 L5
    clear hsh hb
    obtain ⟨wo, rfl⟩ : ∃ wo : World, wo = wr := ⟨_, rfl⟩
    have hi' : i = 0 ∨ i = 1 ∨ i = 2 ∨ i = 3 ∨ i = 4 ∨ i = 5 := by omega
    clear hi
    rcases hi' with rfl | rfl | rfl | rfl | rfl | rfl
    · go_wp2_with fail
      refine (HO11.out _).mono ?_
      rintro en W4 ⟨rfl, fr4⟩
      have HB4 := hide (fr4.keep HB.out (by simp))
      have HS4 := hide (HS3.out.more fr4)
      clear fr4
      have HX := hide (show OneRel' w (W2.heap.size) g rex s2 a2 e2 5 (.int .i64 1) W4 from ⟨1, by omega, rfl, HS4.out, HB4.out⟩)
      go_wp2
      exact ⟨HX.out, by simp [intOf]⟩
    · go_wp2_with fail
      refine (HO12.out _).mono ?_
      rintro en W4 ⟨rfl, fr4⟩
      have HB4 := hide (fr4.keep HB.out (by simp))
      have HS4 := hide (HS3.out.more fr4)
      clear fr4
      have HX := hide (show OneRel' w (W2.heap.size) g rex s2 a2 e2 5 (.int .i64 2) W4 from ⟨2, by omega, rfl, HS4.out, HB4.out⟩)
      go_wp2
      exact ⟨HX.out, by simp [intOf]⟩
    · go_wp2_with fail
      refine (HO13.out _).mono ?_
      rintro en W4 ⟨rfl, fr4⟩
      have HB4 := hide (fr4.keep HB.out (by simp))
      have HS4 := hide (HS3.out.more fr4)
      clear fr4
      have HX := hide (show OneRel' w (W2.heap.size) g rex s2 a2 e2 5 (.int .i64 3) W4 from ⟨3, by omega, rfl, HS4.out, HB4.out⟩)
      go_wp2
      exact ⟨HX.out, by simp [intOf]⟩
    · go_wp2_with fail
      refine (HO14.out _).mono ?_
      rintro en W4 ⟨rfl, fr4⟩
      have HB4 := hide (fr4.keep HB.out (by simp))
      have HS4 := hide (HS3.out.more fr4)
      clear fr4
      have HX := hide (show OneRel' w (W2.heap.size) g rex s2 a2 e2 5 (.int .i64 4) W4 from ⟨4, by omega, rfl, HS4.out, HB4.out⟩)
      go_wp2
      exact ⟨HX.out, by simp [intOf]⟩
    · go_wp2_with fail
      refine (HO15.out _).mono ?_
      rintro en W4 ⟨rfl, fr4⟩
      have HB4 := hide (fr4.keep HB.out (by simp))
      have HS4 := hide (HS3.out.more fr4)
      clear fr4
      have HX := hide (show OneRel' w (W2.heap.size) g rex s2 a2 e2 5 (.int .i64 5) W4 from ⟨5, by omega, rfl, HS4.out, HB4.out⟩)
      go_wp2
      exact ⟨HX.out, by simp [intOf]⟩
    · go_wp2_with fail
      refine (HO16.out _).mono ?_
      rintro en W4 ⟨rfl, fr4⟩
      have HB4 := hide (fr4.keep HB.out (by simp))
      have HS4 := hide (HS3.out.more fr4)
      clear fr4
      obtain ⟨b0, ⟨c0, c1, c2, c3, c4, c5⟩, ff⟩ := HS4.out.cells
      have f0 := ff 0
      have f1 := ff 1
      have f2 := ff 2
      have f3 := ff 3
      have f4 := ff 4
      have f5 := ff 5
      clear ff
      go_wp2
      obtain ⟨p1, p2, p3⟩ := HS4.out.put (16) (d) (0) (0) (0) (0)
      exact bodyPost_ret (v := .agg #[.int .i64 (16), .int .i64 (d), .int .i64 (0), .int .i64 (0), .int .i64 (0), .int .u64 (0)]) (results_cell_row rfl _ _ (w.heap.size + 1) 32 _ (0, 0) _ rfl p3 hu3 rfl rfl) rfl ⟨rfl, p1, p2⟩
set_option maxRecDepth 100000 in
set_option maxHeartbeats 4000000 in
theorem short_247_no (k g : Nat) (s s1 s2 : ByteArray) (a a1 a2 : Int) (e e1 e2 : Bool) (rex r1 r2 r3 r4 r5 r6 : Int) (half : Bool) (w : World) (hg : w.heap[g]? = some (rdO s a e)) (hn : x86_reader_next.f s a e = some (247, s1, a1, e1)) (mem : Bool) (n d : Int) (hc : x86_reader_fields.f s1 a1 e1 rex = some (mem, n, d, s2, a2, e2)) (hv : n % 8 ≠ 3 ∧ n % 8 ≠ 6 ∧ n % 8 ≠ 7) :
    Calls Try.prog 17 #[.pointer (some ⟨g, 0, none⟩), .int .u8 rex, .bool half] w (RdPost w g (.agg #[.int .i64 (0), .int .i64 (0), .int .i64 (0), .int .i64 (0), .int .i64 (0), .int .u64 (0)]) s2 a2 e2) := by
  have HS0 := hide (Sh.start (rex := rex) hg)
  obtain ⟨b0, ⟨c0, c1, c2, c3, c4, c5⟩, ff⟩ := HS0.out.cells
  have f0 := ff 0
  have f1 := ff 1
  have f2 := ff 2
  have f3 := ff 3
  have f4 := ff 4
  have f5 := ff 5
  clear ff
  have hu3 := Try.underlying32
  have HN := hide (rd_next (g := g) hn)
  have HC := hide (rd_fields (g := g) hc)
  have h7 := and7 n
  have hm3 : ((3 : Int) == bits BinOp.and IntKind.i64 n 7) = false := by rw [h7, beq_eq_false_iff_ne]; omega
  have hm6 : ((6 : Int) == bits BinOp.and IntKind.i64 n 7) = false := by rw [h7, beq_eq_false_iff_ne]; omega
  have hm7 : ((7 : Int) == bits BinOp.and IntKind.i64 n 7) = false := by rw [h7, beq_eq_false_iff_ne]; omega
  clear h7 hv
  have HO11 : Hid (∀ W : World, Calls Try.prog 26 #[.int .i64 11] W (TwoPost W (.tuple #[.int .u8 211, .int .i64 4]))) := hide fun W => one_calls 11 W
  have HO12 : Hid (∀ W : World, Calls Try.prog 26 #[.int .i64 12] W (TwoPost W (.tuple #[.int .u8 211, .int .i64 5]))) := hide fun W => one_calls 12 W
  have HO13 : Hid (∀ W : World, Calls Try.prog 26 #[.int .i64 13] W (TwoPost W (.tuple #[.int .u8 211, .int .i64 7]))) := hide fun W => one_calls 13 W
  have HO14 : Hid (∀ W : World, Calls Try.prog 26 #[.int .i64 14] W (TwoPost W (.tuple #[.int .u8 247, .int .i64 3]))) := hide fun W => one_calls 14 W
  have HO15 : Hid (∀ W : World, Calls Try.prog 26 #[.int .i64 15] W (TwoPost W (.tuple #[.int .u8 247, .int .i64 6]))) := hide fun W => one_calls 15 W
  have HO16 : Hid (∀ W : World, Calls Try.prog 26 #[.int .i64 16] W (TwoPost W (.tuple #[.int .u8 247, .int .i64 7]))) := hide fun W => one_calls 16 W
  clear hg hn
  unfold boxed at *
  go_enter Try.func17, Try.ntmps17
  go_wp2_with fail
  refine (HN.out _ HS0.out.hg).mono ?_
  rintro en W1 ⟨rfl, h1, fr1⟩
  have HS1 := hide (HS0.out.next h1 fr1)
  clear h1 fr1 c0 c1 c2 c3 c4 c5 f0 f1 f2 f3 f4 f5 b0
  obtain ⟨b0, ⟨c0, c1, c2, c3, c4, c5⟩, ff⟩ := HS1.out.cells
  have f0 := ff 0
  have f1 := ff 1
  have f2 := ff 2
  have f3 := ff 3
  have f4 := ff 4
  have f5 := ff 5
  clear ff
  go_wp2_with fail
  refine (HC.out _ HS1.out.hg).mono ?_
  rintro en W2 ⟨rfl, h1, fr1⟩
  have HS2 := hide (HS1.out.next h1 fr1)
  clear h1 fr1 c0 c1 c2 c3 c4 c5 f0 f1 f2 f3 f4 f5 b0
  obtain ⟨b0, ⟨c0, c1, c2, c3, c4, c5⟩, ff⟩ := HS2.out.cells
  have f0 := ff 0
  have f1 := ff 1
  have f2 := ff 2
  have f3 := ff 3
  have f4 := ff 4
  have f5 := ff 5
  clear ff
  have HR0 := hide (show OneRel' w (W2.heap.size) g rex s2 a2 e2 6 (.int .i64 0) (W2.alloc (.cells #[.int .i64 11, .int .i64 12, .int .i64 13, .int .i64 14, .int .i64 15, .int .i64 16] 3 (0, 0))) from ⟨0, Nat.zero_le _, rfl, HS2.out.more ((Fr.refl [] W2).alloc' _), heap_alloc_new W2 _⟩)
  go_wp2_with fail
  go_loopw [130] (fun v wr => OneRel' w (W2.heap.size) g rex s2 a2 e2 6 v wr) (fun v _ => 6 - (intOf v).toNat)
  case atStart => exact HR0.out
  case round =>
    clear c0 c1 c2 c3 c4 c5 f0 f1 f2 f3 f4 f5 b0
    obtain ⟨i, hi, rfl, hsh, hb⟩ := hrel
    have HS3 := hide hsh
    have HB := hide hb
    have L0 := cell_at hb 0
    have L1 := cell_at hb 1
    have L2 := cell_at hb 2
    have L3 := cell_at hb 3
    have L4 := cell_at hb 4
    have L5 := cell_at hb 5
    simp at L0 L1 L2 L3 L4 L5
    clear hsh hb
    obtain ⟨wo, rfl⟩ : ∃ wo : World, wo = wr := ⟨_, rfl⟩
    have hi' : i = 0 ∨ i = 1 ∨ i = 2 ∨ i = 3 ∨ i = 4 ∨ i = 5 ∨ i = 6 := by omega
    clear hi
    rcases hi' with rfl | rfl | rfl | rfl | rfl | rfl | rfl
    · go_wp2_with fail
      refine (HO11.out _).mono ?_
      rintro en W4 ⟨rfl, fr4⟩
      have HB4 := hide (fr4.keep HB.out (by simp))
      have HS4 := hide (HS3.out.more fr4)
      clear fr4
      have HX := hide (show OneRel' w (W2.heap.size) g rex s2 a2 e2 6 (.int .i64 1) W4 from ⟨1, by omega, rfl, HS4.out, HB4.out⟩)
      go_wp2
      exact ⟨HX.out, by simp [intOf]⟩
    · go_wp2_with fail
      refine (HO12.out _).mono ?_
      rintro en W4 ⟨rfl, fr4⟩
      have HB4 := hide (fr4.keep HB.out (by simp))
      have HS4 := hide (HS3.out.more fr4)
      clear fr4
      have HX := hide (show OneRel' w (W2.heap.size) g rex s2 a2 e2 6 (.int .i64 2) W4 from ⟨2, by omega, rfl, HS4.out, HB4.out⟩)
      go_wp2
      exact ⟨HX.out, by simp [intOf]⟩
    · go_wp2_with fail
      refine (HO13.out _).mono ?_
      rintro en W4 ⟨rfl, fr4⟩
      have HB4 := hide (fr4.keep HB.out (by simp))
      have HS4 := hide (HS3.out.more fr4)
      clear fr4
      have HX := hide (show OneRel' w (W2.heap.size) g rex s2 a2 e2 6 (.int .i64 3) W4 from ⟨3, by omega, rfl, HS4.out, HB4.out⟩)
      go_wp2
      exact ⟨HX.out, by simp [intOf]⟩
    · go_wp2_with fail
      refine (HO14.out _).mono ?_
      rintro en W4 ⟨rfl, fr4⟩
      have HB4 := hide (fr4.keep HB.out (by simp))
      have HS4 := hide (HS3.out.more fr4)
      clear fr4
      have HX := hide (show OneRel' w (W2.heap.size) g rex s2 a2 e2 6 (.int .i64 4) W4 from ⟨4, by omega, rfl, HS4.out, HB4.out⟩)
      go_wp2
      exact ⟨HX.out, by simp [intOf]⟩
    · go_wp2_with fail
      refine (HO15.out _).mono ?_
      rintro en W4 ⟨rfl, fr4⟩
      have HB4 := hide (fr4.keep HB.out (by simp))
      have HS4 := hide (HS3.out.more fr4)
      clear fr4
      have HX := hide (show OneRel' w (W2.heap.size) g rex s2 a2 e2 6 (.int .i64 5) W4 from ⟨5, by omega, rfl, HS4.out, HB4.out⟩)
      go_wp2
      exact ⟨HX.out, by simp [intOf]⟩
    · go_wp2_with fail
      refine (HO16.out _).mono ?_
      rintro en W4 ⟨rfl, fr4⟩
      have HB4 := hide (fr4.keep HB.out (by simp))
      have HS4 := hide (HS3.out.more fr4)
      clear fr4
      have HX := hide (show OneRel' w (W2.heap.size) g rex s2 a2 e2 6 (.int .i64 6) W4 from ⟨6, by omega, rfl, HS4.out, HB4.out⟩)
      go_wp2
      exact ⟨HX.out, by simp [intOf]⟩
    · obtain ⟨b0, ⟨c0, c1, c2, c3, c4, c5⟩, ff⟩ := HS3.out.cells
      have f0 := ff 0
      have f1 := ff 1
      have f2 := ff 2
      have f3 := ff 3
      have f4 := ff 4
      have f5 := ff 5
      clear ff
      go_wp2
      obtain ⟨p1, p2, p3⟩ := HS3.out.put (0) (0) (0) (0) (0) (0)
      exact bodyPost_ret (v := .agg #[.int .i64 (0), .int .i64 (0), .int .i64 (0), .int .i64 (0), .int .i64 (0), .int .u64 (0)]) (results_cell_row rfl _ _ (w.heap.size + 1) 32 _ (0, 0) _ rfl p3 hu3 rfl rfl) rfl ⟨rfl, p1, p2⟩
end Go.Proofs.Ytpahjllcomejbaa
set_option linter.unusedVariables false
set_option linter.unusedSimpArgs false
namespace Go.Proofs.Ytpahjllcomejbaa
open Go.RowKit Go.MapKept
open Go.Proofs.YtpahjllcomejbaaW.PrintWords Go.Proofs.YtpahjllcomejbaaW.PrintLast Go.Proofs.YtpahjllcomejbaaW.PrintMore
open PX86Encodes

def OneRel'' (w : World) (B g : Nat) (rex : Int) (s : ByteArray) (a : Int) (e : Bool) (T : Nat) (v : Value) (wr : World) : Prop := ∃ i : Nat, i ≤ T ∧ v = .int .i64 (i : Int) ∧ Sh w wr g rex s a e ∧ wr.heap[B]? = some (.cells #[.int .i64 11, .int .i64 12, .int .i64 13, .int .i64 14, .int .i64 15, .int .i64 16] 3 (0, 0))
def TwoRel'' (w : World) (g : Nat) (rex : Int) (s : ByteArray) (a : Int) (e : Bool) (T : Nat) (v : Value) (wr : World) : Prop := ∃ i : Nat, 3 ≤ i ∧ i ≤ T ∧ v = .int .i64 (i : Int) ∧ Sh w wr g rex s a e
set_option maxRecDepth 100000 in
set_option maxHeartbeats 4000000 in
theorem short_two (k g : Nat) (s s1 s2 : ByteArray) (a a1 a2 : Int) (e e1 e2 : Bool) (rex op r1 r2 r3 r4 r5 r6 : Int) (half : Bool) (w : World) (hg : w.heap[g]? = some (rdO s a e)) (hn : x86_reader_next.f s a e = some (op, s1, a1, e1)) (mem : Bool) (q d : Int) (hc : x86_reader_fields.f s1 a1 e1 rex = some (mem, q, d, s2, a2, e2)) (hop : op ≠ 15 ∧ op ≠ 153 ∧ op ≠ 99 ∧ op ≠ 139 ∧ op ≠ 136 ∧ op ≠ 137 ∧ op ≠ 211 ∧ op ≠ 247) (hb1 : (bits BinOp.and IntKind.u8 op 248 == 184) = false) (hb2 : (bits BinOp.and IntKind.u8 op 248 == 80) = false) (hb3 : (bits BinOp.and IntKind.u8 op 248 == 88) = false) (T : Nat) (hT : 3 ≤ T ∧ T ≤ 9) (hm : twoB T = op) (hno : ∀ j : Nat, 3 ≤ j → j < T → twoB j ≠ op) :
    Calls Try.prog 17 #[.pointer (some ⟨g, 0, none⟩), .int .u8 rex, .bool half] w (RdPost w g (.agg #[.int .i64 (T), .int .i64 (d), .int .i64 (q), .int .i64 (0), .int .i64 (0), .int .u64 (0)]) s2 a2 e2) := by
  have HS0 := hide (Sh.start (rex := rex) hg)
  obtain ⟨b0, ⟨c0, c1, c2, c3, c4, c5⟩, ff⟩ := HS0.out.cells
  have f0 := ff 0
  have f1 := ff 1
  have f2 := ff 2
  have f3 := ff 3
  have f4 := ff 4
  have f5 := ff 5
  clear ff
  have hu3 := Try.underlying32
  have HN := hide (rd_next (g := g) hn)
  have HC := hide (rd_fields (g := g) hc)
  have o15 : (op == 15) = false := by rw [beq_eq_false_iff_ne]; omega
  have o153 : (op == 153) = false := by rw [beq_eq_false_iff_ne]; omega
  have o99 : (op == 99) = false := by rw [beq_eq_false_iff_ne]; omega
  have o139 : (op == 139) = false := by rw [beq_eq_false_iff_ne]; omega
  have o136 : (op == 136) = false := by rw [beq_eq_false_iff_ne]; omega
  have o137 : (op == 137) = false := by rw [beq_eq_false_iff_ne]; omega
  have o211 : (op == 211) = false := by rw [beq_eq_false_iff_ne]; omega
  have o247 : (op == 247) = false := by rw [beq_eq_false_iff_ne]; omega
  have HNO := hide hno
  clear hop hno
  have HM := hide hm
  obtain ⟨hT0, hT1⟩ := hT
  clear hm
  clear hg hn
  unfold boxed at *
  go_enter Try.func17, Try.ntmps17
  go_wp2_with fail
  refine (HN.out _ HS0.out.hg).mono ?_
  rintro en W1 ⟨rfl, h1, fr1⟩
  have HS1 := hide (HS0.out.next h1 fr1)
  clear h1 fr1 c0 c1 c2 c3 c4 c5 f0 f1 f2 f3 f4 f5 b0
  obtain ⟨b0, ⟨c0, c1, c2, c3, c4, c5⟩, ff⟩ := HS1.out.cells
  have f0 := ff 0
  have f1 := ff 1
  have f2 := ff 2
  have f3 := ff 3
  have f4 := ff 4
  have f5 := ff 5
  clear ff
  go_wp2_with fail
  refine (HC.out _ HS1.out.hg).mono ?_
  rintro en W2 ⟨rfl, h1, fr1⟩
  have HS2 := hide (HS1.out.next h1 fr1)
  clear h1 fr1 c0 c1 c2 c3 c4 c5 f0 f1 f2 f3 f4 f5 b0
  obtain ⟨b0, ⟨c0, c1, c2, c3, c4, c5⟩, ff⟩ := HS2.out.cells
  have f0 := ff 0
  have f1 := ff 1
  have f2 := ff 2
  have f3 := ff 3
  have f4 := ff 4
  have f5 := ff 5
  clear ff
  have HR0 := hide (show TwoRel'' w g rex s2 a2 e2 T (.int .i64 3) W2 from ⟨3, by omega, by omega, rfl, HS2.out⟩)
  go_wp2_with fail
  go_loopw [20] (fun v wr => TwoRel'' w g rex s2 a2 e2 T v wr) (fun v _ => 10 - (intOf v).toNat)
  case atStart => exact HR0.out
  case round =>
    clear c0 c1 c2 c3 c4 c5 f0 f1 f2 f3 f4 f5 b0
    obtain ⟨i, hi3, hi, rfl, hsh⟩ := hrel
    have HS3 := hide hsh
    clear hsh
    obtain ⟨wo, rfl⟩ : ∃ wo : World, wo = wr := ⟨_, rfl⟩
    have HO := hide (two_calls (i : Int) wo)
    by_cases hlt : i < T
    · have hq : (twoB (i : Int) == op) = false := by rw [beq_eq_false_iff_ne]; exact HNO.out i hi3 hlt
      have hi9 : (i : Int) ≤ 9 := by omega
      go_wp2_with fail
      refine HO.out.mono ?_
      rintro en W4 ⟨rfl, fr4⟩
      have HS4 := hide (HS3.out.more fr4)
      clear fr4
      have HX := hide (show TwoRel'' w g rex s2 a2 e2 T (.int .i64 ((i : Int) + 1)) W4 from ⟨i + 1, by omega, by omega, rfl, HS4.out⟩)
      go_wp2
      exact ⟨HX.out, by simp [intOf]; omega⟩
    · obtain rfl : i = T := by omega
      have hq : (twoB (i : Int) == op) = true := by rw [beq_iff_eq]; exact HM.out
      have hi9 : (i : Int) ≤ 9 := by omega
      go_wp2_with fail
      refine HO.out.mono ?_
      rintro en W4 ⟨rfl, fr4⟩
      have HS4 := hide (HS3.out.more fr4)
      clear fr4
      obtain ⟨b0, ⟨c0, c1, c2, c3, c4, c5⟩, ff⟩ := HS4.out.cells
      have f0 := ff 0
      have f1 := ff 1
      have f2 := ff 2
      have f3 := ff 3
      have f4 := ff 4
      have f5 := ff 5
      clear ff
      go_wp2
      obtain ⟨p1, p2, p3⟩ := HS4.out.put (i) (d) (q) (0) (0) (0)
      exact bodyPost_ret (v := .agg #[.int .i64 (i), .int .i64 (d), .int .i64 (q), .int .i64 (0), .int .i64 (0), .int .u64 (0)]) (results_cell_row rfl _ _ (w.heap.size + 1) 32 _ (0, 0) _ rfl p3 hu3 rfl rfl) rfl ⟨rfl, p1, p2⟩
set_option maxRecDepth 100000 in
set_option maxHeartbeats 4000000 in
theorem short_none (k g : Nat) (s s1 s2 : ByteArray) (a a1 a2 : Int) (e e1 e2 : Bool) (rex op r1 r2 r3 r4 r5 r6 : Int) (half : Bool) (w : World) (hg : w.heap[g]? = some (rdO s a e)) (hn : x86_reader_next.f s a e = some (op, s1, a1, e1)) (mem : Bool) (q d : Int) (hc : x86_reader_fields.f s1 a1 e1 rex = some (mem, q, d, s2, a2, e2)) (hop : op ≠ 15 ∧ op ≠ 153 ∧ op ≠ 99 ∧ op ≠ 139 ∧ op ≠ 136 ∧ op ≠ 137 ∧ op ≠ 211 ∧ op ≠ 247) (hb1 : (bits BinOp.and IntKind.u8 op 248 == 184) = false) (hb2 : (bits BinOp.and IntKind.u8 op 248 == 80) = false) (hb3 : (bits BinOp.and IntKind.u8 op 248 == 88) = false) (hno : ∀ j : Nat, 3 ≤ j → j < 10 → twoB j ≠ op) :
    Calls Try.prog 17 #[.pointer (some ⟨g, 0, none⟩), .int .u8 rex, .bool half] w (RdPost w g (.agg #[.int .i64 (0), .int .i64 (0), .int .i64 (0), .int .i64 (0), .int .i64 (0), .int .u64 (0)]) s2 a2 e2) := by
  have HS0 := hide (Sh.start (rex := rex) hg)
  obtain ⟨b0, ⟨c0, c1, c2, c3, c4, c5⟩, ff⟩ := HS0.out.cells
  have f0 := ff 0
  have f1 := ff 1
  have f2 := ff 2
  have f3 := ff 3
  have f4 := ff 4
  have f5 := ff 5
  clear ff
  have hu3 := Try.underlying32
  have HN := hide (rd_next (g := g) hn)
  have HC := hide (rd_fields (g := g) hc)
  have o15 : (op == 15) = false := by rw [beq_eq_false_iff_ne]; omega
  have o153 : (op == 153) = false := by rw [beq_eq_false_iff_ne]; omega
  have o99 : (op == 99) = false := by rw [beq_eq_false_iff_ne]; omega
  have o139 : (op == 139) = false := by rw [beq_eq_false_iff_ne]; omega
  have o136 : (op == 136) = false := by rw [beq_eq_false_iff_ne]; omega
  have o137 : (op == 137) = false := by rw [beq_eq_false_iff_ne]; omega
  have o211 : (op == 211) = false := by rw [beq_eq_false_iff_ne]; omega
  have o247 : (op == 247) = false := by rw [beq_eq_false_iff_ne]; omega
  have HNO := hide hno
  clear hop hno
  clear hg hn
  unfold boxed at *
  go_enter Try.func17, Try.ntmps17
  go_wp2_with fail
  refine (HN.out _ HS0.out.hg).mono ?_
  rintro en W1 ⟨rfl, h1, fr1⟩
  have HS1 := hide (HS0.out.next h1 fr1)
  clear h1 fr1 c0 c1 c2 c3 c4 c5 f0 f1 f2 f3 f4 f5 b0
  obtain ⟨b0, ⟨c0, c1, c2, c3, c4, c5⟩, ff⟩ := HS1.out.cells
  have f0 := ff 0
  have f1 := ff 1
  have f2 := ff 2
  have f3 := ff 3
  have f4 := ff 4
  have f5 := ff 5
  clear ff
  go_wp2_with fail
  refine (HC.out _ HS1.out.hg).mono ?_
  rintro en W2 ⟨rfl, h1, fr1⟩
  have HS2 := hide (HS1.out.next h1 fr1)
  clear h1 fr1 c0 c1 c2 c3 c4 c5 f0 f1 f2 f3 f4 f5 b0
  obtain ⟨b0, ⟨c0, c1, c2, c3, c4, c5⟩, ff⟩ := HS2.out.cells
  have f0 := ff 0
  have f1 := ff 1
  have f2 := ff 2
  have f3 := ff 3
  have f4 := ff 4
  have f5 := ff 5
  clear ff
  have HR0 := hide (show TwoRel'' w g rex s2 a2 e2 10 (.int .i64 3) W2 from ⟨3, by omega, by omega, rfl, HS2.out⟩)
  go_wp2_with fail
  go_loopw [20] (fun v wr => TwoRel'' w g rex s2 a2 e2 10 v wr) (fun v _ => 10 - (intOf v).toNat)
  case atStart => exact HR0.out
  case round =>
    clear c0 c1 c2 c3 c4 c5 f0 f1 f2 f3 f4 f5 b0
    obtain ⟨i, hi3, hi, rfl, hsh⟩ := hrel
    have HS3 := hide hsh
    clear hsh
    obtain ⟨wo, rfl⟩ : ∃ wo : World, wo = wr := ⟨_, rfl⟩
    have HO := hide (two_calls (i : Int) wo)
    by_cases hlt : i < 10
    · have hq : (twoB (i : Int) == op) = false := by rw [beq_eq_false_iff_ne]; exact HNO.out i hi3 hlt
      have hi9 : (i : Int) ≤ 9 := by omega
      go_wp2_with fail
      refine HO.out.mono ?_
      rintro en W4 ⟨rfl, fr4⟩
      have HS4 := hide (HS3.out.more fr4)
      clear fr4
      have HX := hide (show TwoRel'' w g rex s2 a2 e2 10 (.int .i64 ((i : Int) + 1)) W4 from ⟨i + 1, by omega, by omega, rfl, HS4.out⟩)
      go_wp2
      exact ⟨HX.out, by simp [intOf]; omega⟩
    · obtain rfl : i = 10 := by omega
      clear HO
      obtain ⟨b0, ⟨c0, c1, c2, c3, c4, c5⟩, ff⟩ := HS3.out.cells
      have f0 := ff 0
      have f1 := ff 1
      have f2 := ff 2
      have f3 := ff 3
      have f4 := ff 4
      have f5 := ff 5
      clear ff
      go_wp2
      obtain ⟨p1, p2, p3⟩ := HS3.out.put (0) (0) (0) (0) (0) (0)
      exact bodyPost_ret (v := .agg #[.int .i64 (0), .int .i64 (0), .int .i64 (0), .int .i64 (0), .int .i64 (0), .int .u64 (0)]) (results_cell_row rfl _ _ (w.heap.size + 1) 32 _ (0, 0) _ rfl p3 hu3 rfl rfl) rfl ⟨rfl, p1, p2⟩
end Go.Proofs.Ytpahjllcomejbaa
set_option linter.unusedVariables false
set_option linter.unusedSimpArgs false
namespace Go.Proofs.Ytpahjllcomejbaa
open Go.RowKit Go.MapKept
open Go.Proofs.YtpahjllcomejbaaW.PrintWords Go.Proofs.YtpahjllcomejbaaW.PrintLast Go.Proofs.YtpahjllcomejbaaW.PrintMore
open PX86Encodes (S32 k32 z32)
attribute [local go_sem high] eqX

theorem x86_elem' {w : World} {A : Option Addr} {n : Nat} {xs : List S32} (h : Kd.C k32 w A n xs) (i : Nat) (hi : i < n) (hx : xs.length = n) : ∃ b o k d s m j u, A = some ⟨b, o, none⟩ ∧ xs[i]? = some ⟨k, d, s, m, j, u⟩ ∧
    w.cell? ⟨b, o + i * 6, none⟩ = some (.int .i64 k) ∧ w.cell? ⟨b, o + i * 6 + 1, none⟩ = some (.int .i64 d) ∧ w.cell? ⟨b, o + i * 6 + 2, none⟩ = some (.int .i64 s) ∧
    w.cell? ⟨b, o + i * 6 + 3, none⟩ = some (.int .i64 m) ∧ w.cell? ⟨b, o + i * 6 + 4, none⟩ = some (.int .i64 j) ∧ w.cell? ⟨b, o + i * 6 + 5, none⟩ = some (.int .u64 u) := by
  have hx' : i < xs.length := by omega
  obtain ⟨b, o, e, h1⟩ := x86_elem h i hi hx'
  exact ⟨b, o, _, _, _, _, _, _, e, List.getElem?_eq_getElem hx', h1⟩
def EncRel (w wb : World) (x : Nat) (xs : List S32) (v : Value) (wr : World) : Prop := ∃ i : Nat, i ≤ xs.length ∧ v = .int .i64 i ∧ ∃ bs F, encX (xs.take i) = some bs ∧ bs.length ≤ 20 * i ∧ Cod wr x F bs false ∧ Fr [x] F wb wr
set_option maxRecDepth 100000 in
set_option maxHeartbeats 4000000 in
theorem xenc_calls (A : Option Addr) (cap : Nat) (xs : List S32) (w : World) (hc : Kd.C k32 w A xs.length xs) (hcap : xs.length ≤ cap) (hA : ∀ b o, 0 < xs.length → A = some ⟨b, o, none⟩ → b < w.heap.size)
    (hw : ∀ x ∈ xs, 0 ≤ x.f5 ∧ x.f5 < 18446744073709551616) (hl : xs.length * 48 ≤ 140737488355328) :
    Calls Try.prog 6 #[.slice A xs.length cap] w (EncPost w (encR (encX xs))) := by
  have hu := Try.underlying22
  have hu1 := Try.underlying39
  have hu2 := Try.underlying41
  have hu3 := Try.underlying32
  have HC := hide hc
  have HA := hide hA
  have HW := hide hw
  have hn0 : xs.length ≤ 2932031007403 := by omega
  have HB : Hid (Cod (w.alloc (.cells #[.slice none 0 0, .bool false] 41)) w.heap.size [w.heap.size] [] false) := hide ⟨.slice none 0 0, heap_alloc_new w _, ⟨rfl, .inl ⟨rfl, rfl⟩⟩, by simp [Value.ownBlock], by simp [Value.ownBlock]⟩
  have HS := hide (show EncRel w (w.alloc (.cells #[.slice none 0 0, .bool false] 41)) w.heap.size xs (.int .i64 0) (w.alloc (.cells #[.slice none 0 0, .bool false] 41)) from ⟨0, Nat.zero_le _, rfl, [], _, rfl, by simp, HB.out, Fr.refl _ _⟩)
  clear hc hA hw
  generalize hnn : xs.length = n at *
  have HN := hide hnn
  clear hnn hl
  go_enter Try.func6, Try.ntmps6
  go_wp2_with fail
  go_loopw [11] (fun v wr => EncRel w (w.alloc (.cells #[.slice none 0 0, .bool false] 41)) w.heap.size xs v wr) (fun v _ => n - (intOf v).toNat)
  case atStart => exact HS.out
  case round =>
    obtain ⟨i, hi, rfl, bs, F, he, hbl, hcod, hfr⟩ := hrel
    rw [HN.out] at hi
    clear HS HB
    have hbelow : Below w.heap.size w wr := by
      have h1 : Fr [] [] w (w.alloc (.cells #[.slice none 0 0, .bool false] 41)) := (Fr.refl [] w).alloc' _
      refine ⟨hfr.os.trans h1.os, hfr.tape.trans h1.tape, hfr.output.trans h1.output, Nat.le_trans h1.size hfr.size, fun k hk => ?_⟩
      rw [hfr.block k (by have := h1.size; omega) (by simp; omega), h1.block k hk (by simp)]
    by_cases hlt : i < n
    · obtain ⟨b, o, k, d, s, m, j, u, rfl, hX, c0, c1, c2, c3, c4, c5⟩ := x86_elem' (Kd.C_below HC.out hbelow) i hlt HN.out
      have hbw := HA.out b o (by omega) rfl
      have hxw := HW.out _ (List.mem_of_getElem? hX)
      have HL := hide (lay_calls (wr.alloc (boxed k d s m j u)) w.heap.size F bs false (hcod.alloc _) k d s m j u hxw (by omega))
      unfold boxed at HL
      have HXX := hide hX
      have HF := hide hfr
      have HCOD := hide hcod
      have HBE := hide hbelow
      have HE := hide (And.intro he hbl)
      have hi0 : 0 ≤ (i : Int) := by omega
      have hil : (i : Int) < n := by omega
      clear hcod hfr hbelow hbw hxw he hbl hX
      have HBN : Hid (wr.heap.size ∉ F) := hide fun hk => by have := HCOD.out.lt _ hk; omega
      have HBR := hide (bare_calls k d s m j u)
      have hgood : goodX ⟨k, d, s, m, j, u⟩ = (!(layS k d s m j u).2 && sameX (k, d, s, m, j, u) (bareS k d s m j u)) := rfl
      have hlx : layX ⟨k, d, s, m, j, u⟩ = layS k d s m j u := rfl
      have hll := layS_len k d s m j u
      have HG := hide hgood
      have HLX := hide hlx
      have HLL := hide hll
      clear hgood hlx hll
      generalize layS k d s m j u = p at *
      obtain ⟨pb, pq⟩ := p
      go_wp2_with fail
      refine HL.out.mono ?_
      rintro e W2 ⟨rfl, F2, hc2, hf2⟩
      have HBX : Hid (W2.heap[wr.heap.size]? = some (boxed k d s m j u)) := hide (hf2.keep (heap_alloc_new wr _) HBN.out)
      have hlt2 : wr.heap.size < W2.heap.size := by have := hf2.size; simp at this; omega
      clear c0 c1 c2 c3 c4 c5
      obtain ⟨c0, c1, c2, c3, c4, c5⟩ := box_at HBX.out
      obtain ⟨v, k0, k1, k2, k3⟩ := hc2.cells
      have HC2 := hide hc2
      have HF2 := hide (HF.out.trans (((Fr.refl F wr).alloc' _).trans hf2))
      have HB2 := hide (show Below w.heap.size w W2 from HBE.out.trans ((hf2.below (B := w.heap.size) (by simp; have := HBE.out.size; omega) (fun q hq => HF.out.from_ (by simp) (by simp) q hq)).trans (Below.refl _ _) |> fun h => ⟨h.os, h.tape, h.output, by have := h.size; simp at this; omega, fun q hq => (h.block q hq).trans (Below.heap_alloc _ _ q (by have := HBE.out.size; omega))⟩))
      clear hc2 hf2
      cases pq with
      | true =>
        have HR : Hid (encX xs = none) := hide (by
          obtain ⟨h1, h2⟩ := List.getElem?_eq_some_iff.1 HXX.out
          exact encX_bad xs i h1 (by rw [h2, HG.out]; rfl))
        simp only [Bool.or_true] at k1
        go_wp2_with fail
        go_quiet (fail)
        go_wp2
        go_ret2
        refine ⟨by rw [HR.out]; rfl, ?_⟩
        exact ⟨HB2.out.os, HB2.out.tape, HB2.out.output, HB2.out.size, HB2.out.block⟩
      | false =>
        simp only [Bool.or_false] at k1
        have HC3 : Hid (∀ W3, Fr [] [] W2 W3 → (W3.cell? ⟨w.heap.size, 1, none⟩ = some (.bool false) ∧ BoxAt W3 wr.heap.size k d s m j u)) := hide fun W3 h3 => by
          refine ⟨?_, box_at (h3.keep HBX.out (by simp))⟩
          obtain ⟨v', q0, q1, q2, q3⟩ := (HC2.out.fr h3).cells
          simpa using q1
        generalize hbs : bareS k d s m j u = r at *
        obtain ⟨r0, r1, r2, r3, r4, r5⟩ := r
        have HBS := hide hbs
        clear hbs
        have HX3 : Hid (∀ W3, Fr [] [] W2 W3 → Below w.heap.size w W3) := hide fun W3 h3 =>
          ⟨h3.os.trans HB2.out.os, h3.tape.trans HB2.out.tape, h3.output.trans HB2.out.output, Nat.le_trans HB2.out.size h3.size, fun q hq => (h3.block q (Nat.lt_of_lt_of_le hq HB2.out.size) (by simp)).trans (HB2.out.block q hq)⟩
        cases hsm : sameX (k, d, s, m, j, u) (r0, r1, r2, r3, r4, r5) with
        | false =>
          have HR : Hid (encX xs = none) := hide (by
            obtain ⟨h1, h2⟩ := List.getElem?_eq_some_iff.1 HXX.out
            exact encX_bad xs i h1 (by rw [h2, HG.out, hsm]; rfl))
          have hq : (k == r0 && (d == r1 && (s == r2 && (m == r3 && (j == r4 && u == r5))))) = false := hsm
          clear hsm
          go_wp2_with fail
          go_region_with (go_at_call 12; refine (HBR.out _).mono ?_; rintro e W3 ⟨rfl, hf3⟩; obtain ⟨e1, e2, e3, e4, e5, e6, e7⟩ := HC3.out W3 ⟨hf3.os, hf3.tape, hf3.output, hf3.size, hf3.block, hf3.foot⟩; have HF3 := hide (HX3.out W3 ⟨hf3.os, hf3.tape, hf3.output, hf3.size, hf3.block, hf3.foot⟩); clear hf3)
          all_goals
            go_wp2
            go_ret2
            refine ⟨by rw [HR.out]; rfl, ?_⟩
            exact ⟨HF3.out.os, HF3.out.tape, HF3.out.output, HF3.out.size, HF3.out.block⟩
        | true =>
          have HR : Hid (∀ W3, Fr [] [] W2 W3 → EncRel w (w.alloc (.cells #[.slice none 0 0, .bool false] 41)) w.heap.size xs (.int .i64 ((i + 1 : Nat) : Int)) W3) := hide fun W3 h3 => by
            obtain ⟨h1, h2⟩ := List.getElem?_eq_some_iff.1 HXX.out
            refine ⟨i + 1, by omega, rfl, bs ++ pb, F2, ?_, ?_, by simpa using HC2.out.fr h3, ?_⟩
            · rw [List.take_succ_eq_append_getElem h1, encX_snoc, HE.out.1, h2, Option.bind_some, if_pos (by rw [HG.out, hsm]; rfl), HLX.out]
            · have := HE.out.2; have := HLL.out; simp; omega
            · exact (show Fr [w.heap.size] F2 _ W3 from (Fr.sub (HF2.out.more h3) (fun q hq => .inl hq)))
          have hq : (k == r0 && (d == r1 && (s == r2 && (m == r3 && (j == r4 && u == r5))))) = true := hsm
          clear hsm
          go_wp2_with fail
          go_region_with (go_at_call 12; refine (HBR.out _).mono ?_; rintro e W3 ⟨rfl, hf3⟩; obtain ⟨e1, e2, e3, e4, e5, e6, e7⟩ := HC3.out W3 ⟨hf3.os, hf3.tape, hf3.output, hf3.size, hf3.block, hf3.foot⟩; have HF3 := hide (show ∀ W4, W4.heap = W3.heap → W4.os = W3.os → W4.tape = W3.tape → W4.output = W3.output → EncRel w (w.alloc (.cells #[.slice none 0 0, .bool false] 41)) w.heap.size xs (.int .i64 ((i + 1 : Nat) : Int)) W4 from fun W4 a1 a2 a3 a4 => HR.out W4 ⟨a2.trans hf3.os, a3.trans hf3.tape, a4.trans hf3.output, by rw [a1]; exact hf3.size, fun q h1 h2 => by rw [a1]; exact hf3.block q h1 h2, hf3.foot⟩); clear hf3)
          all_goals
            go_wp2
            refine ⟨?_, by simp [intOf]; omega⟩
            have := HF3.out _ rfl rfl rfl rfl
            simpa using this
    · obtain rfl : i = n := by omega
      have HR : Hid (encX xs = some bs) := hide (by rw [← he, ← HN.out, List.take_length])
      obtain ⟨v, q1, q2, q3, q4⟩ := hcod.ex
      have k0 := cell_at q1 0
      have HBE := hide hbelow
      have hcv : ∀ W, W = wr → (convert 39 9 v).run Try.prog W = .ok (.string (strOfNums bs)) W := fun W e => by subst e; exact own_string hu1 Try.underlying5 Try.underlying9 q2
      have hcv := hcv wr rfl
      simp only [List.getElem?_toArray, List.getElem?_cons_zero] at k0
      clear q1 q2 q3 q4 hcod hfr hbelow he hbl
      go_wp2
      go_ret2
      refine ⟨by rw [HR.out]; rfl, ?_⟩
      exact HBE.out
end Go.Proofs.Ytpahjllcomejbaa
