/- The reader's short, way by way; condition: the reader lies in memory. -/
import Derived.Test.YtpahjllcomejbaaRd
set_option linter.unusedVariables false
set_option linter.unusedSimpArgs false
namespace Go.Proofs.Ytpahjllcomejbaa
open Go.RowKit Go.MapKept
open Go.Proofs.YtpahjllcomejbaaW.PrintWords Go.Proofs.YtpahjllcomejbaaW.PrintLast Go.Proofs.YtpahjllcomejbaaW.PrintMore
open PX86Encodes

def lowB (rex op : Int) : Int := op % 8 + rex % 2 * 8
theorem u8_mask (n : Int) (i : Nat) (hi : i ≤ 7) (h0 : 0 ≤ n) (h1 : n < 256) : bits BinOp.and IntKind.u8 n (2 ^ i - 1) = n % 2 ^ i := by
 have hi' : i = 0 ∨ i = 1 ∨ i = 2 ∨ i = 3 ∨ i = 4 ∨ i = 5 ∨ i = 6 ∨ i = 7 := by omega
 obtain ⟨m, rfl⟩ := Int.eq_ofNat_of_zero_le h0
 have hm : m < 256 := by omega
 have e0 : ∀ x y : Int, bits BinOp.and IntKind.u8 x y = IntKind.u8.wrap (((BitVec.ofInt 8 x) &&& (BitVec.ofInt 8 y)).toNat : Int) := fun _ _ => rfl
 have hw : ∀ x : Int, IntKind.u8.wrap x = x % 256 := fun x => by simp [IntKind.wrap, IntKind.bits, IntKind.signed]
 have hp : (2 : Nat) ^ i ≤ 128 := by rcases hi' with rfl | rfl | rfl | rfl | rfl | rfl | rfl | rfl <;> decide
 have hpos : 0 < 2 ^ i := Nat.two_pow_pos i
 have hc : ((2 : Int) ^ i - 1) = ((2 ^ i - 1 : Nat) : Int) := by rw [Int.natCast_sub hpos]; simp
 have e1 : (BitVec.ofInt 8 ((2 ^ i - 1 : Nat) : Int)).toNat = 2 ^ i - 1 := by rw [BitVec.toNat_ofInt]; omega
 have e2 : (BitVec.ofInt 8 (m : Int)).toNat = m := by rw [BitVec.toNat_ofInt]; omega
 rw [e0, BitVec.toNat_and, hc, e1, e2, Nat.and_two_pow_sub_one_eq_mod, hw]
 have h4 : m % 2 ^ i < 2 ^ i := Nat.mod_lt _ hpos
 rw [show ((2 : Int) ^ i) = ((2 ^ i : Nat) : Int) by simp, ← Int.natCast_emod]
 omega
theorem u8_7 (n : Int) (h0 : 0 ≤ n) (h1 : n < 256) : bits BinOp.and IntKind.u8 n 7 = n % 8 := by simpa using u8_mask n 3 (by omega) h0 h1
theorem u8_1 (n : Int) (h0 : 0 ≤ n) (h1 : n < 256) : bits BinOp.and IntKind.u8 n 1 = n % 2 := by simpa using u8_mask n 1 (by omega) h0 h1
theorem i64_or3 (x y : Int) (hx : 0 ≤ x ∧ x < 8) (hy : 0 ≤ y ∧ y < 2) : bits BinOp.or IntKind.i64 x (y * 8) = x + y * 8 := by
 have h1 : x = 0 ∨ x = 1 ∨ x = 2 ∨ x = 3 ∨ x = 4 ∨ x = 5 ∨ x = 6 ∨ x = 7 := by omega
 have h2 : y = 0 ∨ y = 1 := by omega
 rcases h1 with rfl | rfl | rfl | rfl | rfl | rfl | rfl | rfl <;> rcases h2 with rfl | rfl <;> decide
set_option maxRecDepth 100000 in
theorem low_calls (b : Nat) (rex op : Int) (W : World) (hr : 0 ≤ rex ∧ rex < 256) (hb : W.cell? ⟨b, 0, none⟩ = some (.int .u8 rex)) (hop : 0 ≤ op ∧ op < 256) :
  Calls Try.prog 34 #[.int .u8 op, .pointer (some ⟨b, 0, none⟩)] W fun e W' => e = .returned (.int .i64 (lowB rex op)) ∧ W = W' := by
 have e1 := u8_7 op hop.1 hop.2
 have e2 := u8_1 rex hr.1 hr.2
 have e3 := i64_or3 (op % 8) (rex % 2) (by omega) (by omega)
 have x1 : 0 ≤ op % 8 := by omega
 have x2 : op % 8 < 8 := by omega
 have x3 : 0 ≤ rex % 2 := by omega
 have x4 : rex % 2 < 2 := by omega
 clear hop hr
 unfold lowB
 generalize op % 8 = y at *
 generalize rex % 2 = z at *
 go_enter Try.func34, Try.ntmps34
 go_wp2
 go_ret
 exact ⟨rfl, rfl⟩
set_option maxRecDepth 100000 in
set_option maxHeartbeats 4000000 in
theorem short_153 (k g : Nat) (s s1 s2 : ByteArray) (a a1 a2 : Int) (e e1 e2 : Bool) (rex r1 r2 r3 r4 r5 r6 : Int) (half : Bool) (w : World) (hg : w.heap[g]? = some (rdO s a e)) (hn : x86_reader_next.f s a e = some (153, s1, a1, e1))  :
  Calls Try.prog 17 #[.pointer (some ⟨g, 0, none⟩), .int .u8 rex, .bool half] w (RdPost w g (.agg #[.int .i64 (17), .int .i64 (0), .int .i64 (0), .int .i64 (0), .int .i64 (0), .int .u64 (0)]) s1 a1 e1) := by
 have HS0 := hide (Sh.start (rex := rex) hg)
 obtain ⟨b0, ⟨c0, c1, c2, c3, c4, c5⟩, ff⟩ := HS0.out.cells
 have f0 := ff 0
 have f1 := ff 1
 have f2 := ff 2
 have f3 := ff 3
 have f4 := ff 4
 have f5 := ff 5
 clear ff
 have hu3 := Try.underlying32
 have HN := hide (rd_next (g := g) hn)
 clear hg hn
 unfold boxed at *
 go_enter Try.func17, Try.ntmps17
 go_wp2_with fail
 refine (HN.out _ HS0.out.hg).mono ?_
 rintro en W1 ⟨rfl, h1, fr1⟩
 have HS1 := hide (HS0.out.next h1 fr1)
 clear h1 fr1 c0 c1 c2 c3 c4 c5 f0 f1 f2 f3 f4 f5 b0
 obtain ⟨b0, ⟨c0, c1, c2, c3, c4, c5⟩, ff⟩ := HS1.out.cells
 have f0 := ff 0
 have f1 := ff 1
 have f2 := ff 2
 have f3 := ff 3
 have f4 := ff 4
 have f5 := ff 5
 clear ff
 go_wp2
 obtain ⟨p1, p2, p3⟩ := HS1.out.put (17) (0) (0) (0) (0) (0)
 exact bodyPost_ret (v := .agg #[.int .i64 (17), .int .i64 (0), .int .i64 (0), .int .i64 (0), .int .i64 (0), .int .u64 (0)]) (results_cell_row rfl _ _ (w.heap.size + 1) 32 _ (0, 0) _ rfl p3 hu3 rfl rfl) rfl ⟨rfl, p1, p2⟩
set_option maxRecDepth 100000 in
set_option maxHeartbeats 4000000 in
theorem short_80 (k g : Nat) (s s1 s2 : ByteArray) (a a1 a2 : Int) (e e1 e2 : Bool) (rex op r1 r2 r3 r4 r5 r6 : Int) (half : Bool) (w : World) (hg : w.heap[g]? = some (rdO s a e)) (hn : x86_reader_next.f s a e = some (op, s1, a1, e1)) (hop : 80 ≤ op ∧ op < 88) (hr : 0 ≤ rex ∧ rex < 256) :
  Calls Try.prog 17 #[.pointer (some ⟨g, 0, none⟩), .int .u8 rex, .bool half] w (RdPost w g (.agg #[.int .i64 (23), .int .i64 (lowB rex op), .int .i64 (0), .int .i64 (0), .int .i64 (0), .int .u64 (0)]) s1 a1 e1) := by
 have HS0 := hide (Sh.start (rex := rex) hg)
 obtain ⟨b0, ⟨c0, c1, c2, c3, c4, c5⟩, ff⟩ := HS0.out.cells
 have f0 := ff 0
 have f1 := ff 1
 have f2 := ff 2
 have f3 := ff 3
 have f4 := ff 4
 have f5 := ff 5
 clear ff
 have hu3 := Try.underlying32
 have HN := hide (rd_next (g := g) hn)
 have HL := hide (fun (W : World) (hb : W.cell? ⟨w.heap.size, 0, none⟩ = some (.int .u8 rex)) => low_calls w.heap.size rex op W hr hb (by omega))
 have hto : op = 80 ∨ op = 81 ∨ op = 82 ∨ op = 83 ∨ op = 84 ∨ op = 85 ∨ op = 86 ∨ op = 87 := by omega
 have hb15 : (op == 15) = false := by rw [beq_eq_false_iff_ne]; omega
 have hb184 : (bits BinOp.and IntKind.u8 op 248 == 184) = false := by rcases hto with rfl | rfl | rfl | rfl | rfl | rfl | rfl | rfl <;> decide
 have hb80 : (bits BinOp.and IntKind.u8 op 248 == 80) = true := by rcases hto with rfl | rfl | rfl | rfl | rfl | rfl | rfl | rfl <;> decide
 clear hto
 clear hop hr
 clear hg hn
 unfold boxed at *
 go_enter Try.func17, Try.ntmps17
 go_wp2_with fail
 refine (HN.out _ HS0.out.hg).mono ?_
 rintro en W1 ⟨rfl, h1, fr1⟩
 have HS1 := hide (HS0.out.next h1 fr1)
 clear h1 fr1 c0 c1 c2 c3 c4 c5 f0 f1 f2 f3 f4 f5 b0
 obtain ⟨b0, ⟨c0, c1, c2, c3, c4, c5⟩, ff⟩ := HS1.out.cells
 have f0 := ff 0
 have f1 := ff 1
 have f2 := ff 2
 have f3 := ff 3
 have f4 := ff 4
 have f5 := ff 5
 clear ff
 go_wp2_with fail
 refine (HL.out W1 b0).mono ?_
 rintro en W2 ⟨rfl, rfl⟩
 go_wp2
 obtain ⟨p1, p2, p3⟩ := HS1.out.put (23) (lowB rex op) (0) (0) (0) (0)
 exact bodyPost_ret (v := .agg #[.int .i64 (23), .int .i64 (lowB rex op), .int .i64 (0), .int .i64 (0), .int .i64 (0), .int .u64 (0)]) (results_cell_row rfl _ _ (w.heap.size + 1) 32 _ (0, 0) _ rfl p3 hu3 rfl rfl) rfl ⟨rfl, p1, p2⟩
set_option maxRecDepth 100000 in
set_option maxHeartbeats 4000000 in
theorem short_88 (k g : Nat) (s s1 s2 : ByteArray) (a a1 a2 : Int) (e e1 e2 : Bool) (rex op r1 r2 r3 r4 r5 r6 : Int) (half : Bool) (w : World) (hg : w.heap[g]? = some (rdO s a e)) (hn : x86_reader_next.f s a e = some (op, s1, a1, e1)) (hop : 88 ≤ op ∧ op < 96) (hr : 0 ≤ rex ∧ rex < 256) :
  Calls Try.prog 17 #[.pointer (some ⟨g, 0, none⟩), .int .u8 rex, .bool half] w (RdPost w g (.agg #[.int .i64 (24), .int .i64 (lowB rex op), .int .i64 (0), .int .i64 (0), .int .i64 (0), .int .u64 (0)]) s1 a1 e1) := by
 have HS0 := hide (Sh.start (rex := rex) hg)
 obtain ⟨b0, ⟨c0, c1, c2, c3, c4, c5⟩, ff⟩ := HS0.out.cells
 have f0 := ff 0
 have f1 := ff 1
 have f2 := ff 2
 have f3 := ff 3
 have f4 := ff 4
 have f5 := ff 5
 clear ff
 have hu3 := Try.underlying32
 have HN := hide (rd_next (g := g) hn)
 have HL := hide (fun (W : World) (hb : W.cell? ⟨w.heap.size, 0, none⟩ = some (.int .u8 rex)) => low_calls w.heap.size rex op W hr hb (by omega))
 have hto : op = 88 ∨ op = 89 ∨ op = 90 ∨ op = 91 ∨ op = 92 ∨ op = 93 ∨ op = 94 ∨ op = 95 := by omega
 have hb15 : (op == 15) = false := by rw [beq_eq_false_iff_ne]; omega
 have hb184 : (bits BinOp.and IntKind.u8 op 248 == 184) = false := by rcases hto with rfl | rfl | rfl | rfl | rfl | rfl | rfl | rfl <;> decide
 have hb80 : (bits BinOp.and IntKind.u8 op 248 == 80) = false := by rcases hto with rfl | rfl | rfl | rfl | rfl | rfl | rfl | rfl <;> decide
 have hb88 : (bits BinOp.and IntKind.u8 op 248 == 88) = true := by rcases hto with rfl | rfl | rfl | rfl | rfl | rfl | rfl | rfl <;> decide
 clear hto
 clear hop hr
 clear hg hn
 unfold boxed at *
 go_enter Try.func17, Try.ntmps17
 go_wp2_with fail
 refine (HN.out _ HS0.out.hg).mono ?_
 rintro en W1 ⟨rfl, h1, fr1⟩
 have HS1 := hide (HS0.out.next h1 fr1)
 clear h1 fr1 c0 c1 c2 c3 c4 c5 f0 f1 f2 f3 f4 f5 b0
 obtain ⟨b0, ⟨c0, c1, c2, c3, c4, c5⟩, ff⟩ := HS1.out.cells
 have f0 := ff 0
 have f1 := ff 1
 have f2 := ff 2
 have f3 := ff 3
 have f4 := ff 4
 have f5 := ff 5
 clear ff
 go_wp2_with fail
 refine (HL.out W1 b0).mono ?_
 rintro en W2 ⟨rfl, rfl⟩
 go_wp2
 obtain ⟨p1, p2, p3⟩ := HS1.out.put (24) (lowB rex op) (0) (0) (0) (0)
 exact bodyPost_ret (v := .agg #[.int .i64 (24), .int .i64 (lowB rex op), .int .i64 (0), .int .i64 (0), .int .i64 (0), .int .u64 (0)]) (results_cell_row rfl _ _ (w.heap.size + 1) 32 _ (0, 0) _ rfl p3 hu3 rfl rfl) rfl ⟨rfl, p1, p2⟩
set_option maxRecDepth 100000 in
set_option maxHeartbeats 4000000 in
theorem short_184 (k g : Nat) (s s1 s2 : ByteArray) (a a1 a2 : Int) (e e1 e2 : Bool) (rex op r1 r2 r3 r4 r5 r6 : Int) (half : Bool) (w : World) (hg : w.heap[g]? = some (rdO s a e)) (hn : x86_reader_next.f s a e = some (op, s1, a1, e1)) (n : Int) (hc : x86_reader_number.f k s1 a1 e1 8 = some (n, s2, a2, e2)) (hop : 184 ≤ op ∧ op < 192) (hr : 0 ≤ rex ∧ rex < 256) :
  Calls Try.prog 17 #[.pointer (some ⟨g, 0, none⟩), .int .u8 rex, .bool half] w (RdPost w g (.agg #[.int .i64 (2), .int .i64 (lowB rex op), .int .i64 (0), .int .i64 (0), .int .i64 (0), .int .u64 (n)]) s2 a2 e2) := by
 have HS0 := hide (Sh.start (rex := rex) hg)
 obtain ⟨b0, ⟨c0, c1, c2, c3, c4, c5⟩, ff⟩ := HS0.out.cells
 have f0 := ff 0
 have f1 := ff 1
 have f2 := ff 2
 have f3 := ff 3
 have f4 := ff 4
 have f5 := ff 5
 clear ff
 have hu3 := Try.underlying32
 have HN := hide (rd_next (g := g) hn)
 have HC := hide (rd_number (g := g) hc)
 have HL := hide (fun (W : World) (hb : W.cell? ⟨w.heap.size, 0, none⟩ = some (.int .u8 rex)) => low_calls w.heap.size rex op W hr hb (by omega))
 have hto : op = 184 ∨ op = 185 ∨ op = 186 ∨ op = 187 ∨ op = 188 ∨ op = 189 ∨ op = 190 ∨ op = 191 := by omega
 have hb15 : (op == 15) = false := by rw [beq_eq_false_iff_ne]; omega
 have hb184 : (bits BinOp.and IntKind.u8 op 248 == 184) = true := by rcases hto with rfl | rfl | rfl | rfl | rfl | rfl | rfl | rfl <;> decide
 clear hto
 clear hop hr
 clear hg hn
 unfold boxed at *
 go_enter Try.func17, Try.ntmps17
 go_wp2_with fail
 refine (HN.out _ HS0.out.hg).mono ?_
 rintro en W1 ⟨rfl, h1, fr1⟩
 have HS1 := hide (HS0.out.next h1 fr1)
 clear h1 fr1 c0 c1 c2 c3 c4 c5 f0 f1 f2 f3 f4 f5 b0
 obtain ⟨b0, ⟨c0, c1, c2, c3, c4, c5⟩, ff⟩ := HS1.out.cells
 have f0 := ff 0
 have f1 := ff 1
 have f2 := ff 2
 have f3 := ff 3
 have f4 := ff 4
 have f5 := ff 5
 clear ff
 go_wp2_with fail
 refine (HL.out W1 b0).mono ?_
 rintro en W2 ⟨rfl, rfl⟩
 go_wp2_with fail
 refine (HC.out _ HS1.out.hg).mono ?_
 rintro en W2 ⟨rfl, h1, fr1⟩
 have HS2 := hide (HS1.out.next h1 fr1)
 clear h1 fr1 c0 c1 c2 c3 c4 c5 f0 f1 f2 f3 f4 f5 b0
 obtain ⟨b0, ⟨c0, c1, c2, c3, c4, c5⟩, ff⟩ := HS2.out.cells
 have f0 := ff 0
 have f1 := ff 1
 have f2 := ff 2
 have f3 := ff 3
 have f4 := ff 4
 have f5 := ff 5
 clear ff
 go_wp2
 obtain ⟨p1, p2, p3⟩ := HS2.out.put (2) (lowB rex op) (0) (0) (0) (n)
 exact bodyPost_ret (v := .agg #[.int .i64 (2), .int .i64 (lowB rex op), .int .i64 (0), .int .i64 (0), .int .i64 (0), .int .u64 (n)]) (results_cell_row rfl _ _ (w.heap.size + 1) 32 _ (0, 0) _ rfl p3 hu3 rfl rfl) rfl ⟨rfl, p1, p2⟩
end Go.Proofs.Ytpahjllcomejbaa
