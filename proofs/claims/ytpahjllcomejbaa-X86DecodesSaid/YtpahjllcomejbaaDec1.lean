/- x86's Decode, way by way; condition: the place lies in the text. -/
import Derived.Test.YtpahjllcomejbaaDec0
import Derived.Test.YtpahjllcomejbaaShort6
set_option linter.unusedVariables false
set_option linter.unusedSimpArgs false
namespace Go.Proofs.Ytpahjllcomejbaa
open Go.RowKit Go.MapKept
open Go.Proofs.YtpahjllcomejbaaW.PrintWords Go.Proofs.YtpahjllcomejbaaW.PrintLast Go.Proofs.YtpahjllcomejbaaW.PrintMore
open PX86Encodes

set_option maxRecDepth 100000 in
set_option maxHeartbeats 4000000 in
theorem dec_arg1 (s : ByteArray) (a : Int) (w : World) (hlen : s.size ≤ 9223372036854775807) (h : a < 0) : Calls Try.prog 9 #[.string s, .int .i64 a] w fun e W => e = .returned (.tuple #[.agg #[.int .i64 0, .int .i64 0, .int .i64 0, .int .i64 0, .int .i64 0, .int .u64 0], .int .i64 0, .int .i64 1]) ∧ Below w.heap.size w W := by
 have hu3 := Try.underlying32
 have HZ := hide (heap_alloc_new w (boxed 0 0 0 0 0 0))
 have HB : Hid (Below w.heap.size w (w.alloc (boxed 0 0 0 0 0 0))) := hide (((Fr.refl [] w).alloc' _).below (Nat.le_refl _) (by simp))
 have t0 : decide (a < 0) = true := by simpa using h
 unfold boxed at *
 go_enter Try.func9, Try.ntmps9
 go_wp2
 exact bodyPost_ret (results_ctt rfl _ _ w.heap.size 32 _ (0, 0) _ rfl HZ.out hu3 rfl rfl) rfl ⟨rfl, HB.out⟩
set_option maxRecDepth 100000 in
set_option maxHeartbeats 4000000 in
theorem dec_arg2 (s : ByteArray) (a : Int) (w : World) (hlen : s.size ≤ 9223372036854775807) (h0 : 0 ≤ a) (h : s.size ≤ a) : Calls Try.prog 9 #[.string s, .int .i64 a] w fun e W => e = .returned (.tuple #[.agg #[.int .i64 0, .int .i64 0, .int .i64 0, .int .i64 0, .int .i64 0, .int .u64 0], .int .i64 0, .int .i64 1]) ∧ Below w.heap.size w W := by
 have hu3 := Try.underlying32
 have HZ := hide (heap_alloc_new w (boxed 0 0 0 0 0 0))
 have HB : Hid (Below w.heap.size w (w.alloc (boxed 0 0 0 0 0 0))) := hide (((Fr.refl [] w).alloc' _).below (Nat.le_refl _) (by simp))
 have t0 : decide (a < 0) = false := by simp; omega
 have t1 : decide ((s.size : Int) ≤ a) = true := by simpa using h
 unfold boxed at *
 go_enter Try.func9, Try.ntmps9
 go_wp2
 exact bodyPost_ret (results_ctt rfl _ _ w.heap.size 32 _ (0, 0) _ rfl HZ.out hu3 rfl rfl) rfl ⟨rfl, HB.out⟩
set_option maxRecDepth 100000 in
set_option maxHeartbeats 4000000 in
theorem dec_195_end (k : Nat) (s : ByteArray) (a a1 a2 : Int) (e1 e2 : Bool) (r1 r2 r3 r4 r5 r6 : Int) (w : World) (hlen : s.size ≤ 9223372036854775807) (ha : 0 ≤ a ∧ a < s.size) (hn : x86_reader_next.f s a false = some (195, s, a1, e1)) (ht : a2 = a1 ∧ e2 = e1) (h5 : 0 ≤ (0 : Int) ∧ (0 : Int) < 18446744073709551616) (he : e2 = true) :
  Calls Try.prog 9 #[.string s, .int .i64 a] w fun e W => e = .returned (.tuple #[.agg #[.int .i64 0, .int .i64 0, .int .i64 0, .int .i64 0, .int .i64 0, .int .u64 0], .int .i64 0, .int .i64 30]) ∧ Below w.heap.size w W := by
 have HD0 := hide (Dh.start w s a)
 obtain ⟨⟨z0, z1, z2, z3, z4, z5⟩, ⟨x0, x1, x2, x3, x4, x5⟩, fz, fx, ra, re⟩ := HD0.out.cells
 have fz0 := fz 0
 have fz1 := fz 1
 have fz2 := fz 2
 have fz3 := fz 3
 have fz4 := fz 4
 have fz5 := fz 5
 have fx0 := fx 0
 have fx1 := fx 1
 have fx2 := fx 2
 have fx3 := fx 3
 have fx4 := fx 4
 have fx5 := fx 5
 clear fz fx
 have hu3 := Try.underlying32
 have hu4 := Try.underlying47
 have HN := hide (fun W hg => rd_next (g := w.heap.size + 1) hn W hg)
 have HE := hide (enc_one (29) (0) (0) (0) (0) (0) h5)
 obtain ⟨rfl, rfl⟩ := ht
 have HP := hide h5
 obtain ⟨ha0, ha1⟩ := ha
 have ta0 : decide (a < 0) = false := by simp; omega
 have ta1 : decide ((s.size : Int) ≤ a) = false := by simp; omega
 clear hn h5
 subst he
 generalize (encR (encX [⟨29, 0, 0, 0, 0, 0⟩])).1 = S1 at *
 generalize (encR (encX [⟨29, 0, 0, 0, 0, 0⟩])).2 = E1 at *
 unfold boxed rdO at *
 go_enter Try.func9, Try.ntmps9
 go_wp2_with fail
 refine (HN.out _ HD0.out.hg).mono ?_
 rintro en W1 ⟨rfl, q1, q2⟩
 have HD1 := hide (HD0.out.next q1 q2)
 clear q1 q2
 clear z0 z1 z2 z3 z4 z5 x0 x1 x2 x3 x4 x5 fz0 fz1 fz2 fz3 fz4 fz5 fx0 fx1 fx2 fx3 fx4 fx5 ra re
 obtain ⟨⟨z0, z1, z2, z3, z4, z5⟩, ⟨x0, x1, x2, x3, x4, x5⟩, fz, fx, ra, re⟩ := HD1.out.cells
 have fz0 := fz 0
 have fz1 := fz 1
 have fz2 := fz 2
 have fz3 := fz 3
 have fz4 := fz 4
 have fz5 := fz 5
 have fx0 := fx 0
 have fx1 := fx 1
 have fx2 := fx 2
 have fx3 := fx 3
 have fx4 := fx 4
 have fx5 := fx 5
 clear fz fx
 go_wp2_with fail
 (with_reducible refine (HE.out _ _ ?_).mono ?_)
 simp [World.setCell]
 rintro en W5 ⟨rfl, q2⟩
 have HD5 := hide ((HD1.out.putx (29) (0) (0) (0) (0) (0)).more q2)
 clear q2
 clear z0 z1 z2 z3 z4 z5 x0 x1 x2 x3 x4 x5 fz0 fz1 fz2 fz3 fz4 fz5 fx0 fx1 fx2 fx3 fx4 fx5 ra re
 obtain ⟨⟨z0, z1, z2, z3, z4, z5⟩, ⟨x0, x1, x2, x3, x4, x5⟩, fz, fx, ra, re⟩ := HD5.out.cells
 have fz0 := fz 0
 have fz1 := fz 1
 have fz2 := fz 2
 have fz3 := fz 3
 have fz4 := fz 4
 have fz5 := fz 5
 have fx0 := fx 0
 have fx1 := fx 1
 have fx2 := fx 2
 have fx3 := fx 3
 have fx4 := fx 4
 have fx5 := fx 5
 clear fz fx
 go_wp2
 obtain ⟨p1, p2⟩ := HD5.out.putz (0) (0) (0) (0) (0) (0)
 exact bodyPost_ret (results_ctt rfl _ _ w.heap.size 32 _ (0, 0) _ rfl p1 hu3 rfl rfl) rfl ⟨rfl, p2⟩
set_option maxRecDepth 100000 in
set_option maxHeartbeats 4000000 in
theorem dec_233_end (k : Nat) (s : ByteArray) (a a1 a2 : Int) (e1 e2 : Bool) (r1 r2 r3 r4 r5 r6 : Int) (w : World) (hlen : s.size ≤ 9223372036854775807) (ha : 0 ≤ a ∧ a < s.size) (hn : x86_reader_next.f s a false = some (233, s, a1, e1)) (hc : x86_reader_imm.f k s a1 e1 = some (r5, s, a2, e2)) (h5 : 0 ≤ (0 : Int) ∧ (0 : Int) < 18446744073709551616) (he : e2 = true) :
  Calls Try.prog 9 #[.string s, .int .i64 a] w fun e W => e = .returned (.tuple #[.agg #[.int .i64 0, .int .i64 0, .int .i64 0, .int .i64 0, .int .i64 0, .int .u64 0], .int .i64 0, .int .i64 30]) ∧ Below w.heap.size w W := by
 have HD0 := hide (Dh.start w s a)
 obtain ⟨⟨z0, z1, z2, z3, z4, z5⟩, ⟨x0, x1, x2, x3, x4, x5⟩, fz, fx, ra, re⟩ := HD0.out.cells
 have fz0 := fz 0
 have fz1 := fz 1
 have fz2 := fz 2
 have fz3 := fz 3
 have fz4 := fz 4
 have fz5 := fz 5
 have fx0 := fx 0
 have fx1 := fx 1
 have fx2 := fx 2
 have fx3 := fx 3
 have fx4 := fx 4
 have fx5 := fx 5
 clear fz fx
 have hu3 := Try.underlying32
 have hu4 := Try.underlying47
 have HN := hide (fun W hg => rd_next (g := w.heap.size + 1) hn W hg)
 have HE := hide (enc_one (21) (0) (0) (0) (r5) (0) h5)
 have HC := hide (fun W hg => rd_imm (g := w.heap.size + 1) hc W hg)
 clear hc
 have HP := hide h5
 obtain ⟨ha0, ha1⟩ := ha
 have ta0 : decide (a < 0) = false := by simp; omega
 have ta1 : decide ((s.size : Int) ≤ a) = false := by simp; omega
 clear hn h5
 subst he
 generalize (encR (encX [⟨21, 0, 0, 0, r5, 0⟩])).1 = S1 at *
 generalize (encR (encX [⟨21, 0, 0, 0, r5, 0⟩])).2 = E1 at *
 unfold boxed rdO at *
 go_enter Try.func9, Try.ntmps9
 go_wp2_with fail
 refine (HN.out _ HD0.out.hg).mono ?_
 rintro en W1 ⟨rfl, q1, q2⟩
 have HD1 := hide (HD0.out.next q1 q2)
 clear q1 q2
 clear z0 z1 z2 z3 z4 z5 x0 x1 x2 x3 x4 x5 fz0 fz1 fz2 fz3 fz4 fz5 fx0 fx1 fx2 fx3 fx4 fx5 ra re
 obtain ⟨⟨z0, z1, z2, z3, z4, z5⟩, ⟨x0, x1, x2, x3, x4, x5⟩, fz, fx, ra, re⟩ := HD1.out.cells
 have fz0 := fz 0
 have fz1 := fz 1
 have fz2 := fz 2
 have fz3 := fz 3
 have fz4 := fz 4
 have fz5 := fz 5
 have fx0 := fx 0
 have fx1 := fx 1
 have fx2 := fx 2
 have fx3 := fx 3
 have fx4 := fx 4
 have fx5 := fx 5
 clear fz fx
 go_wp2_with fail
 refine (HC.out _ HD1.out.hg).mono ?_
 rintro en W2 ⟨rfl, q1, q2⟩
 have HD2 := hide (HD1.out.next q1 q2)
 clear q1 q2
 clear z0 z1 z2 z3 z4 z5 x0 x1 x2 x3 x4 x5 fz0 fz1 fz2 fz3 fz4 fz5 fx0 fx1 fx2 fx3 fx4 fx5 ra re
 obtain ⟨⟨z0, z1, z2, z3, z4, z5⟩, ⟨x0, x1, x2, x3, x4, x5⟩, fz, fx, ra, re⟩ := HD2.out.cells
 have fz0 := fz 0
 have fz1 := fz 1
 have fz2 := fz 2
 have fz3 := fz 3
 have fz4 := fz 4
 have fz5 := fz 5
 have fx0 := fx 0
 have fx1 := fx 1
 have fx2 := fx 2
 have fx3 := fx 3
 have fx4 := fx 4
 have fx5 := fx 5
 clear fz fx
 go_wp2_with fail
 (with_reducible refine (HE.out _ _ ?_).mono ?_)
 simp [World.setCell]
 rintro en W5 ⟨rfl, q2⟩
 have HD5 := hide ((HD2.out.putx (21) (0) (0) (0) (r5) (0)).more q2)
 clear q2
 clear z0 z1 z2 z3 z4 z5 x0 x1 x2 x3 x4 x5 fz0 fz1 fz2 fz3 fz4 fz5 fx0 fx1 fx2 fx3 fx4 fx5 ra re
 obtain ⟨⟨z0, z1, z2, z3, z4, z5⟩, ⟨x0, x1, x2, x3, x4, x5⟩, fz, fx, ra, re⟩ := HD5.out.cells
 have fz0 := fz 0
 have fz1 := fz 1
 have fz2 := fz 2
 have fz3 := fz 3
 have fz4 := fz 4
 have fz5 := fz 5
 have fx0 := fx 0
 have fx1 := fx 1
 have fx2 := fx 2
 have fx3 := fx 3
 have fx4 := fx 4
 have fx5 := fx 5
 clear fz fx
 go_wp2
 obtain ⟨p1, p2⟩ := HD5.out.putz (0) (0) (0) (0) (0) (0)
 exact bodyPost_ret (results_ctt rfl _ _ w.heap.size 32 _ (0, 0) _ rfl p1 hu3 rfl rfl) rfl ⟨rfl, p2⟩
set_option maxRecDepth 100000 in
set_option maxHeartbeats 4000000 in
theorem dec_15_end (k : Nat) (s : ByteArray) (a a1 a2 : Int) (e1 e2 : Bool) (r1 r2 r3 r4 r5 r6 : Int) (w : World) (hlen : s.size ≤ 9223372036854775807) (ha : 0 ≤ a ∧ a < s.size) (hn : x86_reader_next.f s a false = some (15, s, a1, e1)) (hc : x86_reader_long.f k s a1 e1 0 = some (r1, r2, r3, r4, r5, r6, s, a2, e2)) (h5 : 0 ≤ (r6 : Int) ∧ (r6 : Int) < 18446744073709551616) (he : e2 = true) :
  Calls Try.prog 9 #[.string s, .int .i64 a] w fun e W => e = .returned (.tuple #[.agg #[.int .i64 0, .int .i64 0, .int .i64 0, .int .i64 0, .int .i64 0, .int .u64 0], .int .i64 0, .int .i64 30]) ∧ Below w.heap.size w W := by
 have HD0 := hide (Dh.start w s a)
 obtain ⟨⟨z0, z1, z2, z3, z4, z5⟩, ⟨x0, x1, x2, x3, x4, x5⟩, fz, fx, ra, re⟩ := HD0.out.cells
 have fz0 := fz 0
 have fz1 := fz 1
 have fz2 := fz 2
 have fz3 := fz 3
 have fz4 := fz 4
 have fz5 := fz 5
 have fx0 := fx 0
 have fx1 := fx 1
 have fx2 := fx 2
 have fx3 := fx 3
 have fx4 := fx 4
 have fx5 := fx 5
 clear fz fx
 have hu3 := Try.underlying32
 have hu4 := Try.underlying47
 have HN := hide (fun W hg => rd_next (g := w.heap.size + 1) hn W hg)
 have HE := hide (enc_one (r1) (r2) (r3) (r4) (r5) (r6) h5)
 have HC := hide (fun W hg => rd_long (g := w.heap.size + 1) hc W hg)
 clear hc
 have HP := hide h5
 obtain ⟨ha0, ha1⟩ := ha
 have ta0 : decide (a < 0) = false := by simp; omega
 have ta1 : decide ((s.size : Int) ≤ a) = false := by simp; omega
 clear hn h5
 subst he
 generalize (encR (encX [⟨r1, r2, r3, r4, r5, r6⟩])).1 = S1 at *
 generalize (encR (encX [⟨r1, r2, r3, r4, r5, r6⟩])).2 = E1 at *
 unfold boxed rdO at *
 go_enter Try.func9, Try.ntmps9
 go_wp2_with fail
 refine (HN.out _ HD0.out.hg).mono ?_
 rintro en W1 ⟨rfl, q1, q2⟩
 have HD1 := hide (HD0.out.next q1 q2)
 clear q1 q2
 clear z0 z1 z2 z3 z4 z5 x0 x1 x2 x3 x4 x5 fz0 fz1 fz2 fz3 fz4 fz5 fx0 fx1 fx2 fx3 fx4 fx5 ra re
 obtain ⟨⟨z0, z1, z2, z3, z4, z5⟩, ⟨x0, x1, x2, x3, x4, x5⟩, fz, fx, ra, re⟩ := HD1.out.cells
 have fz0 := fz 0
 have fz1 := fz 1
 have fz2 := fz 2
 have fz3 := fz 3
 have fz4 := fz 4
 have fz5 := fz 5
 have fx0 := fx 0
 have fx1 := fx 1
 have fx2 := fx 2
 have fx3 := fx 3
 have fx4 := fx 4
 have fx5 := fx 5
 clear fz fx
 go_wp2_with fail
 refine (HC.out _ HD1.out.hg).mono ?_
 rintro en W2 ⟨rfl, q1, q2⟩
 have HD2 := hide (HD1.out.next q1 q2)
 clear q1 q2
 clear z0 z1 z2 z3 z4 z5 x0 x1 x2 x3 x4 x5 fz0 fz1 fz2 fz3 fz4 fz5 fx0 fx1 fx2 fx3 fx4 fx5 ra re
 obtain ⟨⟨z0, z1, z2, z3, z4, z5⟩, ⟨x0, x1, x2, x3, x4, x5⟩, fz, fx, ra, re⟩ := HD2.out.cells
 have fz0 := fz 0
 have fz1 := fz 1
 have fz2 := fz 2
 have fz3 := fz 3
 have fz4 := fz 4
 have fz5 := fz 5
 have fx0 := fx 0
 have fx1 := fx 1
 have fx2 := fx 2
 have fx3 := fx 3
 have fx4 := fx 4
 have fx5 := fx 5
 clear fz fx
 go_wp2_with fail
 (with_reducible refine (HE.out _ _ ?_).mono ?_)
 simp [World.setCell]
 rintro en W5 ⟨rfl, q2⟩
 have HD5 := hide ((HD2.out.putx (r1) (r2) (r3) (r4) (r5) (r6)).more q2)
 clear q2
 clear z0 z1 z2 z3 z4 z5 x0 x1 x2 x3 x4 x5 fz0 fz1 fz2 fz3 fz4 fz5 fx0 fx1 fx2 fx3 fx4 fx5 ra re
 obtain ⟨⟨z0, z1, z2, z3, z4, z5⟩, ⟨x0, x1, x2, x3, x4, x5⟩, fz, fx, ra, re⟩ := HD5.out.cells
 have fz0 := fz 0
 have fz1 := fz 1
 have fz2 := fz 2
 have fz3 := fz 3
 have fz4 := fz 4
 have fz5 := fz 5
 have fx0 := fx 0
 have fx1 := fx 1
 have fx2 := fx 2
 have fx3 := fx 3
 have fx4 := fx 4
 have fx5 := fx 5
 clear fz fx
 go_wp2
 obtain ⟨p1, p2⟩ := HD5.out.putz (0) (0) (0) (0) (0) (0)
 exact bodyPost_ret (results_ctt rfl _ _ w.heap.size 32 _ (0, 0) _ rfl p1 hu3 rfl rfl) rfl ⟨rfl, p2⟩
set_option maxRecDepth 100000 in
set_option maxHeartbeats 4000000 in
theorem dec_102_end (k : Nat) (s : ByteArray) (a a1 a2 : Int) (e1 e2 : Bool) (r1 r2 r3 r4 r5 r6 : Int) (w : World) (hlen : s.size ≤ 9223372036854775807) (ha : 0 ≤ a ∧ a < s.size) (hn : x86_reader_next.f s a false = some (102, s, a1, e1)) (b2 a3 : Int) (e3 : Bool) (hc2 : x86_reader_next.f s a1 e1 = some (b2, s, a3, e3)) (hc : shortF k s a3 e3 b2 true = some (r1, r2, r3, r4, r5, r6, s, a2, e2)) (h5 : 0 ≤ (r6 : Int) ∧ (r6 : Int) < 18446744073709551616) (he : e2 = true) :
  Calls Try.prog 9 #[.string s, .int .i64 a] w fun e W => e = .returned (.tuple #[.agg #[.int .i64 0, .int .i64 0, .int .i64 0, .int .i64 0, .int .i64 0, .int .u64 0], .int .i64 0, .int .i64 30]) ∧ Below w.heap.size w W := by
 have HD0 := hide (Dh.start w s a)
 obtain ⟨⟨z0, z1, z2, z3, z4, z5⟩, ⟨x0, x1, x2, x3, x4, x5⟩, fz, fx, ra, re⟩ := HD0.out.cells
 have fz0 := fz 0
 have fz1 := fz 1
 have fz2 := fz 2
 have fz3 := fz 3
 have fz4 := fz 4
 have fz5 := fz 5
 have fx0 := fx 0
 have fx1 := fx 1
 have fx2 := fx 2
 have fx3 := fx 3
 have fx4 := fx 4
 have fx5 := fx 5
 clear fz fx
 have hu3 := Try.underlying32
 have hu4 := Try.underlying47
 have HN := hide (fun W hg => rd_next (g := w.heap.size + 1) hn W hg)
 have HE := hide (enc_one (r1) (r2) (r3) (r4) (r5) (r6) h5)
 have HC2 := hide (fun W hg => rd_next (g := w.heap.size + 1) hc2 W hg)
 have HC := hide (fun (W : World) (hg : W.heap[w.heap.size + 1]? = some (rdO s a3 e3)) => short_calls k (w.heap.size + 1) s s a3 a2 e3 e2 b2 r1 r2 r3 r4 r5 r6 true W hg (next_byte hc2) hc)
 clear hc hc2
 have HP := hide h5
 obtain ⟨ha0, ha1⟩ := ha
 have ta0 : decide (a < 0) = false := by simp; omega
 have ta1 : decide ((s.size : Int) ≤ a) = false := by simp; omega
 clear hn h5
 subst he
 generalize (encR (encX [⟨r1, r2, r3, r4, r5, r6⟩])).1 = S1 at *
 generalize (encR (encX [⟨r1, r2, r3, r4, r5, r6⟩])).2 = E1 at *
 unfold boxed rdO at *
 go_enter Try.func9, Try.ntmps9
 go_wp2_with fail
 refine (HN.out _ HD0.out.hg).mono ?_
 rintro en W1 ⟨rfl, q1, q2⟩
 have HD1 := hide (HD0.out.next q1 q2)
 clear q1 q2
 clear z0 z1 z2 z3 z4 z5 x0 x1 x2 x3 x4 x5 fz0 fz1 fz2 fz3 fz4 fz5 fx0 fx1 fx2 fx3 fx4 fx5 ra re
 obtain ⟨⟨z0, z1, z2, z3, z4, z5⟩, ⟨x0, x1, x2, x3, x4, x5⟩, fz, fx, ra, re⟩ := HD1.out.cells
 have fz0 := fz 0
 have fz1 := fz 1
 have fz2 := fz 2
 have fz3 := fz 3
 have fz4 := fz 4
 have fz5 := fz 5
 have fx0 := fx 0
 have fx1 := fx 1
 have fx2 := fx 2
 have fx3 := fx 3
 have fx4 := fx 4
 have fx5 := fx 5
 clear fz fx
 go_wp2_with fail
 refine (HC2.out _ HD1.out.hg).mono ?_
 rintro en W2 ⟨rfl, q1, q2⟩
 have HD2 := hide (HD1.out.next q1 q2)
 clear q1 q2
 clear z0 z1 z2 z3 z4 z5 x0 x1 x2 x3 x4 x5 fz0 fz1 fz2 fz3 fz4 fz5 fx0 fx1 fx2 fx3 fx4 fx5 ra re
 obtain ⟨⟨z0, z1, z2, z3, z4, z5⟩, ⟨x0, x1, x2, x3, x4, x5⟩, fz, fx, ra, re⟩ := HD2.out.cells
 have fz0 := fz 0
 have fz1 := fz 1
 have fz2 := fz 2
 have fz3 := fz 3
 have fz4 := fz 4
 have fz5 := fz 5
 have fx0 := fx 0
 have fx1 := fx 1
 have fx2 := fx 2
 have fx3 := fx 3
 have fx4 := fx 4
 have fx5 := fx 5
 clear fz fx
 go_wp2_with fail
 refine (HC.out _ HD2.out.hg).mono ?_
 rintro en W3 ⟨rfl, q1, q2⟩
 have HD3 := hide (HD2.out.next q1 q2)
 clear q1 q2
 clear z0 z1 z2 z3 z4 z5 x0 x1 x2 x3 x4 x5 fz0 fz1 fz2 fz3 fz4 fz5 fx0 fx1 fx2 fx3 fx4 fx5 ra re
 obtain ⟨⟨z0, z1, z2, z3, z4, z5⟩, ⟨x0, x1, x2, x3, x4, x5⟩, fz, fx, ra, re⟩ := HD3.out.cells
 have fz0 := fz 0
 have fz1 := fz 1
 have fz2 := fz 2
 have fz3 := fz 3
 have fz4 := fz 4
 have fz5 := fz 5
 have fx0 := fx 0
 have fx1 := fx 1
 have fx2 := fx 2
 have fx3 := fx 3
 have fx4 := fx 4
 have fx5 := fx 5
 clear fz fx
 go_wp2_with fail
 (with_reducible refine (HE.out _ _ ?_).mono ?_)
 simp [World.setCell]
 rintro en W5 ⟨rfl, q2⟩
 have HD5 := hide ((HD3.out.putx (r1) (r2) (r3) (r4) (r5) (r6)).more q2)
 clear q2
 clear z0 z1 z2 z3 z4 z5 x0 x1 x2 x3 x4 x5 fz0 fz1 fz2 fz3 fz4 fz5 fx0 fx1 fx2 fx3 fx4 fx5 ra re
 obtain ⟨⟨z0, z1, z2, z3, z4, z5⟩, ⟨x0, x1, x2, x3, x4, x5⟩, fz, fx, ra, re⟩ := HD5.out.cells
 have fz0 := fz 0
 have fz1 := fz 1
 have fz2 := fz 2
 have fz3 := fz 3
 have fz4 := fz 4
 have fz5 := fz 5
 have fx0 := fx 0
 have fx1 := fx 1
 have fx2 := fx 2
 have fx3 := fx 3
 have fx4 := fx 4
 have fx5 := fx 5
 clear fz fx
 go_wp2
 obtain ⟨p1, p2⟩ := HD5.out.putz (0) (0) (0) (0) (0) (0)
 exact bodyPost_ret (results_ctt rfl _ _ w.heap.size 32 _ (0, 0) _ rfl p1 hu3 rfl rfl) rfl ⟨rfl, p2⟩
set_option maxRecDepth 100000 in
set_option maxHeartbeats 4000000 in
theorem dec_4_end (k : Nat) (s : ByteArray) (a a1 a2 : Int) (e1 e2 : Bool) (r1 r2 r3 r4 r5 r6 b : Int) (w : World) (hlen : s.size ≤ 9223372036854775807) (ha : 0 ≤ a ∧ a < s.size) (hn : x86_reader_next.f s a false = some (b, s, a1, e1)) (hb : 64 ≤ b ∧ b < 80) (hc : shortF k s a1 e1 b false = some (r1, r2, r3, r4, r5, r6, s, a2, e2)) (h5 : 0 ≤ (r6 : Int) ∧ (r6 : Int) < 18446744073709551616) (he : e2 = true) :
  Calls Try.prog 9 #[.string s, .int .i64 a] w fun e W => e = .returned (.tuple #[.agg #[.int .i64 0, .int .i64 0, .int .i64 0, .int .i64 0, .int .i64 0, .int .u64 0], .int .i64 0, .int .i64 30]) ∧ Below w.heap.size w W := by
 have HD0 := hide (Dh.start w s a)
 obtain ⟨⟨z0, z1, z2, z3, z4, z5⟩, ⟨x0, x1, x2, x3, x4, x5⟩, fz, fx, ra, re⟩ := HD0.out.cells
 have fz0 := fz 0
 have fz1 := fz 1
 have fz2 := fz 2
 have fz3 := fz 3
 have fz4 := fz 4
 have fz5 := fz 5
 have fx0 := fx 0
 have fx1 := fx 1
 have fx2 := fx 2
 have fx3 := fx 3
 have fx4 := fx 4
 have fx5 := fx 5
 clear fz fx
 have hu3 := Try.underlying32
 have hu4 := Try.underlying47
 have HN := hide (fun W hg => rd_next (g := w.heap.size + 1) hn W hg)
 have HE := hide (enc_one (r1) (r2) (r3) (r4) (r5) (r6) h5)
 have HC := hide (fun (W : World) (hg : W.heap[w.heap.size + 1]? = some (rdO s a1 e1)) => short_calls k (w.heap.size + 1) s s a1 a2 e1 e2 b r1 r2 r3 r4 r5 r6 false W hg (next_byte hn) hc)
 have k4 : b / 16 = 4 := by omega
 have kb195 : (b == 195) = false := by rw [beq_eq_false_iff_ne]; omega
 have kb233 : (b == 233) = false := by rw [beq_eq_false_iff_ne]; omega
 have kb15 : (b == 15) = false := by rw [beq_eq_false_iff_ne]; omega
 have kb102 : (b == 102) = false := by rw [beq_eq_false_iff_ne]; omega
 have kb0 : 0 ≤ b := by omega
 have kb1 : b < 256 := by omega
 clear hc hb
 have HP := hide h5
 obtain ⟨ha0, ha1⟩ := ha
 have ta0 : decide (a < 0) = false := by simp; omega
 have ta1 : decide ((s.size : Int) ≤ a) = false := by simp; omega
 clear hn h5
 subst he
 generalize (encR (encX [⟨r1, r2, r3, r4, r5, r6⟩])).1 = S1 at *
 generalize (encR (encX [⟨r1, r2, r3, r4, r5, r6⟩])).2 = E1 at *
 unfold boxed rdO at *
 go_enter Try.func9, Try.ntmps9
 go_wp2_with fail
 refine (HN.out _ HD0.out.hg).mono ?_
 rintro en W1 ⟨rfl, q1, q2⟩
 have HD1 := hide (HD0.out.next q1 q2)
 clear q1 q2
 clear z0 z1 z2 z3 z4 z5 x0 x1 x2 x3 x4 x5 fz0 fz1 fz2 fz3 fz4 fz5 fx0 fx1 fx2 fx3 fx4 fx5 ra re
 obtain ⟨⟨z0, z1, z2, z3, z4, z5⟩, ⟨x0, x1, x2, x3, x4, x5⟩, fz, fx, ra, re⟩ := HD1.out.cells
 have fz0 := fz 0
 have fz1 := fz 1
 have fz2 := fz 2
 have fz3 := fz 3
 have fz4 := fz 4
 have fz5 := fz 5
 have fx0 := fx 0
 have fx1 := fx 1
 have fx2 := fx 2
 have fx3 := fx 3
 have fx4 := fx 4
 have fx5 := fx 5
 clear fz fx
 go_wp2_with fail
 refine (HC.out _ HD1.out.hg).mono ?_
 rintro en W2 ⟨rfl, q1, q2⟩
 have HD2 := hide (HD1.out.next q1 q2)
 clear q1 q2
 clear z0 z1 z2 z3 z4 z5 x0 x1 x2 x3 x4 x5 fz0 fz1 fz2 fz3 fz4 fz5 fx0 fx1 fx2 fx3 fx4 fx5 ra re
 obtain ⟨⟨z0, z1, z2, z3, z4, z5⟩, ⟨x0, x1, x2, x3, x4, x5⟩, fz, fx, ra, re⟩ := HD2.out.cells
 have fz0 := fz 0
 have fz1 := fz 1
 have fz2 := fz 2
 have fz3 := fz 3
 have fz4 := fz 4
 have fz5 := fz 5
 have fx0 := fx 0
 have fx1 := fx 1
 have fx2 := fx 2
 have fx3 := fx 3
 have fx4 := fx 4
 have fx5 := fx 5
 clear fz fx
 go_wp2_with fail
 (with_reducible refine (HE.out _ _ ?_).mono ?_)
 simp [World.setCell]
 rintro en W5 ⟨rfl, q2⟩
 have HD5 := hide ((HD2.out.putx (r1) (r2) (r3) (r4) (r5) (r6)).more q2)
 clear q2
 clear z0 z1 z2 z3 z4 z5 x0 x1 x2 x3 x4 x5 fz0 fz1 fz2 fz3 fz4 fz5 fx0 fx1 fx2 fx3 fx4 fx5 ra re
 obtain ⟨⟨z0, z1, z2, z3, z4, z5⟩, ⟨x0, x1, x2, x3, x4, x5⟩, fz, fx, ra, re⟩ := HD5.out.cells
 have fz0 := fz 0
 have fz1 := fz 1
 have fz2 := fz 2
 have fz3 := fz 3
 have fz4 := fz 4
 have fz5 := fz 5
 have fx0 := fx 0
 have fx1 := fx 1
 have fx2 := fx 2
 have fx3 := fx 3
 have fx4 := fx 4
 have fx5 := fx 5
 clear fz fx
 go_wp2
 obtain ⟨p1, p2⟩ := HD5.out.putz (0) (0) (0) (0) (0) (0)
 exact bodyPost_ret (results_ctt rfl _ _ w.heap.size 32 _ (0, 0) _ rfl p1 hu3 rfl rfl) rfl ⟨rfl, p2⟩
set_option maxRecDepth 100000 in
set_option maxHeartbeats 4000000 in
theorem dec_no_end (k : Nat) (s : ByteArray) (a a1 a2 : Int) (e1 e2 : Bool) (r1 r2 r3 r4 r5 r6 b : Int) (w : World) (hlen : s.size ≤ 9223372036854775807) (ha : 0 ≤ a ∧ a < s.size) (hn : x86_reader_next.f s a false = some (b, s, a1, e1)) (ht : a2 = a1 ∧ e2 = e1) (hb : b ≠ 195 ∧ b ≠ 233 ∧ b ≠ 15 ∧ b ≠ 102 ∧ b / 16 ≠ 4 ∧ 0 ≤ b ∧ b < 256) (h5 : 0 ≤ (0 : Int) ∧ (0 : Int) < 18446744073709551616) (he : e2 = true) :
  Calls Try.prog 9 #[.string s, .int .i64 a] w fun e W => e = .returned (.tuple #[.agg #[.int .i64 0, .int .i64 0, .int .i64 0, .int .i64 0, .int .i64 0, .int .u64 0], .int .i64 0, .int .i64 30]) ∧ Below w.heap.size w W := by
 have HD0 := hide (Dh.start w s a)
 obtain ⟨⟨z0, z1, z2, z3, z4, z5⟩, ⟨x0, x1, x2, x3, x4, x5⟩, fz, fx, ra, re⟩ := HD0.out.cells
 have fz0 := fz 0
 have fz1 := fz 1
 have fz2 := fz 2
 have fz3 := fz 3
 have fz4 := fz 4
 have fz5 := fz 5
 have fx0 := fx 0
 have fx1 := fx 1
 have fx2 := fx 2
 have fx3 := fx 3
 have fx4 := fx 4
 have fx5 := fx 5
 clear fz fx
 have hu3 := Try.underlying32
 have hu4 := Try.underlying47
 have HN := hide (fun W hg => rd_next (g := w.heap.size + 1) hn W hg)
 have HE := hide (enc_one (0) (0) (0) (0) (0) (0) h5)
 obtain ⟨rfl, rfl⟩ := ht
 have kb195 : (b == 195) = false := by rw [beq_eq_false_iff_ne]; omega
 have kb233 : (b == 233) = false := by rw [beq_eq_false_iff_ne]; omega
 have kb15 : (b == 15) = false := by rw [beq_eq_false_iff_ne]; omega
 have kb102 : (b == 102) = false := by rw [beq_eq_false_iff_ne]; omega
 have k4 : (b / 16 == 4) = false := by rw [beq_eq_false_iff_ne]; omega
 have kb0 : 0 ≤ b := by omega
 have kb1 : b < 256 := by omega
 clear hb
 have HP := hide h5
 obtain ⟨ha0, ha1⟩ := ha
 have ta0 : decide (a < 0) = false := by simp; omega
 have ta1 : decide ((s.size : Int) ≤ a) = false := by simp; omega
 clear hn h5
 subst he
 generalize (encR (encX [⟨0, 0, 0, 0, 0, 0⟩])).1 = S1 at *
 generalize (encR (encX [⟨0, 0, 0, 0, 0, 0⟩])).2 = E1 at *
 unfold boxed rdO at *
 go_enter Try.func9, Try.ntmps9
 go_wp2_with fail
 refine (HN.out _ HD0.out.hg).mono ?_
 rintro en W1 ⟨rfl, q1, q2⟩
 have HD1 := hide (HD0.out.next q1 q2)
 clear q1 q2
 clear z0 z1 z2 z3 z4 z5 x0 x1 x2 x3 x4 x5 fz0 fz1 fz2 fz3 fz4 fz5 fx0 fx1 fx2 fx3 fx4 fx5 ra re
 obtain ⟨⟨z0, z1, z2, z3, z4, z5⟩, ⟨x0, x1, x2, x3, x4, x5⟩, fz, fx, ra, re⟩ := HD1.out.cells
 have fz0 := fz 0
 have fz1 := fz 1
 have fz2 := fz 2
 have fz3 := fz 3
 have fz4 := fz 4
 have fz5 := fz 5
 have fx0 := fx 0
 have fx1 := fx 1
 have fx2 := fx 2
 have fx3 := fx 3
 have fx4 := fx 4
 have fx5 := fx 5
 clear fz fx
 go_wp2_with fail
 (with_reducible refine (HE.out _ _ ?_).mono ?_)
 simp [World.setCell]
 rintro en W5 ⟨rfl, q2⟩
 have HD5 := hide (HD1.out.more q2)
 clear q2
 clear z0 z1 z2 z3 z4 z5 x0 x1 x2 x3 x4 x5 fz0 fz1 fz2 fz3 fz4 fz5 fx0 fx1 fx2 fx3 fx4 fx5 ra re
 obtain ⟨⟨z0, z1, z2, z3, z4, z5⟩, ⟨x0, x1, x2, x3, x4, x5⟩, fz, fx, ra, re⟩ := HD5.out.cells
 have fz0 := fz 0
 have fz1 := fz 1
 have fz2 := fz 2
 have fz3 := fz 3
 have fz4 := fz 4
 have fz5 := fz 5
 have fx0 := fx 0
 have fx1 := fx 1
 have fx2 := fx 2
 have fx3 := fx 3
 have fx4 := fx 4
 have fx5 := fx 5
 clear fz fx
 go_wp2
 obtain ⟨p1, p2⟩ := HD5.out.putz (0) (0) (0) (0) (0) (0)
 exact bodyPost_ret (results_ctt rfl _ _ w.heap.size 32 _ (0, 0) _ rfl p1 hu3 rfl rfl) rfl ⟨rfl, p2⟩
end Go.Proofs.Ytpahjllcomejbaa
