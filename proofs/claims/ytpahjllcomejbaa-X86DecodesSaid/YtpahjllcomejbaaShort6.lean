/- Several texts of this claim in one: each is told where it begins. -/
import Derived.Test.YtpahjllcomejbaaRd
import Derived.Test.YtpahjllcomejbaaX86Bits
import Derived.Test.YtpahjllcomejbaaShort1
import Derived.Test.YtpahjllcomejbaaShort2
import Derived.Test.YtpahjllcomejbaaShort3
import Derived.Test.YtpahjllcomejbaaShort4
/- The reader's short, way by way; condition: the reader lies in memory. -/
set_option linter.unusedVariables false
set_option linter.unusedSimpArgs false
namespace Go.Proofs.Ytpahjllcomejbaa
open Go.RowKit Go.MapKept
open Go.Proofs.YtpahjllcomejbaaW.PrintWords Go.Proofs.YtpahjllcomejbaaW.PrintLast Go.Proofs.YtpahjllcomejbaaW.PrintMore
open PX86Encodes

def TwoRel'' (w : World) (g : Nat) (rex : Int) (s : ByteArray) (a : Int) (e : Bool) (T : Nat) (v : Value) (wr : World) : Prop := ∃ i : Nat, 3 ≤ i ∧ i ≤ T ∧ v = .int .i64 (i : Int) ∧ Sh w wr g rex s a e
set_option maxRecDepth 100000 in
set_option maxHeartbeats 4000000 in
theorem short_two (k g : Nat) (s s1 s2 : ByteArray) (a a1 a2 : Int) (e e1 e2 : Bool) (rex op r1 r2 r3 r4 r5 r6 : Int) (half : Bool) (w : World) (hg : w.heap[g]? = some (rdO s a e)) (hn : x86_reader_next.f s a e = some (op, s1, a1, e1)) (mem : Bool) (q d : Int) (hc : x86_reader_fields.f s1 a1 e1 rex = some (mem, q, d, s2, a2, e2)) (hop : op ≠ 15 ∧ op ≠ 153 ∧ op ≠ 99 ∧ op ≠ 139 ∧ op ≠ 136 ∧ op ≠ 137 ∧ op ≠ 211 ∧ op ≠ 247) (hb1 : (bits BinOp.and IntKind.u8 op 248 == 184) = false) (hb2 : (bits BinOp.and IntKind.u8 op 248 == 80) = false) (hb3 : (bits BinOp.and IntKind.u8 op 248 == 88) = false) (T : Nat) (hT : 3 ≤ T ∧ T ≤ 9) (hm : twoB T = op) (hno : ∀ j : Nat, 3 ≤ j → j < T → twoB j ≠ op) :
  Calls Try.prog 17 #[.pointer (some ⟨g, 0, none⟩), .int .u8 rex, .bool half] w (RdPost w g (.agg #[.int .i64 (T), .int .i64 (d), .int .i64 (q), .int .i64 (0), .int .i64 (0), .int .u64 (0)]) s2 a2 e2) := by
 have HS0 := hide (Sh.start (rex := rex) hg)
 obtain ⟨b0, ⟨c0, c1, c2, c3, c4, c5⟩, ff⟩ := HS0.out.cells
 have f0 := ff 0
 have f1 := ff 1
 have f2 := ff 2
 have f3 := ff 3
 have f4 := ff 4
 have f5 := ff 5
 clear ff
 have hu3 := Try.underlying32
 have HN := hide (rd_next (g := g) hn)
 have HC := hide (rd_fields (g := g) hc)
 have o15 : (op == 15) = false := by rw [beq_eq_false_iff_ne]; omega
 have o153 : (op == 153) = false := by rw [beq_eq_false_iff_ne]; omega
 have o99 : (op == 99) = false := by rw [beq_eq_false_iff_ne]; omega
 have o139 : (op == 139) = false := by rw [beq_eq_false_iff_ne]; omega
 have o136 : (op == 136) = false := by rw [beq_eq_false_iff_ne]; omega
 have o137 : (op == 137) = false := by rw [beq_eq_false_iff_ne]; omega
 have o211 : (op == 211) = false := by rw [beq_eq_false_iff_ne]; omega
 have o247 : (op == 247) = false := by rw [beq_eq_false_iff_ne]; omega
 have HNO := hide hno
 clear hop hno
 have HM := hide hm
 obtain ⟨hT0, hT1⟩ := hT
 clear hm
 clear hg hn
 unfold boxed at *
 go_enter Try.func17, Try.ntmps17
 go_wp2_with fail
 refine (HN.out _ HS0.out.hg).mono ?_
 rintro en W1 ⟨rfl, h1, fr1⟩
 have HS1 := hide (HS0.out.next h1 fr1)
 clear h1 fr1 c0 c1 c2 c3 c4 c5 f0 f1 f2 f3 f4 f5 b0
 obtain ⟨b0, ⟨c0, c1, c2, c3, c4, c5⟩, ff⟩ := HS1.out.cells
 have f0 := ff 0
 have f1 := ff 1
 have f2 := ff 2
 have f3 := ff 3
 have f4 := ff 4
 have f5 := ff 5
 clear ff
 go_wp2_with fail
 refine (HC.out _ HS1.out.hg).mono ?_
 rintro en W2 ⟨rfl, h1, fr1⟩
 have HS2 := hide (HS1.out.next h1 fr1)
 clear h1 fr1 c0 c1 c2 c3 c4 c5 f0 f1 f2 f3 f4 f5 b0
 obtain ⟨b0, ⟨c0, c1, c2, c3, c4, c5⟩, ff⟩ := HS2.out.cells
 have f0 := ff 0
 have f1 := ff 1
 have f2 := ff 2
 have f3 := ff 3
 have f4 := ff 4
 have f5 := ff 5
 clear ff
 have HR0 := hide (show TwoRel'' w g rex s2 a2 e2 T (.int .i64 3) W2 from ⟨3, by omega, by omega, rfl, HS2.out⟩)
 go_wp2_with fail
 go_loopw [20] (fun v wr => TwoRel'' w g rex s2 a2 e2 T v wr) (fun v _ => 10 - (intOf v).toNat)
 case atStart => exact HR0.out
 case round =>
  clear c0 c1 c2 c3 c4 c5 f0 f1 f2 f3 f4 f5 b0
  obtain ⟨i, hi3, hi, rfl, hsh⟩ := hrel
  have HS3 := hide hsh
  clear hsh
  obtain ⟨wo, rfl⟩ : ∃ wo : World, wo = wr := ⟨_, rfl⟩
  have HO := hide (two_calls (i : Int) wo)
  by_cases hlt : i < T
  ·
   have hq : (twoB (i : Int) == op) = false := by rw [beq_eq_false_iff_ne]; exact HNO.out i hi3 hlt
   have hi9 : (i : Int) ≤ 9 := by omega
   go_wp2_with fail
   refine HO.out.mono ?_
   rintro en W4 ⟨rfl, fr4⟩
   have HS4 := hide (HS3.out.more fr4)
   clear fr4
   have HX := hide (show TwoRel'' w g rex s2 a2 e2 T (.int .i64 ((i : Int) + 1)) W4 from ⟨i + 1, by omega, by omega, rfl, HS4.out⟩)
   go_wp2
   exact ⟨HX.out, by simp [intOf]; omega⟩
  ·
   obtain rfl : i = T := by omega
   have hq : (twoB (i : Int) == op) = true := by rw [beq_iff_eq]; exact HM.out
   have hi9 : (i : Int) ≤ 9 := by omega
   go_wp2_with fail
   refine HO.out.mono ?_
   rintro en W4 ⟨rfl, fr4⟩
   have HS4 := hide (HS3.out.more fr4)
   clear fr4
   obtain ⟨b0, ⟨c0, c1, c2, c3, c4, c5⟩, ff⟩ := HS4.out.cells
   have f0 := ff 0
   have f1 := ff 1
   have f2 := ff 2
   have f3 := ff 3
   have f4 := ff 4
   have f5 := ff 5
   clear ff
   go_wp2
   obtain ⟨p1, p2, p3⟩ := HS4.out.put (i) (d) (q) (0) (0) (0)
   exact bodyPost_ret (v := .agg #[.int .i64 (i), .int .i64 (d), .int .i64 (q), .int .i64 (0), .int .i64 (0), .int .u64 (0)]) (results_cell_row rfl _ _ (w.heap.size + 1) 32 _ (0, 0) _ rfl p3 hu3 rfl rfl) rfl ⟨rfl, p1, p2⟩
set_option maxRecDepth 100000 in
set_option maxHeartbeats 4000000 in
theorem short_none (k g : Nat) (s s1 s2 : ByteArray) (a a1 a2 : Int) (e e1 e2 : Bool) (rex op r1 r2 r3 r4 r5 r6 : Int) (half : Bool) (w : World) (hg : w.heap[g]? = some (rdO s a e)) (hn : x86_reader_next.f s a e = some (op, s1, a1, e1)) (mem : Bool) (q d : Int) (hc : x86_reader_fields.f s1 a1 e1 rex = some (mem, q, d, s2, a2, e2)) (hop : op ≠ 15 ∧ op ≠ 153 ∧ op ≠ 99 ∧ op ≠ 139 ∧ op ≠ 136 ∧ op ≠ 137 ∧ op ≠ 211 ∧ op ≠ 247) (hb1 : (bits BinOp.and IntKind.u8 op 248 == 184) = false) (hb2 : (bits BinOp.and IntKind.u8 op 248 == 80) = false) (hb3 : (bits BinOp.and IntKind.u8 op 248 == 88) = false) (hno : ∀ j : Nat, 3 ≤ j → j < 10 → twoB j ≠ op) :
  Calls Try.prog 17 #[.pointer (some ⟨g, 0, none⟩), .int .u8 rex, .bool half] w (RdPost w g (.agg #[.int .i64 (0), .int .i64 (0), .int .i64 (0), .int .i64 (0), .int .i64 (0), .int .u64 (0)]) s2 a2 e2) := by
 have HS0 := hide (Sh.start (rex := rex) hg)
 obtain ⟨b0, ⟨c0, c1, c2, c3, c4, c5⟩, ff⟩ := HS0.out.cells
 have f0 := ff 0
 have f1 := ff 1
 have f2 := ff 2
 have f3 := ff 3
 have f4 := ff 4
 have f5 := ff 5
 clear ff
 have hu3 := Try.underlying32
 have HN := hide (rd_next (g := g) hn)
 have HC := hide (rd_fields (g := g) hc)
 have o15 : (op == 15) = false := by rw [beq_eq_false_iff_ne]; omega
 have o153 : (op == 153) = false := by rw [beq_eq_false_iff_ne]; omega
 have o99 : (op == 99) = false := by rw [beq_eq_false_iff_ne]; omega
 have o139 : (op == 139) = false := by rw [beq_eq_false_iff_ne]; omega
 have o136 : (op == 136) = false := by rw [beq_eq_false_iff_ne]; omega
 have o137 : (op == 137) = false := by rw [beq_eq_false_iff_ne]; omega
 have o211 : (op == 211) = false := by rw [beq_eq_false_iff_ne]; omega
 have o247 : (op == 247) = false := by rw [beq_eq_false_iff_ne]; omega
 have HNO := hide hno
 clear hop hno
 clear hg hn
 unfold boxed at *
 go_enter Try.func17, Try.ntmps17
 go_wp2_with fail
 refine (HN.out _ HS0.out.hg).mono ?_
 rintro en W1 ⟨rfl, h1, fr1⟩
 have HS1 := hide (HS0.out.next h1 fr1)
 clear h1 fr1 c0 c1 c2 c3 c4 c5 f0 f1 f2 f3 f4 f5 b0
 obtain ⟨b0, ⟨c0, c1, c2, c3, c4, c5⟩, ff⟩ := HS1.out.cells
 have f0 := ff 0
 have f1 := ff 1
 have f2 := ff 2
 have f3 := ff 3
 have f4 := ff 4
 have f5 := ff 5
 clear ff
 go_wp2_with fail
 refine (HC.out _ HS1.out.hg).mono ?_
 rintro en W2 ⟨rfl, h1, fr1⟩
 have HS2 := hide (HS1.out.next h1 fr1)
 clear h1 fr1 c0 c1 c2 c3 c4 c5 f0 f1 f2 f3 f4 f5 b0
 obtain ⟨b0, ⟨c0, c1, c2, c3, c4, c5⟩, ff⟩ := HS2.out.cells
 have f0 := ff 0
 have f1 := ff 1
 have f2 := ff 2
 have f3 := ff 3
 have f4 := ff 4
 have f5 := ff 5
 clear ff
 have HR0 := hide (show TwoRel'' w g rex s2 a2 e2 10 (.int .i64 3) W2 from ⟨3, by omega, by omega, rfl, HS2.out⟩)
 go_wp2_with fail
 go_loopw [20] (fun v wr => TwoRel'' w g rex s2 a2 e2 10 v wr) (fun v _ => 10 - (intOf v).toNat)
 case atStart => exact HR0.out
 case round =>
  clear c0 c1 c2 c3 c4 c5 f0 f1 f2 f3 f4 f5 b0
  obtain ⟨i, hi3, hi, rfl, hsh⟩ := hrel
  have HS3 := hide hsh
  clear hsh
  obtain ⟨wo, rfl⟩ : ∃ wo : World, wo = wr := ⟨_, rfl⟩
  have HO := hide (two_calls (i : Int) wo)
  by_cases hlt : i < 10
  ·
   have hq : (twoB (i : Int) == op) = false := by rw [beq_eq_false_iff_ne]; exact HNO.out i hi3 hlt
   have hi9 : (i : Int) ≤ 9 := by omega
   go_wp2_with fail
   refine HO.out.mono ?_
   rintro en W4 ⟨rfl, fr4⟩
   have HS4 := hide (HS3.out.more fr4)
   clear fr4
   have HX := hide (show TwoRel'' w g rex s2 a2 e2 10 (.int .i64 ((i : Int) + 1)) W4 from ⟨i + 1, by omega, by omega, rfl, HS4.out⟩)
   go_wp2
   exact ⟨HX.out, by simp [intOf]; omega⟩
  ·
   obtain rfl : i = 10 := by omega
   clear HO
   obtain ⟨b0, ⟨c0, c1, c2, c3, c4, c5⟩, ff⟩ := HS3.out.cells
   have f0 := ff 0
   have f1 := ff 1
   have f2 := ff 2
   have f3 := ff 3
   have f4 := ff 4
   have f5 := ff 5
   clear ff
   go_wp2
   obtain ⟨p1, p2, p3⟩ := HS3.out.put (0) (0) (0) (0) (0) (0)
   exact bodyPost_ret (v := .agg #[.int .i64 (0), .int .i64 (0), .int .i64 (0), .int .i64 (0), .int .i64 (0), .int .u64 (0)]) (results_cell_row rfl _ _ (w.heap.size + 1) 32 _ (0, 0) _ rfl p3 hu3 rfl rfl) rfl ⟨rfl, p1, p2⟩
end Go.Proofs.Ytpahjllcomejbaa

/- The reader's short, whole; condition: the reader lies in memory, and the prefix is a byte. -/
set_option linter.unusedVariables false
set_option linter.unusedSimpArgs false
namespace Go.Proofs.Ytpahjllcomejbaa
open Go.RowKit Go.MapKept
open Go.Proofs.YtpahjllcomejbaaW.PrintWords Go.Proofs.YtpahjllcomejbaaW.PrintLast Go.Proofs.YtpahjllcomejbaaW.PrintMore
open PX86Encodes

abbrev X9 := Int × Int × Int × Int × Int × Int × ByteArray × Int × Bool
/-- The kind of an operation of one register; 0: there is none. -/
def oneInv (op v : Int) : Int := if op = 211 then (if v = 4 then 11 else if v = 5 then 12 else if v = 7 then 13 else 0) else (if v = 3 then 14 else if v = 6 then 15 else if v = 7 then 16 else 0)
def twoInv (op : Int) : Int := if op = 1 then 3 else if op = 41 then 4 else if op = 33 then 5 else if op = 9 then 6 else if op = 49 then 7 else if op = 57 then 8 else if op = 133 then 9 else 0
def wideB (rex : Int) : Bool := bits BinOp.and IntKind.u8 rex 8 != 0
def shortT (k : Nat) (op : Int) (s : ByteArray) (a : Int) (e : Bool) (rex : Int) (half : Bool) : Option X9 :=
  if op = 15 then x86_reader_long.f k s a e rex
  else if 184 ≤ op ∧ op < 192 then (x86_reader_number.f k s a e 8).bind fun q => some (2, lowB rex op, 0, 0, 0, q.1, q.2.1, q.2.2.1, q.2.2.2)
  else if 80 ≤ op ∧ op < 88 then some (23, lowB rex op, 0, 0, 0, 0, s, a, e)
  else if 88 ≤ op ∧ op < 96 then some (24, lowB rex op, 0, 0, 0, 0, s, a, e)
  else if op = 153 then some (17, 0, 0, 0, 0, 0, s, a, e)
  else if op = 99 then x86_reader_load.f k s a e rex 4 true
  else if op = 139 then (if wideB rex = true then x86_reader_load.f k s a e rex 8 false else x86_reader_load.f k s a e rex 4 false)
  else if op = 136 then x86_reader_store.f k s a e rex 1
  else if op = 137 then (if half = true then x86_reader_store.f k s a e rex 2 else if wideB rex = true then x86_reader_store.f k s a e rex 8 else x86_reader_store.f k s a e rex 4)
  else if op = 211 ∨ op = 247 then (x86_reader_fields.f s a e rex).bind fun q => if oneInv op (q.2.1 % 8) = 0 then some (0, 0, 0, 0, 0, 0, q.2.2.2.1, q.2.2.2.2.1, q.2.2.2.2.2) else some (oneInv op (q.2.1 % 8), q.2.2.1, 0, 0, 0, 0, q.2.2.2.1, q.2.2.2.2.1, q.2.2.2.2.2)
  else (x86_reader_fields.f s a e rex).bind fun q => if twoInv op = 0 then some (0, 0, 0, 0, 0, 0, q.2.2.2.1, q.2.2.2.2.1, q.2.2.2.2.2) else some (twoInv op, q.2.2.1, q.2.1, 0, 0, 0, q.2.2.2.1, q.2.2.2.2.1, q.2.2.2.2.2)
def shortF (k : Nat) (s : ByteArray) (a : Int) (e : Bool) (rex : Int) (half : Bool) : Option X9 :=
  (x86_reader_next.f s a e).bind fun p => shortT k p.1 p.2.1 p.2.2.1 p.2.2.2 rex half
theorem next_byte {s : ByteArray} {a : Int} {e : Bool} {r : Int} {s' : ByteArray} {a' : Int} {e' : Bool} (h : x86_reader_next.f s a e = some (r, s', a', e')) : 0 ≤ r ∧ r < 256 := by
  unfold x86_reader_next.f at h
  split at h
  · cases h; omega
  · split at h
    · split at h
      · simp only [Option.some.injEq, Prod.mk.injEq] at h
        obtain ⟨rfl, _⟩ := h
        unfold bt
        split
        · rename_i hq
          have := (s[(wrap64 (wrap64 (a + 1) - 1)).toNat]'(by assumption)).toNat_lt
          omega
        · omega
      · cases h
    · cases h
set_option maxRecDepth 100000 in
theorem u8_248 (op : Int) (h : 0 ≤ op ∧ op < 256) : bits BinOp.and IntKind.u8 op 248 = op / 8 * 8 := by
  have key : ∀ n : Fin 256, bits BinOp.and IntKind.u8 (n.val : Int) 248 = (n.val : Int) / 8 * 8 := by decide
  obtain ⟨m, rfl⟩ := Int.eq_ofNat_of_zero_le h.1
  exact key ⟨m, by omega⟩
theorem twoInv_spec (op : Int) (h : twoInv op ≠ 0) : ∃ T : Nat, 3 ≤ T ∧ T ≤ 9 ∧ twoB T = op ∧ twoInv op = T ∧ ∀ j : Nat, 3 ≤ j → j < T → twoB j ≠ op := by
  have hop : op = 1 ∨ op = 41 ∨ op = 33 ∨ op = 9 ∨ op = 49 ∨ op = 57 ∨ op = 133 := by
    refine Decidable.byContradiction fun c => h ?_
    unfold twoInv
    rw [if_neg (by omega), if_neg (by omega), if_neg (by omega), if_neg (by omega), if_neg (by omega), if_neg (by omega), if_neg (by omega)]
  have fin : ∀ (T : Nat) (o : Int), T ≤ 9 → (∀ j : Fin 10, 3 ≤ j.val → j.val < T → twoB (j.val : Int) ≠ o) → ∀ j : Nat, 3 ≤ j → j < T → twoB j ≠ o := fun T o hT hf j h1 h2 => hf ⟨j, by omega⟩ h1 h2
  rcases hop with rfl | rfl | rfl | rfl | rfl | rfl | rfl
  · exact ⟨3, by omega, by omega, by decide, by decide, fin 3 _ (by omega) (by decide)⟩
  · exact ⟨4, by omega, by omega, by decide, by decide, fin 4 _ (by omega) (by decide)⟩
  · exact ⟨5, by omega, by omega, by decide, by decide, fin 5 _ (by omega) (by decide)⟩
  · exact ⟨6, by omega, by omega, by decide, by decide, fin 6 _ (by omega) (by decide)⟩
  · exact ⟨7, by omega, by omega, by decide, by decide, fin 7 _ (by omega) (by decide)⟩
  · exact ⟨8, by omega, by omega, by decide, by decide, fin 8 _ (by omega) (by decide)⟩
  · exact ⟨9, by omega, by omega, by decide, by decide, fin 9 _ (by omega) (by decide)⟩
theorem twoInv_zero (op : Int) (h : twoInv op = 0) (j : Nat) (h1 : 3 ≤ j) (h2 : j < 10) : twoB j ≠ op := by
  have hj : j = 3 ∨ j = 4 ∨ j = 5 ∨ j = 6 ∨ j = 7 ∨ j = 8 ∨ j = 9 := by omega
  rintro rfl
  rcases hj with rfl | rfl | rfl | rfl | rfl | rfl | rfl <;> revert h <;> decide
set_option maxHeartbeats 1000000 in
theorem short_calls (k g : Nat) (s s2 : ByteArray) (a a2 : Int) (e e2 : Bool) (rex r1 r2 r3 r4 r5 r6 : Int) (half : Bool) (w : World) (hg : w.heap[g]? = some (rdO s a e)) (hr : 0 ≤ rex ∧ rex < 256)
    (h : shortF k s a e rex half = some (r1, r2, r3, r4, r5, r6, s2, a2, e2)) :
    Calls Try.prog 17 #[.pointer (some ⟨g, 0, none⟩), .int .u8 rex, .bool half] w (RdPost w g (.agg #[.int .i64 r1, .int .i64 r2, .int .i64 r3, .int .i64 r4, .int .i64 r5, .int .u64 r6]) s2 a2 e2) := by
  unfold shortF at h
  obtain ⟨⟨op, s1, a1, e1⟩, hn, h⟩ := Option.bind_eq_some_iff.1 h
  have hop := next_byte hn
  simp only [shortT] at h
  by_cases c : op = 15
  · subst c
    rw [if_pos rfl] at h
    exact short_15 k g s s1 s2 a a1 a2 e e1 e2 rex r1 r2 r3 r4 r5 r6 half w hg hn h
  rw [if_neg c] at h
  by_cases c184 : 184 ≤ op ∧ op < 192
  · rw [if_pos c184] at h
    obtain ⟨⟨n, s', a', e'⟩, hc, h⟩ := Option.bind_eq_some_iff.1 h
    simp only [Option.some.injEq, Prod.mk.injEq] at h
    obtain ⟨rfl, rfl, rfl, rfl, rfl, rfl, rfl, rfl, rfl⟩ := h
    exact short_184 k g s s1 s' a a1 a' e e1 e' rex op 0 0 0 0 0 0 half w hg hn n hc c184 hr
  rw [if_neg c184] at h
  by_cases c80 : 80 ≤ op ∧ op < 88
  · rw [if_pos c80] at h
    simp only [Option.some.injEq, Prod.mk.injEq] at h
    obtain ⟨rfl, rfl, rfl, rfl, rfl, rfl, rfl, rfl, rfl⟩ := h
    exact short_80 k g s s1 s1 a a1 a1 e e1 e1 rex op 0 0 0 0 0 0 half w hg hn c80 hr
  rw [if_neg c80] at h
  by_cases c88 : 88 ≤ op ∧ op < 96
  · rw [if_pos c88] at h
    simp only [Option.some.injEq, Prod.mk.injEq] at h
    obtain ⟨rfl, rfl, rfl, rfl, rfl, rfl, rfl, rfl, rfl⟩ := h
    exact short_88 k g s s1 s1 a a1 a1 e e1 e1 rex op 0 0 0 0 0 0 half w hg hn c88 hr
  rw [if_neg c88] at h
  by_cases c153 : op = 153
  · subst c153
    rw [if_pos rfl] at h
    simp only [Option.some.injEq, Prod.mk.injEq] at h
    obtain ⟨rfl, rfl, rfl, rfl, rfl, rfl, rfl, rfl, rfl⟩ := h
    exact short_153 k g s s1 s1 a a1 a1 e e1 e1 rex 0 0 0 0 0 0 half w hg hn
  rw [if_neg c153] at h
  by_cases c99 : op = 99
  · subst c99
    rw [if_pos rfl] at h
    exact short_99 k g s s1 s2 a a1 a2 e e1 e2 rex r1 r2 r3 r4 r5 r6 half w hg hn h
  rw [if_neg c99] at h
  by_cases c139 : op = 139
  · subst c139
    rw [if_pos rfl] at h
    cases hw : wideB rex with
    | true => rw [hw, if_pos rfl] at h; exact short_139w k g s s1 s2 a a1 a2 e e1 e2 rex r1 r2 r3 r4 r5 r6 half w hg hn h hw
    | false => rw [hw, if_neg (by simp)] at h; exact short_139n k g s s1 s2 a a1 a2 e e1 e2 rex r1 r2 r3 r4 r5 r6 half w hg hn h hw
  rw [if_neg c139] at h
  by_cases c136 : op = 136
  · subst c136
    rw [if_pos rfl] at h
    exact short_136 k g s s1 s2 a a1 a2 e e1 e2 rex r1 r2 r3 r4 r5 r6 half w hg hn h
  rw [if_neg c136] at h
  by_cases c137 : op = 137
  · subst c137
    rw [if_pos rfl] at h
    cases half with
    | true => rw [if_pos rfl] at h; exact short_137h k g s s1 s2 a a1 a2 e e1 e2 rex r1 r2 r3 r4 r5 r6 true w hg hn h rfl
    | false =>
      rw [if_neg (by simp)] at h
      cases hw : wideB rex with
      | true => rw [hw, if_pos rfl] at h; exact short_137w k g s s1 s2 a a1 a2 e e1 e2 rex r1 r2 r3 r4 r5 r6 false w hg hn h rfl hw
      | false => rw [hw, if_neg (by simp)] at h; exact short_137n k g s s1 s2 a a1 a2 e e1 e2 rex r1 r2 r3 r4 r5 r6 false w hg hn h rfl hw
  rw [if_neg c137] at h
  by_cases c1 : op = 211 ∨ op = 247
  · rw [if_pos c1] at h
    obtain ⟨⟨mem, n, d, s', a', e'⟩, hc, h⟩ := Option.bind_eq_some_iff.1 h
    simp only at h
    rcases c1 with rfl | rfl
    · by_cases v4 : n % 8 = 4
      · rw [v4] at h
        rw [if_neg (by decide)] at h
        simp only [Option.some.injEq, Prod.mk.injEq] at h
        obtain ⟨rfl, rfl, rfl, rfl, rfl, rfl, rfl, rfl, rfl⟩ := h
        exact short_211_4 k g s s1 s' a a1 a' e e1 e' rex 0 0 0 0 0 0 half w hg hn mem n d hc v4
      by_cases v5 : n % 8 = 5
      · rw [v5] at h
        rw [if_neg (by decide)] at h
        simp only [Option.some.injEq, Prod.mk.injEq] at h
        obtain ⟨rfl, rfl, rfl, rfl, rfl, rfl, rfl, rfl, rfl⟩ := h
        exact short_211_5 k g s s1 s' a a1 a' e e1 e' rex 0 0 0 0 0 0 half w hg hn mem n d hc v5
      by_cases v7 : n % 8 = 7
      · rw [v7] at h
        rw [if_neg (by decide)] at h
        simp only [Option.some.injEq, Prod.mk.injEq] at h
        obtain ⟨rfl, rfl, rfl, rfl, rfl, rfl, rfl, rfl, rfl⟩ := h
        exact short_211_7 k g s s1 s' a a1 a' e e1 e' rex 0 0 0 0 0 0 half w hg hn mem n d hc v7
      rw [if_pos (by simp [oneInv, v4, v5, v7])] at h
      simp only [Option.some.injEq, Prod.mk.injEq] at h
      obtain ⟨rfl, rfl, rfl, rfl, rfl, rfl, rfl, rfl, rfl⟩ := h
      exact short_211_no k g s s1 s' a a1 a' e e1 e' rex 0 0 0 0 0 0 half w hg hn mem n d hc ⟨v4, v5, v7⟩
    · by_cases v4 : n % 8 = 3
      · rw [v4] at h
        rw [if_neg (by decide)] at h
        simp only [Option.some.injEq, Prod.mk.injEq] at h
        obtain ⟨rfl, rfl, rfl, rfl, rfl, rfl, rfl, rfl, rfl⟩ := h
        exact short_247_3 k g s s1 s' a a1 a' e e1 e' rex 0 0 0 0 0 0 half w hg hn mem n d hc v4
      by_cases v5 : n % 8 = 6
      · rw [v5] at h
        rw [if_neg (by decide)] at h
        simp only [Option.some.injEq, Prod.mk.injEq] at h
        obtain ⟨rfl, rfl, rfl, rfl, rfl, rfl, rfl, rfl, rfl⟩ := h
        exact short_247_6 k g s s1 s' a a1 a' e e1 e' rex 0 0 0 0 0 0 half w hg hn mem n d hc v5
      by_cases v7 : n % 8 = 7
      · rw [v7] at h
        rw [if_neg (by decide)] at h
        simp only [Option.some.injEq, Prod.mk.injEq] at h
        obtain ⟨rfl, rfl, rfl, rfl, rfl, rfl, rfl, rfl, rfl⟩ := h
        exact short_247_7 k g s s1 s' a a1 a' e e1 e' rex 0 0 0 0 0 0 half w hg hn mem n d hc v7
      rw [if_pos (by simp [oneInv, v4, v5, v7])] at h
      simp only [Option.some.injEq, Prod.mk.injEq] at h
      obtain ⟨rfl, rfl, rfl, rfl, rfl, rfl, rfl, rfl, rfl⟩ := h
      exact short_247_no k g s s1 s' a a1 a' e e1 e' rex 0 0 0 0 0 0 half w hg hn mem n d hc ⟨v4, v5, v7⟩
  rw [if_neg c1] at h
  obtain ⟨⟨mem, q, d, s', a', e'⟩, hc, h⟩ := Option.bind_eq_some_iff.1 h
  simp only at h
  have h248 := u8_248 op hop
  have b1 : (bits BinOp.and IntKind.u8 op 248 == 184) = false := by rw [beq_eq_false_iff_ne, h248]; omega
  have b2 : (bits BinOp.and IntKind.u8 op 248 == 80) = false := by rw [beq_eq_false_iff_ne, h248]; omega
  have b3 : (bits BinOp.and IntKind.u8 op 248 == 88) = false := by rw [beq_eq_false_iff_ne, h248]; omega
  have hne : op ≠ 15 ∧ op ≠ 153 ∧ op ≠ 99 ∧ op ≠ 139 ∧ op ≠ 136 ∧ op ≠ 137 ∧ op ≠ 211 ∧ op ≠ 247 := ⟨c, c153, c99, c139, c136, c137, fun q => c1 (.inl q), fun q => c1 (.inr q)⟩
  by_cases ht : twoInv op = 0
  · rw [if_pos ht] at h
    simp only [Option.some.injEq, Prod.mk.injEq] at h
    obtain ⟨rfl, rfl, rfl, rfl, rfl, rfl, rfl, rfl, rfl⟩ := h
    exact short_none k g s s1 s' a a1 a' e e1 e' rex op 0 0 0 0 0 0 half w hg hn mem q d hc hne b1 b2 b3 (twoInv_zero op ht)
  · rw [if_neg ht] at h
    obtain ⟨T, t1, t2, t3, t4, t5⟩ := twoInv_spec op ht
    rw [t4] at h
    simp only [Option.some.injEq, Prod.mk.injEq] at h
    obtain ⟨rfl, rfl, rfl, rfl, rfl, rfl, rfl, rfl, rfl⟩ := h
    exact short_two k g s s1 s' a a1 a' e e1 e' rex op 0 0 0 0 0 0 half w hg hn mem q d hc hne b1 b2 b3 T ⟨t1, t2⟩ t3 t5
end Go.Proofs.Ytpahjllcomejbaa
