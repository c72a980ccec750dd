/- The coder's lay at instructions of other kinds; condition: the coder lies in memory. -/
import Derived.Test.YtpahjllcomejbaaLay2
set_option linter.unusedVariables false
set_option linter.unusedSimpArgs false
namespace Go.Proofs.Ytpahjllcomejbaa
open Go.RowKit Go.MapKept

theorem lowByte (b d : Int) (hb : b % 2 ^ 3 = 0) (h0 : 0 ≤ b) (h1 : b < 256) : bits BinOp.or IntKind.u8 b (bits BinOp.and IntKind.i64 d 7 % 256) = b + d % 8 := by
 rw [and7, or_u8 b _ 3 (by omega) h0 h1 hb (by omega) (by simp; omega)]
 omega
theorem condByte (d : Int) : bits BinOp.or IntKind.u8 128 (bits BinOp.and IntKind.i64 d 15 % 256) = 128 + d % 16 := by
 rw [and15, or_u8 128 _ 4 (by omega) (by omega) (by omega) (by decide) (by omega) (by simp; omega)]
 omega
def okCond (d : Int) : Bool := (decide (2 ≤ d) && decide (d ≤ 7)) || (decide (12 ≤ d) && decide (d ≤ 15))
set_option maxRecDepth 100000 in
set_option maxHeartbeats 4000000 in
theorem lay_2 (w : World) (x : Nat) (F : List Nat) (bs : List Int) (bad : Bool) (h : Cod w x F bs bad) (d s n i wd : Int) (ht : twoB 2 = 0) (ho : oneB 2 = (0, 0)) (hl : bs.length + 40 ≤ 100000000000000)
  (hw : 0 ≤ wd ∧ wd < 18446744073709551616) (hsz : ∀ W F, Cod W x F bs bad → Calls Try.prog 27 #[.pointer (some ⟨x, 0, none⟩), .agg #[.int .i64 2, .int .i64 d, .int .i64 s, .int .i64 n, .int .i64 i, .int .u64 wd]] W (SizedPost W x F bs bad false)) :
  Calls Try.prog 11 #[.pointer (some ⟨x, 0, none⟩), .agg #[.int .i64 2, .int .i64 d, .int .i64 s, .int .i64 n, .int .i64 i, .int .u64 wd]] w
   (CodPost w x F (bs ++ ([rexB true 0 d, 184 + d % 8] ++ leB wd 8)) (bad || outReg d)) := by
 have hu2 := Try.underlying41
 have hu3 := Try.underlying32
 have HL := hide hl
 have HW := hide hw
 clear hw
 have hbl := hide h.lt
 have hx0 : ¬ (w.heap.size = x) := fun e => by have := hbl.out x h.mem; omega
 have hx1 : ¬ (x = w.heap.size) := fun e => hx0 e.symm
 have HBX : Hid ((w.alloc (boxed 2 d s n i wd)).heap[w.heap.size]? = some (boxed 2 d s n i wd) ∧ w.heap.size ∉ F) := hide ⟨heap_alloc_new w _, fun hk => by have := hbl.out _ hk; omega⟩
 have HS0 : Hid (St (w.alloc (boxed 2 d s n i wd)) (w.alloc (boxed 2 d s n i wd)) x F F bs bad) := hide ⟨h.alloc _, Fr.refl _ _⟩
 obtain ⟨c0, c1, c2, c3, c4, c5⟩ := box_at HBX.out.1
 have HT2 := hide (two_calls 2 (w.alloc (boxed 2 d s n i wd)))
 have HT1 := hide (one_calls 2)
 have HF0 : Hid (Fr F F w (w.alloc (boxed 2 d s n i wd))) := hide ((Fr.refl F w).alloc' _)
 have HSZ := hide hsz
 rw [ht] at HT2
 rw [ho] at HT1
 clear hl h hsz ht ho
 unfold boxed at HT2
 have b0 := lowByte 184 d (by decide) (by omega) (by omega)
 generalize hlv : (184 : Int) + d % 8 = lv at *
 clear hlv
 go_enter Try.func11, Try.ntmps11
 go_wp2_with fail
 refine HT2.out.mono ?_
 rintro e W1 ⟨rfl, hf⟩
 have HS := hide (HS0.out.fr hf)
 clear c0 c1 c2 c3 c4 c5 hf
 obtain ⟨c0, c1, c2, c3, c4, c5⟩ := box_at (HS.out.keep HBX.out)
 go_wp2_with fail
 refine (HT1.out _).mono ?_
 rintro e W1b ⟨rfl, hf⟩
 have HS := hide (HS.out.fr hf)
 clear c0 c1 c2 c3 c4 c5 hf
 obtain ⟨c0, c1, c2, c3, c4, c5⟩ := box_at (HS.out.keep HBX.out)
 go_wp2_with fail
 refine (HSZ.out _ _ HS.out.c).mono ?_
 rintro e W1c ⟨rfl, FZ, hc, hf⟩
 have HS : Hid (St (w.alloc (boxed 2 d s n i wd)) W1c x F FZ bs bad) := hide ⟨hc, HS.out.f.trans hf⟩
 clear c0 c1 c2 c3 c4 c5 hc hf
 obtain ⟨c0, c1, c2, c3, c4, c5⟩ := box_at (HS.out.keep HBX.out)
 go_wp2_with fail
 refine (St.reg HS [d] 1 _ rfl rfl (by simp)).mono ?_
 rintro e W2 ⟨rfl, F_W2, hs⟩
 rw [any1] at hs
 have HS := hide hs
 clear c0 c1 c2 c3 c4 c5 hs
 obtain ⟨c0, c1, c2, c3, c4, c5⟩ := box_at (HS.out.keep HBX.out)
 go_wp2_with fail
 refine (St.rex HS true 0 d (by have := HL.out; simp; omega)).mono ?_
 rintro e W3 ⟨rfl, F_W3, hs⟩
 have HS := hide hs
 clear c0 c1 c2 c3 c4 c5 hs
 obtain ⟨c0, c1, c2, c3, c4, c5⟩ := box_at (HS.out.keep HBX.out)
 go_wp2_with fail
 refine (St.op HS [lv] 1 _ rfl rfl (by have := HL.out; simp; omega)).mono ?_
 rintro e W4 ⟨rfl, F_W4, hs⟩
 have HS := hide hs
 clear c0 c1 c2 c3 c4 c5 hs
 obtain ⟨c0, c1, c2, c3, c4, c5⟩ := box_at (HS.out.keep HBX.out)
 go_wp2_with fail
 refine (St.number HS wd HW.out.1 HW.out.2 8 (by omega) (by have := HL.out; simp; omega)).mono ?_
 rintro e W5 ⟨rfl, F_W5, hs⟩
 have HS := hide hs
 clear c0 c1 c2 c3 c4 c5 hs
 obtain ⟨c0, c1, c2, c3, c4, c5⟩ := box_at (HS.out.keep HBX.out)
 go_wp2
 go_end0
 exact ⟨rfl, F_W5, HS.out.c.cast (by first | rfl | (simp only [List.append_assoc]; rfl)) (by simp), HF0.out.trans HS.out.f⟩
set_option maxRecDepth 100000 in
set_option maxHeartbeats 4000000 in
theorem lay_10 (w : World) (x : Nat) (F : List Nat) (bs : List Int) (bad : Bool) (h : Cod w x F bs bad) (d s n i wd : Int) (ht : twoB 10 = 0) (ho : oneB 10 = (0, 0)) (hl : bs.length + 40 ≤ 100000000000000)
  (hsz : ∀ W F, Cod W x F bs bad → Calls Try.prog 27 #[.pointer (some ⟨x, 0, none⟩), .agg #[.int .i64 10, .int .i64 d, .int .i64 s, .int .i64 n, .int .i64 i, .int .u64 wd]] W (SizedPost W x F bs bad false)) :
  Calls Try.prog 11 #[.pointer (some ⟨x, 0, none⟩), .agg #[.int .i64 10, .int .i64 d, .int .i64 s, .int .i64 n, .int .i64 i, .int .u64 wd]] w
   (CodPost w x F (bs ++ [rexB true d s, 15, 175, dirB d s]) (bad || out2 d s)) := by
 have hu2 := Try.underlying41
 have hu3 := Try.underlying32
 have HL := hide hl
 have hbl := hide h.lt
 have hx0 : ¬ (w.heap.size = x) := fun e => by have := hbl.out x h.mem; omega
 have hx1 : ¬ (x = w.heap.size) := fun e => hx0 e.symm
 have HBX : Hid ((w.alloc (boxed 10 d s n i wd)).heap[w.heap.size]? = some (boxed 10 d s n i wd) ∧ w.heap.size ∉ F) := hide ⟨heap_alloc_new w _, fun hk => by have := hbl.out _ hk; omega⟩
 have HS0 : Hid (St (w.alloc (boxed 10 d s n i wd)) (w.alloc (boxed 10 d s n i wd)) x F F bs bad) := hide ⟨h.alloc _, Fr.refl _ _⟩
 obtain ⟨c0, c1, c2, c3, c4, c5⟩ := box_at HBX.out.1
 have HT2 := hide (two_calls 10 (w.alloc (boxed 10 d s n i wd)))
 have HT1 := hide (one_calls 10)
 have HF0 : Hid (Fr F F w (w.alloc (boxed 10 d s n i wd))) := hide ((Fr.refl F w).alloc' _)
 have HSZ := hide hsz
 rw [ht] at HT2
 rw [ho] at HT1
 clear hl h hsz ht ho
 unfold boxed at HT2
 go_enter Try.func11, Try.ntmps11
 go_wp2_with fail
 refine HT2.out.mono ?_
 rintro e W1 ⟨rfl, hf⟩
 have HS := hide (HS0.out.fr hf)
 clear c0 c1 c2 c3 c4 c5 hf
 obtain ⟨c0, c1, c2, c3, c4, c5⟩ := box_at (HS.out.keep HBX.out)
 go_wp2_with fail
 refine (HT1.out _).mono ?_
 rintro e W1b ⟨rfl, hf⟩
 have HS := hide (HS.out.fr hf)
 clear c0 c1 c2 c3 c4 c5 hf
 obtain ⟨c0, c1, c2, c3, c4, c5⟩ := box_at (HS.out.keep HBX.out)
 go_wp2_with fail
 refine (HSZ.out _ _ HS.out.c).mono ?_
 rintro e W1c ⟨rfl, FZ, hc, hf⟩
 have HS : Hid (St (w.alloc (boxed 10 d s n i wd)) W1c x F FZ bs bad) := hide ⟨hc, HS.out.f.trans hf⟩
 clear c0 c1 c2 c3 c4 c5 hc hf
 obtain ⟨c0, c1, c2, c3, c4, c5⟩ := box_at (HS.out.keep HBX.out)
 go_wp2_with fail
 refine (St.reg HS [d, s] 2 _ rfl rfl (by simp)).mono ?_
 rintro e W2 ⟨rfl, F_W2, hs⟩
 rw [any2] at hs
 have HS := hide hs
 clear c0 c1 c2 c3 c4 c5 hs
 obtain ⟨c0, c1, c2, c3, c4, c5⟩ := box_at (HS.out.keep HBX.out)
 go_wp2_with fail
 refine (St.rex HS true d s (by have := HL.out; simp; omega)).mono ?_
 rintro e W3 ⟨rfl, F_W3, hs⟩
 have HS := hide hs
 clear c0 c1 c2 c3 c4 c5 hs
 obtain ⟨c0, c1, c2, c3, c4, c5⟩ := box_at (HS.out.keep HBX.out)
 go_wp2_with fail
 refine (St.op HS [15, 175] 2 _ rfl rfl (by have := HL.out; simp; omega)).mono ?_
 rintro e W4 ⟨rfl, F_W4, hs⟩
 have HS := hide hs
 clear c0 c1 c2 c3 c4 c5 hs
 obtain ⟨c0, c1, c2, c3, c4, c5⟩ := box_at (HS.out.keep HBX.out)
 go_wp2_with fail
 refine (St.direct HS d s (by have := HL.out; simp; omega)).mono ?_
 rintro e W5 ⟨rfl, F_W5, hs⟩
 have HS := hide hs
 clear c0 c1 c2 c3 c4 c5 hs
 obtain ⟨c0, c1, c2, c3, c4, c5⟩ := box_at (HS.out.keep HBX.out)
 go_wp2
 go_end0
 exact ⟨rfl, F_W5, HS.out.c.cast (by first | rfl | (simp only [List.append_assoc]; rfl)) (by simp), HF0.out.trans HS.out.f⟩
set_option maxRecDepth 100000 in
set_option maxHeartbeats 4000000 in
theorem lay_17 (w : World) (x : Nat) (F : List Nat) (bs : List Int) (bad : Bool) (h : Cod w x F bs bad) (d s n i wd : Int) (ht : twoB 17 = 0) (ho : oneB 17 = (0, 0)) (hl : bs.length + 40 ≤ 100000000000000)
  (hsz : ∀ W F, Cod W x F bs bad → Calls Try.prog 27 #[.pointer (some ⟨x, 0, none⟩), .agg #[.int .i64 17, .int .i64 d, .int .i64 s, .int .i64 n, .int .i64 i, .int .u64 wd]] W (SizedPost W x F bs bad false)) :
  Calls Try.prog 11 #[.pointer (some ⟨x, 0, none⟩), .agg #[.int .i64 17, .int .i64 d, .int .i64 s, .int .i64 n, .int .i64 i, .int .u64 wd]] w
   (CodPost w x F (bs ++ [72, 153]) (bad)) := by
 have hu2 := Try.underlying41
 have hu3 := Try.underlying32
 have HL := hide hl
 have hbl := hide h.lt
 have hx0 : ¬ (w.heap.size = x) := fun e => by have := hbl.out x h.mem; omega
 have hx1 : ¬ (x = w.heap.size) := fun e => hx0 e.symm
 have HBX : Hid ((w.alloc (boxed 17 d s n i wd)).heap[w.heap.size]? = some (boxed 17 d s n i wd) ∧ w.heap.size ∉ F) := hide ⟨heap_alloc_new w _, fun hk => by have := hbl.out _ hk; omega⟩
 have HS0 : Hid (St (w.alloc (boxed 17 d s n i wd)) (w.alloc (boxed 17 d s n i wd)) x F F bs bad) := hide ⟨h.alloc _, Fr.refl _ _⟩
 obtain ⟨c0, c1, c2, c3, c4, c5⟩ := box_at HBX.out.1
 have HT2 := hide (two_calls 17 (w.alloc (boxed 17 d s n i wd)))
 have HT1 := hide (one_calls 17)
 have HF0 : Hid (Fr F F w (w.alloc (boxed 17 d s n i wd))) := hide ((Fr.refl F w).alloc' _)
 have HSZ := hide hsz
 rw [ht] at HT2
 rw [ho] at HT1
 clear hl h hsz ht ho
 unfold boxed at HT2
 go_enter Try.func11, Try.ntmps11
 go_wp2_with fail
 refine HT2.out.mono ?_
 rintro e W1 ⟨rfl, hf⟩
 have HS := hide (HS0.out.fr hf)
 clear c0 c1 c2 c3 c4 c5 hf
 obtain ⟨c0, c1, c2, c3, c4, c5⟩ := box_at (HS.out.keep HBX.out)
 go_wp2_with fail
 refine (HT1.out _).mono ?_
 rintro e W1b ⟨rfl, hf⟩
 have HS := hide (HS.out.fr hf)
 clear c0 c1 c2 c3 c4 c5 hf
 obtain ⟨c0, c1, c2, c3, c4, c5⟩ := box_at (HS.out.keep HBX.out)
 go_wp2_with fail
 refine (HSZ.out _ _ HS.out.c).mono ?_
 rintro e W1c ⟨rfl, FZ, hc, hf⟩
 have HS : Hid (St (w.alloc (boxed 17 d s n i wd)) W1c x F FZ bs bad) := hide ⟨hc, HS.out.f.trans hf⟩
 clear c0 c1 c2 c3 c4 c5 hc hf
 obtain ⟨c0, c1, c2, c3, c4, c5⟩ := box_at (HS.out.keep HBX.out)
 go_wp2_with fail
 refine (St.op HS [72, 153] 2 _ rfl rfl (by have := HL.out; simp; omega)).mono ?_
 rintro e W4 ⟨rfl, F_W4, hs⟩
 have HS := hide hs
 clear c0 c1 c2 c3 c4 c5 hs
 obtain ⟨c0, c1, c2, c3, c4, c5⟩ := box_at (HS.out.keep HBX.out)
 go_wp2
 go_end0
 exact ⟨rfl, F_W4, HS.out.c.cast (by first | rfl | (simp only [List.append_assoc]; rfl)) (by simp), HF0.out.trans HS.out.f⟩
set_option maxRecDepth 100000 in
set_option maxHeartbeats 4000000 in
theorem lay_21 (w : World) (x : Nat) (F : List Nat) (bs : List Int) (bad : Bool) (h : Cod w x F bs bad) (d s n i wd : Int) (ht : twoB 21 = 0) (ho : oneB 21 = (0, 0)) (hl : bs.length + 40 ≤ 100000000000000)
  (hsz : ∀ W F, Cod W x F bs bad → Calls Try.prog 27 #[.pointer (some ⟨x, 0, none⟩), .agg #[.int .i64 21, .int .i64 d, .int .i64 s, .int .i64 n, .int .i64 i, .int .u64 wd]] W (SizedPost W x F bs bad false)) :
  Calls Try.prog 11 #[.pointer (some ⟨x, 0, none⟩), .agg #[.int .i64 21, .int .i64 d, .int .i64 s, .int .i64 n, .int .i64 i, .int .u64 wd]] w
   (CodPost w x F (bs ++ ([233] ++ b4 i)) (bad || !fits32 i)) := by
 have hu2 := Try.underlying41
 have hu3 := Try.underlying32
 have HL := hide hl
 have hbl := hide h.lt
 have hx0 : ¬ (w.heap.size = x) := fun e => by have := hbl.out x h.mem; omega
 have hx1 : ¬ (x = w.heap.size) := fun e => hx0 e.symm
 have HBX : Hid ((w.alloc (boxed 21 d s n i wd)).heap[w.heap.size]? = some (boxed 21 d s n i wd) ∧ w.heap.size ∉ F) := hide ⟨heap_alloc_new w _, fun hk => by have := hbl.out _ hk; omega⟩
 have HS0 : Hid (St (w.alloc (boxed 21 d s n i wd)) (w.alloc (boxed 21 d s n i wd)) x F F bs bad) := hide ⟨h.alloc _, Fr.refl _ _⟩
 obtain ⟨c0, c1, c2, c3, c4, c5⟩ := box_at HBX.out.1
 have HT2 := hide (two_calls 21 (w.alloc (boxed 21 d s n i wd)))
 have HT1 := hide (one_calls 21)
 have HF0 : Hid (Fr F F w (w.alloc (boxed 21 d s n i wd))) := hide ((Fr.refl F w).alloc' _)
 have HSZ := hide hsz
 rw [ht] at HT2
 rw [ho] at HT1
 clear hl h hsz ht ho
 unfold boxed at HT2
 go_enter Try.func11, Try.ntmps11
 go_wp2_with fail
 refine HT2.out.mono ?_
 rintro e W1 ⟨rfl, hf⟩
 have HS := hide (HS0.out.fr hf)
 clear c0 c1 c2 c3 c4 c5 hf
 obtain ⟨c0, c1, c2, c3, c4, c5⟩ := box_at (HS.out.keep HBX.out)
 go_wp2_with fail
 refine (HT1.out _).mono ?_
 rintro e W1b ⟨rfl, hf⟩
 have HS := hide (HS.out.fr hf)
 clear c0 c1 c2 c3 c4 c5 hf
 obtain ⟨c0, c1, c2, c3, c4, c5⟩ := box_at (HS.out.keep HBX.out)
 go_wp2_with fail
 refine (HSZ.out _ _ HS.out.c).mono ?_
 rintro e W1c ⟨rfl, FZ, hc, hf⟩
 have HS : Hid (St (w.alloc (boxed 21 d s n i wd)) W1c x F FZ bs bad) := hide ⟨hc, HS.out.f.trans hf⟩
 clear c0 c1 c2 c3 c4 c5 hc hf
 obtain ⟨c0, c1, c2, c3, c4, c5⟩ := box_at (HS.out.keep HBX.out)
 go_wp2_with fail
 refine (St.op HS [233] 1 _ rfl rfl (by have := HL.out; simp; omega)).mono ?_
 rintro e W4 ⟨rfl, F_W4, hs⟩
 have HS := hide hs
 clear c0 c1 c2 c3 c4 c5 hs
 obtain ⟨c0, c1, c2, c3, c4, c5⟩ := box_at (HS.out.keep HBX.out)
 go_wp2_with fail
 refine (St.imm HS i (by have := HL.out; simp; omega)).mono ?_
 rintro e W5 ⟨rfl, F_W5, hs⟩
 have HS := hide hs
 clear c0 c1 c2 c3 c4 c5 hs
 obtain ⟨c0, c1, c2, c3, c4, c5⟩ := box_at (HS.out.keep HBX.out)
 go_wp2
 go_end0
 exact ⟨rfl, F_W5, HS.out.c.cast (by first | rfl | (simp only [List.append_assoc]; rfl)) (by simp), HF0.out.trans HS.out.f⟩
set_option maxRecDepth 100000 in
set_option maxHeartbeats 4000000 in
theorem lay_23 (w : World) (x : Nat) (F : List Nat) (bs : List Int) (bad : Bool) (h : Cod w x F bs bad) (d s n i wd : Int) (ht : twoB 23 = 0) (ho : oneB 23 = (0, 0)) (hl : bs.length + 40 ≤ 100000000000000)
  (hsz : ∀ W F, Cod W x F bs bad → Calls Try.prog 27 #[.pointer (some ⟨x, 0, none⟩), .agg #[.int .i64 23, .int .i64 d, .int .i64 s, .int .i64 n, .int .i64 i, .int .u64 wd]] W (SizedPost W x F bs bad false)) :
  Calls Try.prog 11 #[.pointer (some ⟨x, 0, none⟩), .agg #[.int .i64 23, .int .i64 d, .int .i64 s, .int .i64 n, .int .i64 i, .int .u64 wd]] w
   (CodPost w x F (bs ++ [rexB false 0 d, 80 + d % 8]) (bad || outReg d)) := by
 have hu2 := Try.underlying41
 have hu3 := Try.underlying32
 have HL := hide hl
 have hbl := hide h.lt
 have hx0 : ¬ (w.heap.size = x) := fun e => by have := hbl.out x h.mem; omega
 have hx1 : ¬ (x = w.heap.size) := fun e => hx0 e.symm
 have HBX : Hid ((w.alloc (boxed 23 d s n i wd)).heap[w.heap.size]? = some (boxed 23 d s n i wd) ∧ w.heap.size ∉ F) := hide ⟨heap_alloc_new w _, fun hk => by have := hbl.out _ hk; omega⟩
 have HS0 : Hid (St (w.alloc (boxed 23 d s n i wd)) (w.alloc (boxed 23 d s n i wd)) x F F bs bad) := hide ⟨h.alloc _, Fr.refl _ _⟩
 obtain ⟨c0, c1, c2, c3, c4, c5⟩ := box_at HBX.out.1
 have HT2 := hide (two_calls 23 (w.alloc (boxed 23 d s n i wd)))
 have HT1 := hide (one_calls 23)
 have HF0 : Hid (Fr F F w (w.alloc (boxed 23 d s n i wd))) := hide ((Fr.refl F w).alloc' _)
 have HSZ := hide hsz
 rw [ht] at HT2
 rw [ho] at HT1
 clear hl h hsz ht ho
 unfold boxed at HT2
 have b0 := lowByte 80 d (by decide) (by omega) (by omega)
 generalize hlv : (80 : Int) + d % 8 = lv at *
 clear hlv
 go_enter Try.func11, Try.ntmps11
 go_wp2_with fail
 refine HT2.out.mono ?_
 rintro e W1 ⟨rfl, hf⟩
 have HS := hide (HS0.out.fr hf)
 clear c0 c1 c2 c3 c4 c5 hf
 obtain ⟨c0, c1, c2, c3, c4, c5⟩ := box_at (HS.out.keep HBX.out)
 go_wp2_with fail
 refine (HT1.out _).mono ?_
 rintro e W1b ⟨rfl, hf⟩
 have HS := hide (HS.out.fr hf)
 clear c0 c1 c2 c3 c4 c5 hf
 obtain ⟨c0, c1, c2, c3, c4, c5⟩ := box_at (HS.out.keep HBX.out)
 go_wp2_with fail
 refine (HSZ.out _ _ HS.out.c).mono ?_
 rintro e W1c ⟨rfl, FZ, hc, hf⟩
 have HS : Hid (St (w.alloc (boxed 23 d s n i wd)) W1c x F FZ bs bad) := hide ⟨hc, HS.out.f.trans hf⟩
 clear c0 c1 c2 c3 c4 c5 hc hf
 obtain ⟨c0, c1, c2, c3, c4, c5⟩ := box_at (HS.out.keep HBX.out)
 go_wp2_with fail
 refine (St.reg HS [d] 1 _ rfl rfl (by simp)).mono ?_
 rintro e W2 ⟨rfl, F_W2, hs⟩
 rw [any1] at hs
 have HS := hide hs
 clear c0 c1 c2 c3 c4 c5 hs
 obtain ⟨c0, c1, c2, c3, c4, c5⟩ := box_at (HS.out.keep HBX.out)
 go_wp2_with fail
 refine (St.rex HS false 0 d (by have := HL.out; simp; omega)).mono ?_
 rintro e W3 ⟨rfl, F_W3, hs⟩
 have HS := hide hs
 clear c0 c1 c2 c3 c4 c5 hs
 obtain ⟨c0, c1, c2, c3, c4, c5⟩ := box_at (HS.out.keep HBX.out)
 go_wp2_with fail
 refine (St.op HS [lv] 1 _ rfl rfl (by have := HL.out; simp; omega)).mono ?_
 rintro e W4 ⟨rfl, F_W4, hs⟩
 have HS := hide hs
 clear c0 c1 c2 c3 c4 c5 hs
 obtain ⟨c0, c1, c2, c3, c4, c5⟩ := box_at (HS.out.keep HBX.out)
 go_wp2
 go_end0
 exact ⟨rfl, F_W4, HS.out.c.cast (by first | rfl | (simp only [List.append_assoc]; rfl)) (by simp), HF0.out.trans HS.out.f⟩
set_option maxRecDepth 100000 in
set_option maxHeartbeats 4000000 in
theorem lay_24 (w : World) (x : Nat) (F : List Nat) (bs : List Int) (bad : Bool) (h : Cod w x F bs bad) (d s n i wd : Int) (ht : twoB 24 = 0) (ho : oneB 24 = (0, 0)) (hl : bs.length + 40 ≤ 100000000000000)
  (hsz : ∀ W F, Cod W x F bs bad → Calls Try.prog 27 #[.pointer (some ⟨x, 0, none⟩), .agg #[.int .i64 24, .int .i64 d, .int .i64 s, .int .i64 n, .int .i64 i, .int .u64 wd]] W (SizedPost W x F bs bad false)) :
  Calls Try.prog 11 #[.pointer (some ⟨x, 0, none⟩), .agg #[.int .i64 24, .int .i64 d, .int .i64 s, .int .i64 n, .int .i64 i, .int .u64 wd]] w
   (CodPost w x F (bs ++ [rexB false 0 d, 88 + d % 8]) (bad || outReg d)) := by
 have hu2 := Try.underlying41
 have hu3 := Try.underlying32
 have HL := hide hl
 have hbl := hide h.lt
 have hx0 : ¬ (w.heap.size = x) := fun e => by have := hbl.out x h.mem; omega
 have hx1 : ¬ (x = w.heap.size) := fun e => hx0 e.symm
 have HBX : Hid ((w.alloc (boxed 24 d s n i wd)).heap[w.heap.size]? = some (boxed 24 d s n i wd) ∧ w.heap.size ∉ F) := hide ⟨heap_alloc_new w _, fun hk => by have := hbl.out _ hk; omega⟩
 have HS0 : Hid (St (w.alloc (boxed 24 d s n i wd)) (w.alloc (boxed 24 d s n i wd)) x F F bs bad) := hide ⟨h.alloc _, Fr.refl _ _⟩
 obtain ⟨c0, c1, c2, c3, c4, c5⟩ := box_at HBX.out.1
 have HT2 := hide (two_calls 24 (w.alloc (boxed 24 d s n i wd)))
 have HT1 := hide (one_calls 24)
 have HF0 : Hid (Fr F F w (w.alloc (boxed 24 d s n i wd))) := hide ((Fr.refl F w).alloc' _)
 have HSZ := hide hsz
 rw [ht] at HT2
 rw [ho] at HT1
 clear hl h hsz ht ho
 unfold boxed at HT2
 have b0 := lowByte 88 d (by decide) (by omega) (by omega)
 generalize hlv : (88 : Int) + d % 8 = lv at *
 clear hlv
 go_enter Try.func11, Try.ntmps11
 go_wp2_with fail
 refine HT2.out.mono ?_
 rintro e W1 ⟨rfl, hf⟩
 have HS := hide (HS0.out.fr hf)
 clear c0 c1 c2 c3 c4 c5 hf
 obtain ⟨c0, c1, c2, c3, c4, c5⟩ := box_at (HS.out.keep HBX.out)
 go_wp2_with fail
 refine (HT1.out _).mono ?_
 rintro e W1b ⟨rfl, hf⟩
 have HS := hide (HS.out.fr hf)
 clear c0 c1 c2 c3 c4 c5 hf
 obtain ⟨c0, c1, c2, c3, c4, c5⟩ := box_at (HS.out.keep HBX.out)
 go_wp2_with fail
 refine (HSZ.out _ _ HS.out.c).mono ?_
 rintro e W1c ⟨rfl, FZ, hc, hf⟩
 have HS : Hid (St (w.alloc (boxed 24 d s n i wd)) W1c x F FZ bs bad) := hide ⟨hc, HS.out.f.trans hf⟩
 clear c0 c1 c2 c3 c4 c5 hc hf
 obtain ⟨c0, c1, c2, c3, c4, c5⟩ := box_at (HS.out.keep HBX.out)
 go_wp2_with fail
 refine (St.reg HS [d] 1 _ rfl rfl (by simp)).mono ?_
 rintro e W2 ⟨rfl, F_W2, hs⟩
 rw [any1] at hs
 have HS := hide hs
 clear c0 c1 c2 c3 c4 c5 hs
 obtain ⟨c0, c1, c2, c3, c4, c5⟩ := box_at (HS.out.keep HBX.out)
 go_wp2_with fail
 refine (St.rex HS false 0 d (by have := HL.out; simp; omega)).mono ?_
 rintro e W3 ⟨rfl, F_W3, hs⟩
 have HS := hide hs
 clear c0 c1 c2 c3 c4 c5 hs
 obtain ⟨c0, c1, c2, c3, c4, c5⟩ := box_at (HS.out.keep HBX.out)
 go_wp2_with fail
 refine (St.op HS [lv] 1 _ rfl rfl (by have := HL.out; simp; omega)).mono ?_
 rintro e W4 ⟨rfl, F_W4, hs⟩
 have HS := hide hs
 clear c0 c1 c2 c3 c4 c5 hs
 obtain ⟨c0, c1, c2, c3, c4, c5⟩ := box_at (HS.out.keep HBX.out)
 go_wp2
 go_end0
 exact ⟨rfl, F_W4, HS.out.c.cast (by first | rfl | (simp only [List.append_assoc]; rfl)) (by simp), HF0.out.trans HS.out.f⟩
set_option maxRecDepth 100000 in
set_option maxHeartbeats 4000000 in
theorem lay_25 (w : World) (x : Nat) (F : List Nat) (bs : List Int) (bad : Bool) (h : Cod w x F bs bad) (d s n i wd : Int) (ht : twoB 25 = 0) (ho : oneB 25 = (0, 0)) (hl : bs.length + 40 ≤ 100000000000000)
  (hsz : ∀ W F, Cod W x F bs bad → Calls Try.prog 27 #[.pointer (some ⟨x, 0, none⟩), .agg #[.int .i64 25, .int .i64 d, .int .i64 s, .int .i64 n, .int .i64 i, .int .u64 wd]] W (SizedPost W x F bs bad false)) :
  Calls Try.prog 11 #[.pointer (some ⟨x, 0, none⟩), .agg #[.int .i64 25, .int .i64 d, .int .i64 s, .int .i64 n, .int .i64 i, .int .u64 wd]] w
   (CodPost w x F (bs ++ [rexB true 0 d, 15, 200 + d % 8]) (bad || outReg d)) := by
 have hu2 := Try.underlying41
 have hu3 := Try.underlying32
 have HL := hide hl
 have hbl := hide h.lt
 have hx0 : ¬ (w.heap.size = x) := fun e => by have := hbl.out x h.mem; omega
 have hx1 : ¬ (x = w.heap.size) := fun e => hx0 e.symm
 have HBX : Hid ((w.alloc (boxed 25 d s n i wd)).heap[w.heap.size]? = some (boxed 25 d s n i wd) ∧ w.heap.size ∉ F) := hide ⟨heap_alloc_new w _, fun hk => by have := hbl.out _ hk; omega⟩
 have HS0 : Hid (St (w.alloc (boxed 25 d s n i wd)) (w.alloc (boxed 25 d s n i wd)) x F F bs bad) := hide ⟨h.alloc _, Fr.refl _ _⟩
 obtain ⟨c0, c1, c2, c3, c4, c5⟩ := box_at HBX.out.1
 have HT2 := hide (two_calls 25 (w.alloc (boxed 25 d s n i wd)))
 have HT1 := hide (one_calls 25)
 have HF0 : Hid (Fr F F w (w.alloc (boxed 25 d s n i wd))) := hide ((Fr.refl F w).alloc' _)
 have HSZ := hide hsz
 rw [ht] at HT2
 rw [ho] at HT1
 clear hl h hsz ht ho
 unfold boxed at HT2
 have b0 := lowByte 200 d (by decide) (by omega) (by omega)
 generalize hlv : (200 : Int) + d % 8 = lv at *
 clear hlv
 go_enter Try.func11, Try.ntmps11
 go_wp2_with fail
 refine HT2.out.mono ?_
 rintro e W1 ⟨rfl, hf⟩
 have HS := hide (HS0.out.fr hf)
 clear c0 c1 c2 c3 c4 c5 hf
 obtain ⟨c0, c1, c2, c3, c4, c5⟩ := box_at (HS.out.keep HBX.out)
 go_wp2_with fail
 refine (HT1.out _).mono ?_
 rintro e W1b ⟨rfl, hf⟩
 have HS := hide (HS.out.fr hf)
 clear c0 c1 c2 c3 c4 c5 hf
 obtain ⟨c0, c1, c2, c3, c4, c5⟩ := box_at (HS.out.keep HBX.out)
 go_wp2_with fail
 refine (HSZ.out _ _ HS.out.c).mono ?_
 rintro e W1c ⟨rfl, FZ, hc, hf⟩
 have HS : Hid (St (w.alloc (boxed 25 d s n i wd)) W1c x F FZ bs bad) := hide ⟨hc, HS.out.f.trans hf⟩
 clear c0 c1 c2 c3 c4 c5 hc hf
 obtain ⟨c0, c1, c2, c3, c4, c5⟩ := box_at (HS.out.keep HBX.out)
 go_wp2_with fail
 refine (St.reg HS [d] 1 _ rfl rfl (by simp)).mono ?_
 rintro e W2 ⟨rfl, F_W2, hs⟩
 rw [any1] at hs
 have HS := hide hs
 clear c0 c1 c2 c3 c4 c5 hs
 obtain ⟨c0, c1, c2, c3, c4, c5⟩ := box_at (HS.out.keep HBX.out)
 go_wp2_with fail
 refine (St.rex HS true 0 d (by have := HL.out; simp; omega)).mono ?_
 rintro e W3 ⟨rfl, F_W3, hs⟩
 have HS := hide hs
 clear c0 c1 c2 c3 c4 c5 hs
 obtain ⟨c0, c1, c2, c3, c4, c5⟩ := box_at (HS.out.keep HBX.out)
 go_wp2_with fail
 refine (St.op HS [15, lv] 2 _ rfl rfl (by have := HL.out; simp; omega)).mono ?_
 rintro e W4 ⟨rfl, F_W4, hs⟩
 have HS := hide hs
 clear c0 c1 c2 c3 c4 c5 hs
 obtain ⟨c0, c1, c2, c3, c4, c5⟩ := box_at (HS.out.keep HBX.out)
 go_wp2
 go_end0
 exact ⟨rfl, F_W4, HS.out.c.cast (by first | rfl | (simp only [List.append_assoc]; rfl)) (by simp), HF0.out.trans HS.out.f⟩
set_option maxRecDepth 100000 in
set_option maxHeartbeats 4000000 in
theorem lay_28 (w : World) (x : Nat) (F : List Nat) (bs : List Int) (bad : Bool) (h : Cod w x F bs bad) (d s n i wd : Int) (ht : twoB 28 = 0) (ho : oneB 28 = (0, 0)) (hl : bs.length + 40 ≤ 100000000000000)
  (hsz : ∀ W F, Cod W x F bs bad → Calls Try.prog 27 #[.pointer (some ⟨x, 0, none⟩), .agg #[.int .i64 28, .int .i64 d, .int .i64 s, .int .i64 n, .int .i64 i, .int .u64 wd]] W (SizedPost W x F bs bad false)) :
  Calls Try.prog 11 #[.pointer (some ⟨x, 0, none⟩), .agg #[.int .i64 28, .int .i64 d, .int .i64 s, .int .i64 n, .int .i64 i, .int .u64 wd]] w
   (CodPost w x F (bs ++ [15, 5]) (bad)) := by
 have hu2 := Try.underlying41
 have hu3 := Try.underlying32
 have HL := hide hl
 have hbl := hide h.lt
 have hx0 : ¬ (w.heap.size = x) := fun e => by have := hbl.out x h.mem; omega
 have hx1 : ¬ (x = w.heap.size) := fun e => hx0 e.symm
 have HBX : Hid ((w.alloc (boxed 28 d s n i wd)).heap[w.heap.size]? = some (boxed 28 d s n i wd) ∧ w.heap.size ∉ F) := hide ⟨heap_alloc_new w _, fun hk => by have := hbl.out _ hk; omega⟩
 have HS0 : Hid (St (w.alloc (boxed 28 d s n i wd)) (w.alloc (boxed 28 d s n i wd)) x F F bs bad) := hide ⟨h.alloc _, Fr.refl _ _⟩
 obtain ⟨c0, c1, c2, c3, c4, c5⟩ := box_at HBX.out.1
 have HT2 := hide (two_calls 28 (w.alloc (boxed 28 d s n i wd)))
 have HT1 := hide (one_calls 28)
 have HF0 : Hid (Fr F F w (w.alloc (boxed 28 d s n i wd))) := hide ((Fr.refl F w).alloc' _)
 have HSZ := hide hsz
 rw [ht] at HT2
 rw [ho] at HT1
 clear hl h hsz ht ho
 unfold boxed at HT2
 go_enter Try.func11, Try.ntmps11
 go_wp2_with fail
 refine HT2.out.mono ?_
 rintro e W1 ⟨rfl, hf⟩
 have HS := hide (HS0.out.fr hf)
 clear c0 c1 c2 c3 c4 c5 hf
 obtain ⟨c0, c1, c2, c3, c4, c5⟩ := box_at (HS.out.keep HBX.out)
 go_wp2_with fail
 refine (HT1.out _).mono ?_
 rintro e W1b ⟨rfl, hf⟩
 have HS := hide (HS.out.fr hf)
 clear c0 c1 c2 c3 c4 c5 hf
 obtain ⟨c0, c1, c2, c3, c4, c5⟩ := box_at (HS.out.keep HBX.out)
 go_wp2_with fail
 refine (HSZ.out _ _ HS.out.c).mono ?_
 rintro e W1c ⟨rfl, FZ, hc, hf⟩
 have HS : Hid (St (w.alloc (boxed 28 d s n i wd)) W1c x F FZ bs bad) := hide ⟨hc, HS.out.f.trans hf⟩
 clear c0 c1 c2 c3 c4 c5 hc hf
 obtain ⟨c0, c1, c2, c3, c4, c5⟩ := box_at (HS.out.keep HBX.out)
 go_wp2_with fail
 refine (St.op HS [15, 5] 2 _ rfl rfl (by have := HL.out; simp; omega)).mono ?_
 rintro e W4 ⟨rfl, F_W4, hs⟩
 have HS := hide hs
 clear c0 c1 c2 c3 c4 c5 hs
 obtain ⟨c0, c1, c2, c3, c4, c5⟩ := box_at (HS.out.keep HBX.out)
 go_wp2
 go_end0
 exact ⟨rfl, F_W4, HS.out.c.cast (by first | rfl | (simp only [List.append_assoc]; rfl)) (by simp), HF0.out.trans HS.out.f⟩
set_option maxRecDepth 100000 in
set_option maxHeartbeats 4000000 in
theorem lay_29 (w : World) (x : Nat) (F : List Nat) (bs : List Int) (bad : Bool) (h : Cod w x F bs bad) (d s n i wd : Int) (ht : twoB 29 = 0) (ho : oneB 29 = (0, 0)) (hl : bs.length + 40 ≤ 100000000000000)
  (hsz : ∀ W F, Cod W x F bs bad → Calls Try.prog 27 #[.pointer (some ⟨x, 0, none⟩), .agg #[.int .i64 29, .int .i64 d, .int .i64 s, .int .i64 n, .int .i64 i, .int .u64 wd]] W (SizedPost W x F bs bad false)) :
  Calls Try.prog 11 #[.pointer (some ⟨x, 0, none⟩), .agg #[.int .i64 29, .int .i64 d, .int .i64 s, .int .i64 n, .int .i64 i, .int .u64 wd]] w
   (CodPost w x F (bs ++ [195]) (bad)) := by
 have hu2 := Try.underlying41
 have hu3 := Try.underlying32
 have HL := hide hl
 have hbl := hide h.lt
 have hx0 : ¬ (w.heap.size = x) := fun e => by have := hbl.out x h.mem; omega
 have hx1 : ¬ (x = w.heap.size) := fun e => hx0 e.symm
 have HBX : Hid ((w.alloc (boxed 29 d s n i wd)).heap[w.heap.size]? = some (boxed 29 d s n i wd) ∧ w.heap.size ∉ F) := hide ⟨heap_alloc_new w _, fun hk => by have := hbl.out _ hk; omega⟩
 have HS0 : Hid (St (w.alloc (boxed 29 d s n i wd)) (w.alloc (boxed 29 d s n i wd)) x F F bs bad) := hide ⟨h.alloc _, Fr.refl _ _⟩
 obtain ⟨c0, c1, c2, c3, c4, c5⟩ := box_at HBX.out.1
 have HT2 := hide (two_calls 29 (w.alloc (boxed 29 d s n i wd)))
 have HT1 := hide (one_calls 29)
 have HF0 : Hid (Fr F F w (w.alloc (boxed 29 d s n i wd))) := hide ((Fr.refl F w).alloc' _)
 have HSZ := hide hsz
 rw [ht] at HT2
 rw [ho] at HT1
 clear hl h hsz ht ho
 unfold boxed at HT2
 go_enter Try.func11, Try.ntmps11
 go_wp2_with fail
 refine HT2.out.mono ?_
 rintro e W1 ⟨rfl, hf⟩
 have HS := hide (HS0.out.fr hf)
 clear c0 c1 c2 c3 c4 c5 hf
 obtain ⟨c0, c1, c2, c3, c4, c5⟩ := box_at (HS.out.keep HBX.out)
 go_wp2_with fail
 refine (HT1.out _).mono ?_
 rintro e W1b ⟨rfl, hf⟩
 have HS := hide (HS.out.fr hf)
 clear c0 c1 c2 c3 c4 c5 hf
 obtain ⟨c0, c1, c2, c3, c4, c5⟩ := box_at (HS.out.keep HBX.out)
 go_wp2_with fail
 refine (HSZ.out _ _ HS.out.c).mono ?_
 rintro e W1c ⟨rfl, FZ, hc, hf⟩
 have HS : Hid (St (w.alloc (boxed 29 d s n i wd)) W1c x F FZ bs bad) := hide ⟨hc, HS.out.f.trans hf⟩
 clear c0 c1 c2 c3 c4 c5 hc hf
 obtain ⟨c0, c1, c2, c3, c4, c5⟩ := box_at (HS.out.keep HBX.out)
 go_wp2_with fail
 refine (St.op HS [195] 1 _ rfl rfl (by have := HL.out; simp; omega)).mono ?_
 rintro e W4 ⟨rfl, F_W4, hs⟩
 have HS := hide hs
 clear c0 c1 c2 c3 c4 c5 hs
 obtain ⟨c0, c1, c2, c3, c4, c5⟩ := box_at (HS.out.keep HBX.out)
 go_wp2
 go_end0
 exact ⟨rfl, F_W4, HS.out.c.cast (by first | rfl | (simp only [List.append_assoc]; rfl)) (by simp), HF0.out.trans HS.out.f⟩
end Go.Proofs.Ytpahjllcomejbaa
