/- The coder's lay at no kind, and at a jump with a condition; condition: the coder lies in memory. -/
import Derived.Test.YtpahjllcomejbaaLay3
set_option linter.unusedVariables false
set_option linter.unusedSimpArgs false
namespace Go.Proofs.Ytpahjllcomejbaa
open Go.RowKit Go.MapKept

set_option maxRecDepth 100000 in
set_option maxHeartbeats 4000000 in
theorem lay_none (w : World) (x : Nat) (F : List Nat) (bs : List Int) (bad : Bool) (h : Cod w x F bs bad) (kd d s n i wd : Int) (ht : twoB kd = 0) (ho : oneB kd = (0, 0)) (hl : bs.length + 40 ≤ 100000000000000)
  (hk : ¬ (kd = 2 ∨ kd = 10 ∨ kd = 17 ∨ kd = 21 ∨ kd = 22 ∨ kd = 23 ∨ kd = 24 ∨ kd = 25 ∨ kd = 28 ∨ kd = 29)) (hsz : ∀ W F, Cod W x F bs bad → Calls Try.prog 27 #[.pointer (some ⟨x, 0, none⟩), .agg #[.int .i64 kd, .int .i64 d, .int .i64 s, .int .i64 n, .int .i64 i, .int .u64 wd]] W (SizedPost W x F bs bad false)) :
  Calls Try.prog 11 #[.pointer (some ⟨x, 0, none⟩), .agg #[.int .i64 kd, .int .i64 d, .int .i64 s, .int .i64 n, .int .i64 i, .int .u64 wd]] w
   (CodPost w x F (bs ++ []) (true)) := by
 have hu2 := Try.underlying41
 have hu3 := Try.underlying32
 have HL := hide hl
 have hbl := hide h.lt
 have hx0 : ¬ (w.heap.size = x) := fun e => by have := hbl.out x h.mem; omega
 have hx1 : ¬ (x = w.heap.size) := fun e => hx0 e.symm
 have HBX : Hid ((w.alloc (boxed kd d s n i wd)).heap[w.heap.size]? = some (boxed kd d s n i wd) ∧ w.heap.size ∉ F) := hide ⟨heap_alloc_new w _, fun hk => by have := hbl.out _ hk; omega⟩
 have HS0 : Hid (St (w.alloc (boxed kd d s n i wd)) (w.alloc (boxed kd d s n i wd)) x F F bs bad) := hide ⟨h.alloc _, Fr.refl _ _⟩
 obtain ⟨c0, c1, c2, c3, c4, c5⟩ := box_at HBX.out.1
 have HT2 := hide (two_calls kd (w.alloc (boxed kd d s n i wd)))
 have HT1 := hide (one_calls kd)
 have HF0 : Hid (Fr F F w (w.alloc (boxed kd d s n i wd))) := hide ((Fr.refl F w).alloc' _)
 have HSZ := hide hsz
 rw [ht] at HT2
 rw [ho] at HT1
 clear hl h hsz ht ho
 unfold boxed at HT2
 have n2 : (kd == 2) = false := by rw [beq_eq_false_iff_ne]; omega
 have n10 : (kd == 10) = false := by rw [beq_eq_false_iff_ne]; omega
 have n17 : (kd == 17) = false := by rw [beq_eq_false_iff_ne]; omega
 have n21 : (kd == 21) = false := by rw [beq_eq_false_iff_ne]; omega
 have n22 : (kd == 22) = false := by rw [beq_eq_false_iff_ne]; omega
 have n23 : (kd == 23) = false := by rw [beq_eq_false_iff_ne]; omega
 have n24 : (kd == 24) = false := by rw [beq_eq_false_iff_ne]; omega
 have n25 : (kd == 25) = false := by rw [beq_eq_false_iff_ne]; omega
 have n28 : (kd == 28) = false := by rw [beq_eq_false_iff_ne]; omega
 have n29 : (kd == 29) = false := by rw [beq_eq_false_iff_ne]; omega
 clear hk
 go_enter Try.func11, Try.ntmps11
 go_wp2_with fail
 refine HT2.out.mono ?_
 rintro e W1 ⟨rfl, hf⟩
 have HS := hide (HS0.out.fr hf)
 clear c0 c1 c2 c3 c4 c5 hf
 obtain ⟨c0, c1, c2, c3, c4, c5⟩ := box_at (HS.out.keep HBX.out)
 go_wp2_with fail
 refine (HT1.out _).mono ?_
 rintro e W1b ⟨rfl, hf⟩
 have HS := hide (HS.out.fr hf)
 clear c0 c1 c2 c3 c4 c5 hf
 obtain ⟨c0, c1, c2, c3, c4, c5⟩ := box_at (HS.out.keep HBX.out)
 go_wp2_with fail
 refine (HSZ.out _ _ HS.out.c).mono ?_
 rintro e W1c ⟨rfl, FZ, hc, hf⟩
 have HS : Hid (St (w.alloc (boxed kd d s n i wd)) W1c x F FZ bs bad) := hide ⟨hc, HS.out.f.trans hf⟩
 clear c0 c1 c2 c3 c4 c5 hc hf
 obtain ⟨c0, c1, c2, c3, c4, c5⟩ := box_at (HS.out.keep HBX.out)
 obtain ⟨v, k0, k1, k2, k3⟩ := HS.out.c.cells
 have HX := hide (HS.out.bad true)
 go_wp2
 go_end0
 exact ⟨rfl, FZ, HX.out.c.cast (by simp) rfl, HF0.out.trans HX.out.f⟩
set_option maxRecDepth 100000 in
set_option maxHeartbeats 4000000 in
theorem lay_22a (w : World) (x : Nat) (F : List Nat) (bs : List Int) (bad : Bool) (h : Cod w x F bs bad) (d s n i wd : Int) (ht : twoB 22 = 0) (ho : oneB 22 = (0, 0)) (hl : bs.length + 40 ≤ 100000000000000)
  (h1 : d < 2) (hsz : ∀ W F, Cod W x F bs bad → Calls Try.prog 27 #[.pointer (some ⟨x, 0, none⟩), .agg #[.int .i64 22, .int .i64 d, .int .i64 s, .int .i64 n, .int .i64 i, .int .u64 wd]] W (SizedPost W x F bs bad false)) :
  Calls Try.prog 11 #[.pointer (some ⟨x, 0, none⟩), .agg #[.int .i64 22, .int .i64 d, .int .i64 s, .int .i64 n, .int .i64 i, .int .u64 wd]] w
   (CodPost w x F (bs ++ ([15, 128 + d % 16] ++ b4 i)) (bad || true || !fits32 i)) := by
 have hu2 := Try.underlying41
 have hu3 := Try.underlying32
 have HL := hide hl
 have hbl := hide h.lt
 have hx0 : ¬ (w.heap.size = x) := fun e => by have := hbl.out x h.mem; omega
 have hx1 : ¬ (x = w.heap.size) := fun e => hx0 e.symm
 have HBX : Hid ((w.alloc (boxed 22 d s n i wd)).heap[w.heap.size]? = some (boxed 22 d s n i wd) ∧ w.heap.size ∉ F) := hide ⟨heap_alloc_new w _, fun hk => by have := hbl.out _ hk; omega⟩
 have HS0 : Hid (St (w.alloc (boxed 22 d s n i wd)) (w.alloc (boxed 22 d s n i wd)) x F F bs bad) := hide ⟨h.alloc _, Fr.refl _ _⟩
 obtain ⟨c0, c1, c2, c3, c4, c5⟩ := box_at HBX.out.1
 have HT2 := hide (two_calls 22 (w.alloc (boxed 22 d s n i wd)))
 have HT1 := hide (one_calls 22)
 have HF0 : Hid (Fr F F w (w.alloc (boxed 22 d s n i wd))) := hide ((Fr.refl F w).alloc' _)
 have HSZ := hide hsz
 rw [ht] at HT2
 rw [ho] at HT1
 clear hl h hsz ht ho
 unfold boxed at HT2
 have b0 := condByte d
 generalize hlv : (128 : Int) + d % 16 = lv at *
 clear hlv
 have g1 : decide (2 ≤ d) = false := decide_eq_false (by omega)
 have g2 : decide (12 ≤ d) = false := decide_eq_false (by omega)
 clear h1
 go_enter Try.func11, Try.ntmps11
 go_wp2_with fail
 refine HT2.out.mono ?_
 rintro e W1 ⟨rfl, hf⟩
 have HS := hide (HS0.out.fr hf)
 clear c0 c1 c2 c3 c4 c5 hf
 obtain ⟨c0, c1, c2, c3, c4, c5⟩ := box_at (HS.out.keep HBX.out)
 go_wp2_with fail
 refine (HT1.out _).mono ?_
 rintro e W1b ⟨rfl, hf⟩
 have HS := hide (HS.out.fr hf)
 clear c0 c1 c2 c3 c4 c5 hf
 obtain ⟨c0, c1, c2, c3, c4, c5⟩ := box_at (HS.out.keep HBX.out)
 go_wp2_with fail
 refine (HSZ.out _ _ HS.out.c).mono ?_
 rintro e W1c ⟨rfl, FZ, hc, hf⟩
 have HS : Hid (St (w.alloc (boxed 22 d s n i wd)) W1c x F FZ bs bad) := hide ⟨hc, HS.out.f.trans hf⟩
 clear c0 c1 c2 c3 c4 c5 hc hf
 obtain ⟨c0, c1, c2, c3, c4, c5⟩ := box_at (HS.out.keep HBX.out)
 obtain ⟨v, k0, k1, k2, k3⟩ := HS.out.c.cells
 have HT := hide (HS.out.bad (bad || true))
 cases bad
 all_goals
  go_wp2_with fail
  have HS := HT
  clear c0 c1 c2 c3 c4 c5 k0 k1 k2 k3
  refine (St.opB HS [15, lv] 2 W1c.heap.size (by simp [World.setCell]) _ rfl rfl (by have := HL.out; simp; omega)).mono ?_
  rintro e W4 ⟨rfl, F_W4, hs⟩
  have HS := hide hs
  clear hs
  obtain ⟨c0, c1, c2, c3, c4, c5⟩ := box_at (HS.out.keep HBX.out)
  go_wp2_with fail
  refine (St.imm HS i (by have := HL.out; simp; omega)).mono ?_
  rintro e W5 ⟨rfl, F_W5, hs⟩
  have HS := hide hs
  clear c0 c1 c2 c3 c4 c5 hs
  go_wp2
  go_end0
  exact ⟨rfl, F_W5, HS.out.c.cast (by simp only [List.append_assoc]; rfl) rfl, HF0.out.trans HS.out.f⟩
set_option maxRecDepth 100000 in
set_option maxHeartbeats 4000000 in
theorem lay_22b (w : World) (x : Nat) (F : List Nat) (bs : List Int) (bad : Bool) (h : Cod w x F bs bad) (d s n i wd : Int) (ht : twoB 22 = 0) (ho : oneB 22 = (0, 0)) (hl : bs.length + 40 ≤ 100000000000000)
  (h1 : 2 ≤ d) (h2 : d ≤ 7) (hsz : ∀ W F, Cod W x F bs bad → Calls Try.prog 27 #[.pointer (some ⟨x, 0, none⟩), .agg #[.int .i64 22, .int .i64 d, .int .i64 s, .int .i64 n, .int .i64 i, .int .u64 wd]] W (SizedPost W x F bs bad false)) :
  Calls Try.prog 11 #[.pointer (some ⟨x, 0, none⟩), .agg #[.int .i64 22, .int .i64 d, .int .i64 s, .int .i64 n, .int .i64 i, .int .u64 wd]] w
   (CodPost w x F (bs ++ ([15, 128 + d % 16] ++ b4 i)) (bad || false || !fits32 i)) := by
 have hu2 := Try.underlying41
 have hu3 := Try.underlying32
 have HL := hide hl
 have hbl := hide h.lt
 have hx0 : ¬ (w.heap.size = x) := fun e => by have := hbl.out x h.mem; omega
 have hx1 : ¬ (x = w.heap.size) := fun e => hx0 e.symm
 have HBX : Hid ((w.alloc (boxed 22 d s n i wd)).heap[w.heap.size]? = some (boxed 22 d s n i wd) ∧ w.heap.size ∉ F) := hide ⟨heap_alloc_new w _, fun hk => by have := hbl.out _ hk; omega⟩
 have HS0 : Hid (St (w.alloc (boxed 22 d s n i wd)) (w.alloc (boxed 22 d s n i wd)) x F F bs bad) := hide ⟨h.alloc _, Fr.refl _ _⟩
 obtain ⟨c0, c1, c2, c3, c4, c5⟩ := box_at HBX.out.1
 have HT2 := hide (two_calls 22 (w.alloc (boxed 22 d s n i wd)))
 have HT1 := hide (one_calls 22)
 have HF0 : Hid (Fr F F w (w.alloc (boxed 22 d s n i wd))) := hide ((Fr.refl F w).alloc' _)
 have HSZ := hide hsz
 rw [ht] at HT2
 rw [ho] at HT1
 clear hl h hsz ht ho
 unfold boxed at HT2
 have b0 := condByte d
 generalize hlv : (128 : Int) + d % 16 = lv at *
 clear hlv
 have g1 : decide (2 ≤ d) = true := decide_eq_true h1
 have g2 : decide (d ≤ 7) = true := decide_eq_true h2
 clear h1 h2
 go_enter Try.func11, Try.ntmps11
 go_wp2_with fail
 refine HT2.out.mono ?_
 rintro e W1 ⟨rfl, hf⟩
 have HS := hide (HS0.out.fr hf)
 clear c0 c1 c2 c3 c4 c5 hf
 obtain ⟨c0, c1, c2, c3, c4, c5⟩ := box_at (HS.out.keep HBX.out)
 go_wp2_with fail
 refine (HT1.out _).mono ?_
 rintro e W1b ⟨rfl, hf⟩
 have HS := hide (HS.out.fr hf)
 clear c0 c1 c2 c3 c4 c5 hf
 obtain ⟨c0, c1, c2, c3, c4, c5⟩ := box_at (HS.out.keep HBX.out)
 go_wp2_with fail
 refine (HSZ.out _ _ HS.out.c).mono ?_
 rintro e W1c ⟨rfl, FZ, hc, hf⟩
 have HS : Hid (St (w.alloc (boxed 22 d s n i wd)) W1c x F FZ bs bad) := hide ⟨hc, HS.out.f.trans hf⟩
 clear c0 c1 c2 c3 c4 c5 hc hf
 obtain ⟨c0, c1, c2, c3, c4, c5⟩ := box_at (HS.out.keep HBX.out)
 obtain ⟨v, k0, k1, k2, k3⟩ := HS.out.c.cells
 have HT := hide (HS.out.bad (bad || false))
 cases bad
 all_goals
  go_wp2_with fail
  have HS := HT
  clear c0 c1 c2 c3 c4 c5 k0 k1 k2 k3
  refine (St.opB HS [15, lv] 2 W1c.heap.size (by simp [World.setCell]) _ rfl rfl (by have := HL.out; simp; omega)).mono ?_
  rintro e W4 ⟨rfl, F_W4, hs⟩
  have HS := hide hs
  clear hs
  obtain ⟨c0, c1, c2, c3, c4, c5⟩ := box_at (HS.out.keep HBX.out)
  go_wp2_with fail
  refine (St.imm HS i (by have := HL.out; simp; omega)).mono ?_
  rintro e W5 ⟨rfl, F_W5, hs⟩
  have HS := hide hs
  clear c0 c1 c2 c3 c4 c5 hs
  go_wp2
  go_end0
  exact ⟨rfl, F_W5, HS.out.c.cast (by simp only [List.append_assoc]; rfl) rfl, HF0.out.trans HS.out.f⟩
set_option maxRecDepth 100000 in
set_option maxHeartbeats 4000000 in
theorem lay_22c (w : World) (x : Nat) (F : List Nat) (bs : List Int) (bad : Bool) (h : Cod w x F bs bad) (d s n i wd : Int) (ht : twoB 22 = 0) (ho : oneB 22 = (0, 0)) (hl : bs.length + 40 ≤ 100000000000000)
  (h1 : 7 < d) (h2 : d < 12) (hsz : ∀ W F, Cod W x F bs bad → Calls Try.prog 27 #[.pointer (some ⟨x, 0, none⟩), .agg #[.int .i64 22, .int .i64 d, .int .i64 s, .int .i64 n, .int .i64 i, .int .u64 wd]] W (SizedPost W x F bs bad false)) :
  Calls Try.prog 11 #[.pointer (some ⟨x, 0, none⟩), .agg #[.int .i64 22, .int .i64 d, .int .i64 s, .int .i64 n, .int .i64 i, .int .u64 wd]] w
   (CodPost w x F (bs ++ ([15, 128 + d % 16] ++ b4 i)) (bad || true || !fits32 i)) := by
 have hu2 := Try.underlying41
 have hu3 := Try.underlying32
 have HL := hide hl
 have hbl := hide h.lt
 have hx0 : ¬ (w.heap.size = x) := fun e => by have := hbl.out x h.mem; omega
 have hx1 : ¬ (x = w.heap.size) := fun e => hx0 e.symm
 have HBX : Hid ((w.alloc (boxed 22 d s n i wd)).heap[w.heap.size]? = some (boxed 22 d s n i wd) ∧ w.heap.size ∉ F) := hide ⟨heap_alloc_new w _, fun hk => by have := hbl.out _ hk; omega⟩
 have HS0 : Hid (St (w.alloc (boxed 22 d s n i wd)) (w.alloc (boxed 22 d s n i wd)) x F F bs bad) := hide ⟨h.alloc _, Fr.refl _ _⟩
 obtain ⟨c0, c1, c2, c3, c4, c5⟩ := box_at HBX.out.1
 have HT2 := hide (two_calls 22 (w.alloc (boxed 22 d s n i wd)))
 have HT1 := hide (one_calls 22)
 have HF0 : Hid (Fr F F w (w.alloc (boxed 22 d s n i wd))) := hide ((Fr.refl F w).alloc' _)
 have HSZ := hide hsz
 rw [ht] at HT2
 rw [ho] at HT1
 clear hl h hsz ht ho
 unfold boxed at HT2
 have b0 := condByte d
 generalize hlv : (128 : Int) + d % 16 = lv at *
 clear hlv
 have g1 : decide (2 ≤ d) = true := decide_eq_true (by omega)
 have g2 : decide (d ≤ 7) = false := decide_eq_false (by omega)
 have g3 : decide (12 ≤ d) = false := decide_eq_false (by omega)
 clear h1 h2
 go_enter Try.func11, Try.ntmps11
 go_wp2_with fail
 refine HT2.out.mono ?_
 rintro e W1 ⟨rfl, hf⟩
 have HS := hide (HS0.out.fr hf)
 clear c0 c1 c2 c3 c4 c5 hf
 obtain ⟨c0, c1, c2, c3, c4, c5⟩ := box_at (HS.out.keep HBX.out)
 go_wp2_with fail
 refine (HT1.out _).mono ?_
 rintro e W1b ⟨rfl, hf⟩
 have HS := hide (HS.out.fr hf)
 clear c0 c1 c2 c3 c4 c5 hf
 obtain ⟨c0, c1, c2, c3, c4, c5⟩ := box_at (HS.out.keep HBX.out)
 go_wp2_with fail
 refine (HSZ.out _ _ HS.out.c).mono ?_
 rintro e W1c ⟨rfl, FZ, hc, hf⟩
 have HS : Hid (St (w.alloc (boxed 22 d s n i wd)) W1c x F FZ bs bad) := hide ⟨hc, HS.out.f.trans hf⟩
 clear c0 c1 c2 c3 c4 c5 hc hf
 obtain ⟨c0, c1, c2, c3, c4, c5⟩ := box_at (HS.out.keep HBX.out)
 obtain ⟨v, k0, k1, k2, k3⟩ := HS.out.c.cells
 have HT := hide (HS.out.bad (bad || true))
 cases bad
 all_goals
  go_wp2_with fail
  have HS := HT
  clear c0 c1 c2 c3 c4 c5 k0 k1 k2 k3
  refine (St.opB HS [15, lv] 2 W1c.heap.size (by simp [World.setCell]) _ rfl rfl (by have := HL.out; simp; omega)).mono ?_
  rintro e W4 ⟨rfl, F_W4, hs⟩
  have HS := hide hs
  clear hs
  obtain ⟨c0, c1, c2, c3, c4, c5⟩ := box_at (HS.out.keep HBX.out)
  go_wp2_with fail
  refine (St.imm HS i (by have := HL.out; simp; omega)).mono ?_
  rintro e W5 ⟨rfl, F_W5, hs⟩
  have HS := hide hs
  clear c0 c1 c2 c3 c4 c5 hs
  go_wp2
  go_end0
  exact ⟨rfl, F_W5, HS.out.c.cast (by simp only [List.append_assoc]; rfl) rfl, HF0.out.trans HS.out.f⟩
set_option maxRecDepth 100000 in
set_option maxHeartbeats 4000000 in
theorem lay_22d (w : World) (x : Nat) (F : List Nat) (bs : List Int) (bad : Bool) (h : Cod w x F bs bad) (d s n i wd : Int) (ht : twoB 22 = 0) (ho : oneB 22 = (0, 0)) (hl : bs.length + 40 ≤ 100000000000000)
  (h1 : 12 ≤ d) (h2 : d ≤ 15) (hsz : ∀ W F, Cod W x F bs bad → Calls Try.prog 27 #[.pointer (some ⟨x, 0, none⟩), .agg #[.int .i64 22, .int .i64 d, .int .i64 s, .int .i64 n, .int .i64 i, .int .u64 wd]] W (SizedPost W x F bs bad false)) :
  Calls Try.prog 11 #[.pointer (some ⟨x, 0, none⟩), .agg #[.int .i64 22, .int .i64 d, .int .i64 s, .int .i64 n, .int .i64 i, .int .u64 wd]] w
   (CodPost w x F (bs ++ ([15, 128 + d % 16] ++ b4 i)) (bad || false || !fits32 i)) := by
 have hu2 := Try.underlying41
 have hu3 := Try.underlying32
 have HL := hide hl
 have hbl := hide h.lt
 have hx0 : ¬ (w.heap.size = x) := fun e => by have := hbl.out x h.mem; omega
 have hx1 : ¬ (x = w.heap.size) := fun e => hx0 e.symm
 have HBX : Hid ((w.alloc (boxed 22 d s n i wd)).heap[w.heap.size]? = some (boxed 22 d s n i wd) ∧ w.heap.size ∉ F) := hide ⟨heap_alloc_new w _, fun hk => by have := hbl.out _ hk; omega⟩
 have HS0 : Hid (St (w.alloc (boxed 22 d s n i wd)) (w.alloc (boxed 22 d s n i wd)) x F F bs bad) := hide ⟨h.alloc _, Fr.refl _ _⟩
 obtain ⟨c0, c1, c2, c3, c4, c5⟩ := box_at HBX.out.1
 have HT2 := hide (two_calls 22 (w.alloc (boxed 22 d s n i wd)))
 have HT1 := hide (one_calls 22)
 have HF0 : Hid (Fr F F w (w.alloc (boxed 22 d s n i wd))) := hide ((Fr.refl F w).alloc' _)
 have HSZ := hide hsz
 rw [ht] at HT2
 rw [ho] at HT1
 clear hl h hsz ht ho
 unfold boxed at HT2
 have b0 := condByte d
 generalize hlv : (128 : Int) + d % 16 = lv at *
 clear hlv
 have g1 : decide (2 ≤ d) = true := decide_eq_true (by omega)
 have g2 : decide (d ≤ 7) = false := decide_eq_false (by omega)
 have g3 : decide (12 ≤ d) = true := decide_eq_true h1
 have g4 : decide (d ≤ 15) = true := decide_eq_true h2
 clear h1 h2
 go_enter Try.func11, Try.ntmps11
 go_wp2_with fail
 refine HT2.out.mono ?_
 rintro e W1 ⟨rfl, hf⟩
 have HS := hide (HS0.out.fr hf)
 clear c0 c1 c2 c3 c4 c5 hf
 obtain ⟨c0, c1, c2, c3, c4, c5⟩ := box_at (HS.out.keep HBX.out)
 go_wp2_with fail
 refine (HT1.out _).mono ?_
 rintro e W1b ⟨rfl, hf⟩
 have HS := hide (HS.out.fr hf)
 clear c0 c1 c2 c3 c4 c5 hf
 obtain ⟨c0, c1, c2, c3, c4, c5⟩ := box_at (HS.out.keep HBX.out)
 go_wp2_with fail
 refine (HSZ.out _ _ HS.out.c).mono ?_
 rintro e W1c ⟨rfl, FZ, hc, hf⟩
 have HS : Hid (St (w.alloc (boxed 22 d s n i wd)) W1c x F FZ bs bad) := hide ⟨hc, HS.out.f.trans hf⟩
 clear c0 c1 c2 c3 c4 c5 hc hf
 obtain ⟨c0, c1, c2, c3, c4, c5⟩ := box_at (HS.out.keep HBX.out)
 obtain ⟨v, k0, k1, k2, k3⟩ := HS.out.c.cells
 have HT := hide (HS.out.bad (bad || false))
 cases bad
 all_goals
  go_wp2_with fail
  have HS := HT
  clear c0 c1 c2 c3 c4 c5 k0 k1 k2 k3
  refine (St.opB HS [15, lv] 2 W1c.heap.size (by simp [World.setCell]) _ rfl rfl (by have := HL.out; simp; omega)).mono ?_
  rintro e W4 ⟨rfl, F_W4, hs⟩
  have HS := hide hs
  clear hs
  obtain ⟨c0, c1, c2, c3, c4, c5⟩ := box_at (HS.out.keep HBX.out)
  go_wp2_with fail
  refine (St.imm HS i (by have := HL.out; simp; omega)).mono ?_
  rintro e W5 ⟨rfl, F_W5, hs⟩
  have HS := hide hs
  clear c0 c1 c2 c3 c4 c5 hs
  go_wp2
  go_end0
  exact ⟨rfl, F_W5, HS.out.c.cast (by simp only [List.append_assoc]; rfl) rfl, HF0.out.trans HS.out.f⟩
set_option maxRecDepth 100000 in
set_option maxHeartbeats 4000000 in
theorem lay_22e (w : World) (x : Nat) (F : List Nat) (bs : List Int) (bad : Bool) (h : Cod w x F bs bad) (d s n i wd : Int) (ht : twoB 22 = 0) (ho : oneB 22 = (0, 0)) (hl : bs.length + 40 ≤ 100000000000000)
  (h1 : 15 < d) (hsz : ∀ W F, Cod W x F bs bad → Calls Try.prog 27 #[.pointer (some ⟨x, 0, none⟩), .agg #[.int .i64 22, .int .i64 d, .int .i64 s, .int .i64 n, .int .i64 i, .int .u64 wd]] W (SizedPost W x F bs bad false)) :
  Calls Try.prog 11 #[.pointer (some ⟨x, 0, none⟩), .agg #[.int .i64 22, .int .i64 d, .int .i64 s, .int .i64 n, .int .i64 i, .int .u64 wd]] w
   (CodPost w x F (bs ++ ([15, 128 + d % 16] ++ b4 i)) (bad || true || !fits32 i)) := by
 have hu2 := Try.underlying41
 have hu3 := Try.underlying32
 have HL := hide hl
 have hbl := hide h.lt
 have hx0 : ¬ (w.heap.size = x) := fun e => by have := hbl.out x h.mem; omega
 have hx1 : ¬ (x = w.heap.size) := fun e => hx0 e.symm
 have HBX : Hid ((w.alloc (boxed 22 d s n i wd)).heap[w.heap.size]? = some (boxed 22 d s n i wd) ∧ w.heap.size ∉ F) := hide ⟨heap_alloc_new w _, fun hk => by have := hbl.out _ hk; omega⟩
 have HS0 : Hid (St (w.alloc (boxed 22 d s n i wd)) (w.alloc (boxed 22 d s n i wd)) x F F bs bad) := hide ⟨h.alloc _, Fr.refl _ _⟩
 obtain ⟨c0, c1, c2, c3, c4, c5⟩ := box_at HBX.out.1
 have HT2 := hide (two_calls 22 (w.alloc (boxed 22 d s n i wd)))
 have HT1 := hide (one_calls 22)
 have HF0 : Hid (Fr F F w (w.alloc (boxed 22 d s n i wd))) := hide ((Fr.refl F w).alloc' _)
 have HSZ := hide hsz
 rw [ht] at HT2
 rw [ho] at HT1
 clear hl h hsz ht ho
 unfold boxed at HT2
 have b0 := condByte d
 generalize hlv : (128 : Int) + d % 16 = lv at *
 clear hlv
 have g1 : decide (2 ≤ d) = true := decide_eq_true (by omega)
 have g2 : decide (d ≤ 7) = false := decide_eq_false (by omega)
 have g3 : decide (12 ≤ d) = true := decide_eq_true (by omega)
 have g4 : decide (d ≤ 15) = false := decide_eq_false (by omega)
 clear h1
 go_enter Try.func11, Try.ntmps11
 go_wp2_with fail
 refine HT2.out.mono ?_
 rintro e W1 ⟨rfl, hf⟩
 have HS := hide (HS0.out.fr hf)
 clear c0 c1 c2 c3 c4 c5 hf
 obtain ⟨c0, c1, c2, c3, c4, c5⟩ := box_at (HS.out.keep HBX.out)
 go_wp2_with fail
 refine (HT1.out _).mono ?_
 rintro e W1b ⟨rfl, hf⟩
 have HS := hide (HS.out.fr hf)
 clear c0 c1 c2 c3 c4 c5 hf
 obtain ⟨c0, c1, c2, c3, c4, c5⟩ := box_at (HS.out.keep HBX.out)
 go_wp2_with fail
 refine (HSZ.out _ _ HS.out.c).mono ?_
 rintro e W1c ⟨rfl, FZ, hc, hf⟩
 have HS : Hid (St (w.alloc (boxed 22 d s n i wd)) W1c x F FZ bs bad) := hide ⟨hc, HS.out.f.trans hf⟩
 clear c0 c1 c2 c3 c4 c5 hc hf
 obtain ⟨c0, c1, c2, c3, c4, c5⟩ := box_at (HS.out.keep HBX.out)
 obtain ⟨v, k0, k1, k2, k3⟩ := HS.out.c.cells
 have HT := hide (HS.out.bad (bad || true))
 cases bad
 all_goals
  go_wp2_with fail
  have HS := HT
  clear c0 c1 c2 c3 c4 c5 k0 k1 k2 k3
  refine (St.opB HS [15, lv] 2 W1c.heap.size (by simp [World.setCell]) _ rfl rfl (by have := HL.out; simp; omega)).mono ?_
  rintro e W4 ⟨rfl, F_W4, hs⟩
  have HS := hide hs
  clear hs
  obtain ⟨c0, c1, c2, c3, c4, c5⟩ := box_at (HS.out.keep HBX.out)
  go_wp2_with fail
  refine (St.imm HS i (by have := HL.out; simp; omega)).mono ?_
  rintro e W5 ⟨rfl, F_W5, hs⟩
  have HS := hide hs
  clear c0 c1 c2 c3 c4 c5 hs
  go_wp2
  go_end0
  exact ⟨rfl, F_W5, HS.out.c.cast (by simp only [List.append_assoc]; rfl) rfl, HF0.out.trans HS.out.f⟩
end Go.Proofs.Ytpahjllcomejbaa
