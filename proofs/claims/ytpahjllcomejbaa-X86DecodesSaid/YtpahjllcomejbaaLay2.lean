/- Several texts of this claim in one: each is told where it begins. -/
import Derived.Test.YtpahjllcomejbaaSized20
import Derived.Test.YtpahjllcomejbaaSized26
/- The coder's sized at kind 27; condition: the coder lies in memory. -/
set_option linter.unusedVariables false
set_option linter.unusedSimpArgs false
namespace Go.Proofs.Ytpahjllcomejbaa
open Go.RowKit Go.MapKept
set_option maxRecDepth 100000 in
set_option maxHeartbeats 4000000 in
theorem sized_27 (w : World) (x : Nat) (F : List Nat) (bs : List Int) (bad : Bool) (h : Cod w x F bs bad) (d s n i wd : Int) (hl : bs.length + 40 ≤ 100000000000000) :
  Calls Try.prog 27 #[.pointer (some ⟨x, 0, none⟩), .agg #[.int .i64 27, .int .i64 d, .int .i64 s, .int .i64 n, .int .i64 i, .int .u64 wd]] w
   (SizedPost w x F (bs ++ ([rexB (readsB n true).1 d s] ++ (readsB n true).2 ++ [dirB d s])) ((bad || out2 d s || ((readsB n true).2 == []))) true) := by
 have hu2 := Try.underlying41
 have hu3 := Try.underlying32
 have HL := hide hl
 have hbl := hide h.lt
 have HH := hide h
 have HB0 : Hid ((w.alloc (boxed 27 d s n i wd)).heap[w.heap.size]? = some (boxed 27 d s n i wd)) := hide (heap_alloc_new w _)
 have HC0 : Hid (Cod (w.alloc (boxed 27 d s n i wd)) x F bs bad) := hide (h.alloc _)
 obtain ⟨c0, c1, c2, c3, c4, c5⟩ := box_at HB0.out
 have HP := hide (readsB_len n true)
 have HRC := hide (reads_calls n true (w.alloc (boxed 27 d s n i wd)))
 generalize readsB n true = p at *
 unfold boxed at *
 have hx0 : ¬ (w.heap.size = x) := fun e => by have := hbl.out x h.mem; omega
 have hx1 : ¬ (x = w.heap.size) := fun e => hx0 e.symm
 have es0 := fun W => @Lib.run_eql_slice_nil Try.prog W
 clear hl h
 go_enter Try.func27, Try.ntmps27
 go_wp2_with fail
 refine HRC.out.mono ?_
 intro e W1 hr
 obtain ⟨pw, ops⟩ := p
 rcases hr with ⟨hnil, rfl, hf⟩ | ⟨hne, B, rfl, hB, hf, hBs⟩
 ·
  simp only at hnil
  subst hnil
  have HS : Hid (St W1 W1 x F F bs bad) := hide ⟨HC0.out.fr hf, Fr.refl _ _⟩
  have HBX : Hid (W1.heap[w.heap.size]? = some (boxed 27 d s n i wd) ∧ w.heap.size ∉ F) := hide ⟨hf.keep HB0.out (by simp), fun hk => by have := hbl.out _ hk; omega⟩
  have HF := hide (((Fr.refl F w).alloc' (boxed 27 d s n i wd)).more hf)
  clear c0 c1 c2 c3 c4 c5 hf
  obtain ⟨c0, c1, c2, c3, c4, c5⟩ := box_at HBX.out.1
  go_wp2_with fail
  refine (St.reg HS [d, s] 2 _ rfl rfl (by simp)).mono ?_
  rintro e W2 ⟨rfl, F2, hs⟩
  rw [any2] at hs
  generalize hq : (bad || out2 d s) = q at *
  have HQ' := hide hq
  clear hq
  have HS := hide hs
  clear c0 c1 c2 c3 c4 c5 hs
  obtain ⟨c0, c1, c2, c3, c4, c5⟩ := box_at (HS.out.keep HBX.out)
  obtain ⟨v, k0, k1, k2, k3⟩ := HS.out.c.cells
  have HT := hide (HS.out.bad true)
  cases q
  all_goals
   go_wp2_with fail
   have HS := HT
   clear c0 c1 c2 c3 c4 c5 k0 k1 k2 k3
   refine (St.rex HS pw d s (by have := HL.out; omega)).mono ?_
   rintro e W3 ⟨rfl, F3, hs⟩
   have HS := hide hs
   clear hs
   obtain ⟨c0, c1, c2, c3, c4, c5⟩ := box_at (HS.out.keep HBX.out)
   go_wp2_with fail
   refine (St.opNone HS).mono ?_
   rintro e W4 ⟨rfl, F4, hs⟩
   have HS := hide hs
   clear c0 c1 c2 c3 c4 c5 hs
   obtain ⟨c0, c1, c2, c3, c4, c5⟩ := box_at (HS.out.keep HBX.out)
   go_wp2_with fail
   refine (St.direct HS d s (by have := HL.out; simp; omega)).mono ?_
   rintro e W5 ⟨rfl, F5, hs⟩
   have HS := hide hs
   clear c0 c1 c2 c3 c4 c5 hs
   go_wp2
   go_ret
   refine ⟨rfl, F5, ?_, HF.out.trans HS.out.f⟩
   have := HS.out.c
   simp only [rexB, memB, dirB, List.append_assoc, List.nil_append, List.cons_append] at this ⊢
   simpa using this
 ·
  have hpl : ops.length ≤ 2 := HP.out
  have HPL := hide hpl
  have HNE := hide hne
  have HS : Hid (St W1 W1 x F F bs bad) := hide ⟨HC0.out.fr hf, Fr.refl _ _⟩
  have HBX : Hid (W1.heap[w.heap.size]? = some (boxed 27 d s n i wd) ∧ w.heap.size ∉ F) := hide ⟨hf.keep HB0.out (by simp), fun hk => by have := hbl.out _ hk; omega⟩
  have HOX : Hid (W1.heap[B]? = some (.cells (u8s ops).toArray 5 (0, 0)) ∧ B ∉ F) := hide ⟨hB, fun hk => by have := hbl.out _ hk; simp at hBs; omega⟩
  have HF := hide (((Fr.refl F w).alloc' (boxed 27 d s n i wd)).more hf)
  clear c0 c1 c2 c3 c4 c5 hf hB hBs hne hpl
  obtain ⟨c0, c1, c2, c3, c4, c5⟩ := box_at HBX.out.1
  go_wp2_with fail
  refine (St.reg HS [d, s] 2 _ rfl rfl (by simp)).mono ?_
  rintro e W2 ⟨rfl, F2, hs⟩
  rw [any2] at hs
  generalize hq : (bad || out2 d s) = q at *
  have HQ' := hide hq
  clear hq
  have HS := hide hs
  clear c0 c1 c2 c3 c4 c5 hs
  obtain ⟨c0, c1, c2, c3, c4, c5⟩ := box_at (HS.out.keep HBX.out)
  obtain ⟨v, k0, k1, k2, k3⟩ := HS.out.c.cells
  have HT := hide (HS.out.bad (q))
  cases q
  all_goals
   go_wp2_with fail
   have HS := HT
   clear c0 c1 c2 c3 c4 c5 k0 k1 k2 k3
   refine (St.rex HS pw d s (by have := HL.out; omega)).mono ?_
   rintro e W3 ⟨rfl, F3, hs⟩
   have HS := hide hs
   clear hs
   obtain ⟨c0, c1, c2, c3, c4, c5⟩ := box_at (HS.out.keep HBX.out)
   go_wp2_with fail
   refine (St.opAt HS B ops.length ops.length ops rfl (HS.out.keep HOX.out) (by have := HL.out; have := HPL.out; simp; omega)).mono ?_
   rintro e W4 ⟨rfl, F4, hs⟩
   have HS := hide hs
   clear c0 c1 c2 c3 c4 c5 hs
   obtain ⟨c0, c1, c2, c3, c4, c5⟩ := box_at (HS.out.keep HBX.out)
   go_wp2_with fail
   refine (St.direct HS d s (by have := HL.out; have := HPL.out; simp; omega)).mono ?_
   rintro e W5 ⟨rfl, F5, hs⟩
   have HS := hide hs
   clear c0 c1 c2 c3 c4 c5 hs
   go_wp2
   go_ret
   refine ⟨rfl, F5, ?_, HF.out.trans HS.out.f⟩
   have := HS.out.c
   have hne : ¬ ops = [] := HNE.out
   have hbe : (ops == []) = false := by rw [beq_eq_false_iff_ne]; exact hne
   simp only [rexB, memB, dirB, List.append_assoc, List.nil_append, List.cons_append, hbe] at this ⊢
   simpa using this
end Go.Proofs.Ytpahjllcomejbaa

/- The coder's lay at instructions of one or two registers and at those with a size; condition: the coder lies in memory. -/
set_option linter.unusedVariables false
set_option linter.unusedSimpArgs false
namespace Go.Proofs.Ytpahjllcomejbaa
open Go.RowKit Go.MapKept

def twoB (kd : Int) : Int := if kd = 1 then 137 else if kd = 3 then 1 else if kd = 4 then 41 else if kd = 5 then 33 else if kd = 6 then 9 else if kd = 7 then 49 else if kd = 8 then 57 else if kd = 9 then 133 else 0
def oneB (kd : Int) : Int × Int := if kd = 11 then (211, 4) else if kd = 12 then (211, 5) else if kd = 13 then (211, 7) else if kd = 14 then (247, 3) else if kd = 15 then (247, 6) else if kd = 16 then (247, 7) else (0, 0)
theorem twoB_out (kd : Int) (h : kd < 0 ∨ 9 < kd) : twoB kd = 0 := by
 unfold twoB
 rw [if_neg (by omega), if_neg (by omega), if_neg (by omega), if_neg (by omega), if_neg (by omega), if_neg (by omega), if_neg (by omega), if_neg (by omega)]
def TwoPost (w : World) (v : Value) (e : Ending) (W : World) : Prop := e = .returned v ∧ Fr [] [] w W
set_option maxRecDepth 100000 in
set_option maxHeartbeats 1600000 in
theorem two_calls (kd : Int) (w : World) : Calls Try.prog 21 #[.int .i64 kd] w (TwoPost w (.int .u8 (twoB kd))) := by
 by_cases h0 : kd < 0
 ·
  rw [twoB_out kd (.inl h0)]
  go_enter Try.func21, Try.ntmps21
  go_wp2
  go_ret
  exact ⟨rfl, (Fr.refl [] w).alloc' _⟩
 by_cases h9 : 9 < kd
 ·
  rw [twoB_out kd (.inr h9)]
  have h10 : 10 ≤ kd := by omega
  clear h9
  go_enter Try.func21, Try.ntmps21
  go_wp2
  go_ret
  exact ⟨rfl, (Fr.refl [] w).alloc' _⟩
 have hk : kd = 0 ∨ kd = 1 ∨ kd = 2 ∨ kd = 3 ∨ kd = 4 ∨ kd = 5 ∨ kd = 6 ∨ kd = 7 ∨ kd = 8 ∨ kd = 9 := by omega
 clear h0 h9
 rcases hk with rfl | rfl | rfl | rfl | rfl | rfl | rfl | rfl | rfl | rfl
 all_goals
  go_enter Try.func21, Try.ntmps21
  go_wp2
  go_ret
  exact ⟨rfl, (Fr.refl [] w).alloc' _⟩
set_option maxRecDepth 100000 in
set_option maxHeartbeats 1600000 in
theorem one_calls (kd : Int) (w : World) : Calls Try.prog 26 #[.int .i64 kd] w (TwoPost w (.tuple #[.int .u8 (oneB kd).1, .int .i64 (oneB kd).2])) := by
 by_cases hk : kd = 11 ∨ kd = 12 ∨ kd = 13 ∨ kd = 14 ∨ kd = 15 ∨ kd = 16
 ·
  rcases hk with rfl | rfl | rfl | rfl | rfl | rfl
  all_goals
   go_enter Try.func26, Try.ntmps26
   go_wp2
   go_ret2
   exact ⟨rfl, Fr.refl _ _⟩
 ·
  have e : oneB kd = (0, 0) := by
   unfold oneB
   rw [if_neg (by omega), if_neg (by omega), if_neg (by omega), if_neg (by omega), if_neg (by omega), if_neg (by omega)]
  rw [e]
  have n1 : (kd == 11) = false := by rw [beq_eq_false_iff_ne]; omega
  have n2 : (kd == 12) = false := by rw [beq_eq_false_iff_ne]; omega
  have n3 : (kd == 13) = false := by rw [beq_eq_false_iff_ne]; omega
  have n4 : (kd == 14) = false := by rw [beq_eq_false_iff_ne]; omega
  have n5 : (kd == 15) = false := by rw [beq_eq_false_iff_ne]; omega
  have n6 : (kd == 16) = false := by rw [beq_eq_false_iff_ne]; omega
  clear hk e
  go_enter Try.func26, Try.ntmps26
  go_wp2
  go_ret2
  exact ⟨rfl, Fr.refl _ _⟩
set_option maxRecDepth 100000 in
set_option maxHeartbeats 4000000 in
theorem lay_two (w : World) (x : Nat) (F : List Nat) (bs : List Int) (bad : Bool) (h : Cod w x F bs bad) (kd d s n i wd : Int) (ht : twoB kd ≠ 0) (hl : bs.length + 40 ≤ 100000000000000) :
  Calls Try.prog 11 #[.pointer (some ⟨x, 0, none⟩), .agg #[.int .i64 kd, .int .i64 d, .int .i64 s, .int .i64 n, .int .i64 i, .int .u64 wd]] w
   (CodPost w x F (bs ++ [rexB true s d, twoB kd, dirB s d]) (bad || out2 d s)) := by
 have hu2 := Try.underlying41
 have hu3 := Try.underlying32
 have HL := hide hl
 have hbl := hide h.lt
 have hx0 : ¬ (w.heap.size = x) := fun e => by have := hbl.out x h.mem; omega
 have hx1 : ¬ (x = w.heap.size) := fun e => hx0 e.symm
 have HBX : Hid ((w.alloc (boxed kd d s n i wd)).heap[w.heap.size]? = some (boxed kd d s n i wd) ∧ w.heap.size ∉ F) := hide ⟨heap_alloc_new w _, fun hk => by have := hbl.out _ hk; omega⟩
 have HS0 : Hid (St (w.alloc (boxed kd d s n i wd)) (w.alloc (boxed kd d s n i wd)) x F F bs bad) := hide ⟨h.alloc _, Fr.refl _ _⟩
 obtain ⟨c0, c1, c2, c3, c4, c5⟩ := box_at HBX.out.1
 have HT2 := hide (two_calls kd (w.alloc (boxed kd d s n i wd)))
 have HF0 : Hid (Fr F F w (w.alloc (boxed kd d s n i wd))) := hide ((Fr.refl F w).alloc' _)
 clear hl h
 have htb : (twoB kd != 0) = true := by rw [bne_iff_ne]; exact ht
 clear ht
 generalize twoB kd = op at *
 unfold boxed at HT2
 go_enter Try.func11, Try.ntmps11
 go_wp2_with fail
 refine HT2.out.mono ?_
 rintro e W1 ⟨rfl, hf⟩
 have HS := hide (HS0.out.fr hf)
 clear c0 c1 c2 c3 c4 c5 hf
 obtain ⟨c0, c1, c2, c3, c4, c5⟩ := box_at (HS.out.keep HBX.out)
 go_wp2_with fail
 refine (St.reg HS [d, s] 2 _ rfl rfl (by simp)).mono ?_
 rintro e W2 ⟨rfl, F_W2, hs⟩
 rw [any2] at hs
 have HS := hide hs
 clear c0 c1 c2 c3 c4 c5 hs
 obtain ⟨c0, c1, c2, c3, c4, c5⟩ := box_at (HS.out.keep HBX.out)
 go_wp2_with fail
 refine (St.rex HS true s d (by have := HL.out; simp; omega)).mono ?_
 rintro e W3 ⟨rfl, F_W3, hs⟩
 have HS := hide hs
 clear c0 c1 c2 c3 c4 c5 hs
 obtain ⟨c0, c1, c2, c3, c4, c5⟩ := box_at (HS.out.keep HBX.out)
 go_wp2_with fail
 refine (St.op HS [op] 1 _ rfl rfl (by have := HL.out; simp; omega)).mono ?_
 rintro e W4 ⟨rfl, F_W4, hs⟩
 have HS := hide hs
 clear c0 c1 c2 c3 c4 c5 hs
 obtain ⟨c0, c1, c2, c3, c4, c5⟩ := box_at (HS.out.keep HBX.out)
 go_wp2_with fail
 refine (St.direct HS s d (by have := HL.out; simp; omega)).mono ?_
 rintro e W5 ⟨rfl, F_W5, hs⟩
 have HS := hide hs
 clear c0 c1 c2 c3 c4 c5 hs
 obtain ⟨c0, c1, c2, c3, c4, c5⟩ := box_at (HS.out.keep HBX.out)
 go_wp2
 refine bodyPost_ret (results_none rfl _ _ _) rfl ?_
 exact ⟨rfl, F_W5, HS.out.c.cast (by simp only [List.append_assoc]; rfl) rfl, HF0.out.trans HS.out.f⟩
end Go.Proofs.Ytpahjllcomejbaa

/- The coder's lay at operations of one register and at instructions with a size; condition: the coder lies in memory. -/
set_option linter.unusedVariables false
set_option linter.unusedSimpArgs false
namespace Go.Proofs.Ytpahjllcomejbaa
open Go.RowKit Go.MapKept

set_option maxRecDepth 100000 in
set_option maxHeartbeats 4000000 in
theorem lay_one (w : World) (x : Nat) (F : List Nat) (bs : List Int) (bad : Bool) (h : Cod w x F bs bad) (kd op n1 d s n i wd : Int) (ht : twoB kd = 0) (ho : oneB kd = (op, n1)) (hl : bs.length + 40 ≤ 100000000000000)
  (h0 : op ≠ 0) :
  Calls Try.prog 11 #[.pointer (some ⟨x, 0, none⟩), .agg #[.int .i64 kd, .int .i64 d, .int .i64 s, .int .i64 n, .int .i64 i, .int .u64 wd]] w
   (CodPost w x F (bs ++ [rexB true 0 d, op, dirB n1 d]) (bad || outReg d)) := by
 have hu2 := Try.underlying41
 have hu3 := Try.underlying32
 have HL := hide hl
 have hbl := hide h.lt
 have hx0 : ¬ (w.heap.size = x) := fun e => by have := hbl.out x h.mem; omega
 have hx1 : ¬ (x = w.heap.size) := fun e => hx0 e.symm
 have HBX : Hid ((w.alloc (boxed kd d s n i wd)).heap[w.heap.size]? = some (boxed kd d s n i wd) ∧ w.heap.size ∉ F) := hide ⟨heap_alloc_new w _, fun hk => by have := hbl.out _ hk; omega⟩
 have HS0 : Hid (St (w.alloc (boxed kd d s n i wd)) (w.alloc (boxed kd d s n i wd)) x F F bs bad) := hide ⟨h.alloc _, Fr.refl _ _⟩
 obtain ⟨c0, c1, c2, c3, c4, c5⟩ := box_at HBX.out.1
 have HT2 := hide (two_calls kd (w.alloc (boxed kd d s n i wd)))
 have HT1 := hide (one_calls kd)
 have HF0 : Hid (Fr F F w (w.alloc (boxed kd d s n i wd))) := hide ((Fr.refl F w).alloc' _)
 rw [ht] at HT2
 rw [ho] at HT1
 clear hl h ht ho
 unfold boxed at HT2
 have htb : (op != 0) = true := by rw [bne_iff_ne]; exact h0
 clear h0
 go_enter Try.func11, Try.ntmps11
 go_wp2_with fail
 refine HT2.out.mono ?_
 rintro e W1 ⟨rfl, hf⟩
 have HS := hide (HS0.out.fr hf)
 clear c0 c1 c2 c3 c4 c5 hf
 obtain ⟨c0, c1, c2, c3, c4, c5⟩ := box_at (HS.out.keep HBX.out)
 go_wp2_with fail
 refine (HT1.out _).mono ?_
 rintro e W1b ⟨rfl, hf⟩
 have HS := hide (HS.out.fr hf)
 clear c0 c1 c2 c3 c4 c5 hf
 obtain ⟨c0, c1, c2, c3, c4, c5⟩ := box_at (HS.out.keep HBX.out)
 go_wp2_with fail
 refine (St.reg HS [d] 1 _ rfl rfl (by simp)).mono ?_
 rintro e W2 ⟨rfl, F_W2, hs⟩
 rw [any1] at hs
 have HS := hide hs
 clear c0 c1 c2 c3 c4 c5 hs
 obtain ⟨c0, c1, c2, c3, c4, c5⟩ := box_at (HS.out.keep HBX.out)
 go_wp2_with fail
 refine (St.rex HS true 0 d (by have := HL.out; simp; omega)).mono ?_
 rintro e W3 ⟨rfl, F_W3, hs⟩
 have HS := hide hs
 clear c0 c1 c2 c3 c4 c5 hs
 obtain ⟨c0, c1, c2, c3, c4, c5⟩ := box_at (HS.out.keep HBX.out)
 go_wp2_with fail
 refine (St.op HS [op] 1 _ rfl rfl (by have := HL.out; simp; omega)).mono ?_
 rintro e W4 ⟨rfl, F_W4, hs⟩
 have HS := hide hs
 clear c0 c1 c2 c3 c4 c5 hs
 obtain ⟨c0, c1, c2, c3, c4, c5⟩ := box_at (HS.out.keep HBX.out)
 go_wp2_with fail
 refine (St.direct HS n1 d (by have := HL.out; simp; omega)).mono ?_
 rintro e W5 ⟨rfl, F_W5, hs⟩
 have HS := hide hs
 clear c0 c1 c2 c3 c4 c5 hs
 obtain ⟨c0, c1, c2, c3, c4, c5⟩ := box_at (HS.out.keep HBX.out)
 go_wp2
 refine bodyPost_ret (results_none rfl _ _ _) rfl ?_
 exact ⟨rfl, F_W5, HS.out.c.cast (by first | rfl | (simp only [List.append_assoc]; rfl)) (by simp), HF0.out.trans HS.out.f⟩
set_option maxRecDepth 100000 in
set_option maxHeartbeats 4000000 in
theorem lay_sized (w : World) (x : Nat) (F : List Nat) (bs : List Int) (bad : Bool) (h : Cod w x F bs bad) (kd d s n i wd : Int) (ht : twoB kd = 0) (ho : oneB kd = (0, 0)) (hl : bs.length + 40 ≤ 100000000000000)
  (B : List Int) (bad2 : Bool) (hsz : ∀ W F, Cod W x F bs bad → Calls Try.prog 27 #[.pointer (some ⟨x, 0, none⟩), .agg #[.int .i64 kd, .int .i64 d, .int .i64 s, .int .i64 n, .int .i64 i, .int .u64 wd]] W (SizedPost W x F (bs ++ B) bad2 true)) :
  Calls Try.prog 11 #[.pointer (some ⟨x, 0, none⟩), .agg #[.int .i64 kd, .int .i64 d, .int .i64 s, .int .i64 n, .int .i64 i, .int .u64 wd]] w
   (CodPost w x F (bs ++ B) (bad2)) := by
 have hu2 := Try.underlying41
 have hu3 := Try.underlying32
 have HL := hide hl
 have hbl := hide h.lt
 have hx0 : ¬ (w.heap.size = x) := fun e => by have := hbl.out x h.mem; omega
 have hx1 : ¬ (x = w.heap.size) := fun e => hx0 e.symm
 have HBX : Hid ((w.alloc (boxed kd d s n i wd)).heap[w.heap.size]? = some (boxed kd d s n i wd) ∧ w.heap.size ∉ F) := hide ⟨heap_alloc_new w _, fun hk => by have := hbl.out _ hk; omega⟩
 have HS0 : Hid (St (w.alloc (boxed kd d s n i wd)) (w.alloc (boxed kd d s n i wd)) x F F bs bad) := hide ⟨h.alloc _, Fr.refl _ _⟩
 obtain ⟨c0, c1, c2, c3, c4, c5⟩ := box_at HBX.out.1
 have HT2 := hide (two_calls kd (w.alloc (boxed kd d s n i wd)))
 have HT1 := hide (one_calls kd)
 have HF0 : Hid (Fr F F w (w.alloc (boxed kd d s n i wd))) := hide ((Fr.refl F w).alloc' _)
 have HSZ := hide hsz
 rw [ht] at HT2
 rw [ho] at HT1
 clear hl h hsz ht ho
 unfold boxed at HT2
 go_enter Try.func11, Try.ntmps11
 go_wp2_with fail
 refine HT2.out.mono ?_
 rintro e W1 ⟨rfl, hf⟩
 have HS := hide (HS0.out.fr hf)
 clear c0 c1 c2 c3 c4 c5 hf
 obtain ⟨c0, c1, c2, c3, c4, c5⟩ := box_at (HS.out.keep HBX.out)
 go_wp2_with fail
 refine (HT1.out _).mono ?_
 rintro e W1b ⟨rfl, hf⟩
 have HS := hide (HS.out.fr hf)
 clear c0 c1 c2 c3 c4 c5 hf
 obtain ⟨c0, c1, c2, c3, c4, c5⟩ := box_at (HS.out.keep HBX.out)
 go_wp2_with fail
 refine (HSZ.out _ _ HS.out.c).mono ?_
 rintro e W1c ⟨rfl, FZ, hc, hf⟩
 have HS : Hid (St (w.alloc (boxed kd d s n i wd)) W1c x F FZ (bs ++ B) bad2) := hide ⟨hc, HS.out.f.trans hf⟩
 clear c0 c1 c2 c3 c4 c5 hc hf
 obtain ⟨c0, c1, c2, c3, c4, c5⟩ := box_at (HS.out.keep HBX.out)
 go_wp2
 refine bodyPost_ret (results_none rfl _ _ _) rfl ?_
 exact ⟨rfl, FZ, HS.out.c.cast (by first | rfl | (simp only [List.append_assoc]; rfl)) (by simp), HF0.out.trans HS.out.f⟩
end Go.Proofs.Ytpahjllcomejbaa
