/- Several texts of this claim in one: each is told where it begins. -/
import Derived.Test.YtpahjllcomejbaaSized20
/- The coder's sized at kind 19; condition: the coder lies in memory. -/
set_option linter.unusedVariables false
set_option linter.unusedSimpArgs false
namespace Go.Proofs.Ytpahjllcomejbaa
open Go.RowKit Go.MapKept
set_option maxRecDepth 100000 in
set_option maxHeartbeats 4000000 in
theorem sized_19 (w : World) (x : Nat) (F : List Nat) (bs : List Int) (bad : Bool) (h : Cod w x F bs bad) (d s n i wd : Int) (hl : bs.length + 40 ≤ 100000000000000) :
  Calls Try.prog 27 #[.pointer (some ⟨x, 0, none⟩), .agg #[.int .i64 19, .int .i64 d, .int .i64 s, .int .i64 n, .int .i64 i, .int .u64 wd]] w
   (SizedPost w x F (bs ++ ([rexB (readsB n true).1 d s] ++ (readsB n true).2 ++ memB d s i)) ((bad || out2 d s || ((readsB n true).2 == [])) || !fits32 i) true) := by
 have hu2 := Try.underlying41
 have hu3 := Try.underlying32
 have HL := hide hl
 have hbl := hide h.lt
 have HH := hide h
 have HB0 : Hid ((w.alloc (boxed 19 d s n i wd)).heap[w.heap.size]? = some (boxed 19 d s n i wd)) := hide (heap_alloc_new w _)
 have HC0 : Hid (Cod (w.alloc (boxed 19 d s n i wd)) x F bs bad) := hide (h.alloc _)
 obtain ⟨c0, c1, c2, c3, c4, c5⟩ := box_at HB0.out
 have HP := hide (readsB_len n true)
 have HRC := hide (reads_calls n true (w.alloc (boxed 19 d s n i wd)))
 generalize readsB n true = p at *
 unfold boxed at *
 have hx0 : ¬ (w.heap.size = x) := fun e => by have := hbl.out x h.mem; omega
 have hx1 : ¬ (x = w.heap.size) := fun e => hx0 e.symm
 have es0 := fun W => @Lib.run_eql_slice_nil Try.prog W
 clear hl h
 go_enter Try.func27, Try.ntmps27
 go_wp2_with fail
 refine HRC.out.mono ?_
 intro e W1 hr
 obtain ⟨pw, ops⟩ := p
 rcases hr with ⟨hnil, rfl, hf⟩ | ⟨hne, B, rfl, hB, hf, hBs⟩
 ·
  simp only at hnil
  subst hnil
  have HS : Hid (St W1 W1 x F F bs bad) := hide ⟨HC0.out.fr hf, Fr.refl _ _⟩
  have HBX : Hid (W1.heap[w.heap.size]? = some (boxed 19 d s n i wd) ∧ w.heap.size ∉ F) := hide ⟨hf.keep HB0.out (by simp), fun hk => by have := hbl.out _ hk; omega⟩
  have HF := hide (((Fr.refl F w).alloc' (boxed 19 d s n i wd)).more hf)
  clear c0 c1 c2 c3 c4 c5 hf
  obtain ⟨c0, c1, c2, c3, c4, c5⟩ := box_at HBX.out.1
  go_wp2_with fail
  refine (St.reg HS [d, s] 2 _ rfl rfl (by simp)).mono ?_
  rintro e W2 ⟨rfl, F2, hs⟩
  rw [any2] at hs
  generalize hq : (bad || out2 d s) = q at *
  have HQ' := hide hq
  clear hq
  have HS := hide hs
  clear c0 c1 c2 c3 c4 c5 hs
  obtain ⟨c0, c1, c2, c3, c4, c5⟩ := box_at (HS.out.keep HBX.out)
  obtain ⟨v, k0, k1, k2, k3⟩ := HS.out.c.cells
  have HT := hide (HS.out.bad true)
  cases q
  all_goals
   go_wp2_with fail
   have HS := HT
   clear c0 c1 c2 c3 c4 c5 k0 k1 k2 k3
   refine (St.rex HS pw d s (by have := HL.out; omega)).mono ?_
   rintro e W3 ⟨rfl, F3, hs⟩
   have HS := hide hs
   clear hs
   obtain ⟨c0, c1, c2, c3, c4, c5⟩ := box_at (HS.out.keep HBX.out)
   go_wp2_with fail
   refine (St.opNone HS).mono ?_
   rintro e W4 ⟨rfl, F4, hs⟩
   have HS := hide hs
   clear c0 c1 c2 c3 c4 c5 hs
   obtain ⟨c0, c1, c2, c3, c4, c5⟩ := box_at (HS.out.keep HBX.out)
   go_wp2_with fail
   refine (St.memory HS d s i (by have := HL.out; simp; omega)).mono ?_
   rintro e W5 ⟨rfl, F5, hs⟩
   have HS := hide hs
   clear c0 c1 c2 c3 c4 c5 hs
   go_wp2
   go_ret
   refine ⟨rfl, F5, ?_, HF.out.trans HS.out.f⟩
   have := HS.out.c
   simp only [rexB, memB, dirB, List.append_assoc, List.nil_append, List.cons_append] at this ⊢
   simpa using this
 ·
  have hpl : ops.length ≤ 2 := HP.out
  have HPL := hide hpl
  have HNE := hide hne
  have HS : Hid (St W1 W1 x F F bs bad) := hide ⟨HC0.out.fr hf, Fr.refl _ _⟩
  have HBX : Hid (W1.heap[w.heap.size]? = some (boxed 19 d s n i wd) ∧ w.heap.size ∉ F) := hide ⟨hf.keep HB0.out (by simp), fun hk => by have := hbl.out _ hk; omega⟩
  have HOX : Hid (W1.heap[B]? = some (.cells (u8s ops).toArray 5 (0, 0)) ∧ B ∉ F) := hide ⟨hB, fun hk => by have := hbl.out _ hk; simp at hBs; omega⟩
  have HF := hide (((Fr.refl F w).alloc' (boxed 19 d s n i wd)).more hf)
  clear c0 c1 c2 c3 c4 c5 hf hB hBs hne hpl
  obtain ⟨c0, c1, c2, c3, c4, c5⟩ := box_at HBX.out.1
  go_wp2_with fail
  refine (St.reg HS [d, s] 2 _ rfl rfl (by simp)).mono ?_
  rintro e W2 ⟨rfl, F2, hs⟩
  rw [any2] at hs
  generalize hq : (bad || out2 d s) = q at *
  have HQ' := hide hq
  clear hq
  have HS := hide hs
  clear c0 c1 c2 c3 c4 c5 hs
  obtain ⟨c0, c1, c2, c3, c4, c5⟩ := box_at (HS.out.keep HBX.out)
  obtain ⟨v, k0, k1, k2, k3⟩ := HS.out.c.cells
  have HT := hide (HS.out.bad (q))
  cases q
  all_goals
   go_wp2_with fail
   have HS := HT
   clear c0 c1 c2 c3 c4 c5 k0 k1 k2 k3
   refine (St.rex HS pw d s (by have := HL.out; omega)).mono ?_
   rintro e W3 ⟨rfl, F3, hs⟩
   have HS := hide hs
   clear hs
   obtain ⟨c0, c1, c2, c3, c4, c5⟩ := box_at (HS.out.keep HBX.out)
   go_wp2_with fail
   refine (St.opAt HS B ops.length ops.length ops rfl (HS.out.keep HOX.out) (by have := HL.out; have := HPL.out; simp; omega)).mono ?_
   rintro e W4 ⟨rfl, F4, hs⟩
   have HS := hide hs
   clear c0 c1 c2 c3 c4 c5 hs
   obtain ⟨c0, c1, c2, c3, c4, c5⟩ := box_at (HS.out.keep HBX.out)
   go_wp2_with fail
   refine (St.memory HS d s i (by have := HL.out; have := HPL.out; simp; omega)).mono ?_
   rintro e W5 ⟨rfl, F5, hs⟩
   have HS := hide hs
   clear c0 c1 c2 c3 c4 c5 hs
   go_wp2
   go_ret
   refine ⟨rfl, F5, ?_, HF.out.trans HS.out.f⟩
   have := HS.out.c
   have hne : ¬ ops = [] := HNE.out
   have hbe : (ops == []) = false := by rw [beq_eq_false_iff_ne]; exact hne
   simp only [rexB, memB, dirB, List.append_assoc, List.nil_append, List.cons_append, hbe] at this ⊢
   simpa using this
end Go.Proofs.Ytpahjllcomejbaa

/- The coder's sized at kind 26; condition: the coder lies in memory. -/
set_option linter.unusedVariables false
set_option linter.unusedSimpArgs false
namespace Go.Proofs.Ytpahjllcomejbaa
open Go.RowKit Go.MapKept
set_option maxRecDepth 100000 in
set_option maxHeartbeats 4000000 in
theorem sized_26 (w : World) (x : Nat) (F : List Nat) (bs : List Int) (bad : Bool) (h : Cod w x F bs bad) (d s n i wd : Int) (hl : bs.length + 40 ≤ 100000000000000) :
  Calls Try.prog 27 #[.pointer (some ⟨x, 0, none⟩), .agg #[.int .i64 26, .int .i64 d, .int .i64 s, .int .i64 n, .int .i64 i, .int .u64 wd]] w
   (SizedPost w x F (bs ++ ([rexB (readsB n false).1 d s] ++ (readsB n false).2 ++ [dirB d s])) ((bad || out2 d s || ((readsB n false).2 == []) || (decide (n ≠ 2) && decide (n ≠ 4)))) true) := by
 have hu2 := Try.underlying41
 have hu3 := Try.underlying32
 have HL := hide hl
 have hbl := hide h.lt
 have HH := hide h
 have HB0 : Hid ((w.alloc (boxed 26 d s n i wd)).heap[w.heap.size]? = some (boxed 26 d s n i wd)) := hide (heap_alloc_new w _)
 have HC0 : Hid (Cod (w.alloc (boxed 26 d s n i wd)) x F bs bad) := hide (h.alloc _)
 obtain ⟨c0, c1, c2, c3, c4, c5⟩ := box_at HB0.out
 have HP := hide (readsB_len n false)
 have HRC := hide (reads_calls n false (w.alloc (boxed 26 d s n i wd)))
 generalize readsB n false = p at *
 unfold boxed at *
 have hx0 : ¬ (w.heap.size = x) := fun e => by have := hbl.out x h.mem; omega
 have hx1 : ¬ (x = w.heap.size) := fun e => hx0 e.symm
 have es0 := fun W => @Lib.run_eql_slice_nil Try.prog W
 clear hl h
 go_enter Try.func27, Try.ntmps27
 go_wp2_with fail
 refine HRC.out.mono ?_
 intro e W1 hr
 obtain ⟨pw, ops⟩ := p
 rcases hr with ⟨hnil, rfl, hf⟩ | ⟨hne, B, rfl, hB, hf, hBs⟩
 ·
  simp only at hnil
  subst hnil
  have HS : Hid (St W1 W1 x F F bs bad) := hide ⟨HC0.out.fr hf, Fr.refl _ _⟩
  have HBX : Hid (W1.heap[w.heap.size]? = some (boxed 26 d s n i wd) ∧ w.heap.size ∉ F) := hide ⟨hf.keep HB0.out (by simp), fun hk => by have := hbl.out _ hk; omega⟩
  have HF := hide (((Fr.refl F w).alloc' (boxed 26 d s n i wd)).more hf)
  clear c0 c1 c2 c3 c4 c5 hf
  obtain ⟨c0, c1, c2, c3, c4, c5⟩ := box_at HBX.out.1
  go_wp2_with fail
  refine (St.reg HS [d, s] 2 _ rfl rfl (by simp)).mono ?_
  rintro e W2 ⟨rfl, F2, hs⟩
  rw [any2] at hs
  generalize hq : (bad || out2 d s) = q at *
  have HQ' := hide hq
  clear hq
  have HS := hide hs
  clear c0 c1 c2 c3 c4 c5 hs
  obtain ⟨c0, c1, c2, c3, c4, c5⟩ := box_at (HS.out.keep HBX.out)
  obtain ⟨v, k0, k1, k2, k3⟩ := HS.out.c.cells
  have HT := hide (HS.out.bad true)
  cases q
  all_goals
   go_wp2_with fail
   have HS := HT
   clear c0 c1 c2 c3 c4 c5 k0 k1 k2 k3
   refine (St.rex HS pw d s (by have := HL.out; omega)).mono ?_
   rintro e W3 ⟨rfl, F3, hs⟩
   have HS := hide hs
   clear hs
   obtain ⟨c0, c1, c2, c3, c4, c5⟩ := box_at (HS.out.keep HBX.out)
   go_wp2_with fail
   refine (St.opNone HS).mono ?_
   rintro e W4 ⟨rfl, F4, hs⟩
   have HS := hide hs
   clear c0 c1 c2 c3 c4 c5 hs
   obtain ⟨c0, c1, c2, c3, c4, c5⟩ := box_at (HS.out.keep HBX.out)
   go_wp2_with fail
   refine (St.direct HS d s (by have := HL.out; simp; omega)).mono ?_
   rintro e W5 ⟨rfl, F5, hs⟩
   have HS := hide hs
   clear c0 c1 c2 c3 c4 c5 hs
   go_wp2
   go_ret
   refine ⟨rfl, F5, ?_, HF.out.trans HS.out.f⟩
   have := HS.out.c
   simp only [rexB, memB, dirB, List.append_assoc, List.nil_append, List.cons_append] at this ⊢
   simpa using this
 ·
  have hpl : ops.length ≤ 2 := HP.out
  have HPL := hide hpl
  have HNE := hide hne
  have HS : Hid (St W1 W1 x F F bs bad) := hide ⟨HC0.out.fr hf, Fr.refl _ _⟩
  have HBX : Hid (W1.heap[w.heap.size]? = some (boxed 26 d s n i wd) ∧ w.heap.size ∉ F) := hide ⟨hf.keep HB0.out (by simp), fun hk => by have := hbl.out _ hk; omega⟩
  have HOX : Hid (W1.heap[B]? = some (.cells (u8s ops).toArray 5 (0, 0)) ∧ B ∉ F) := hide ⟨hB, fun hk => by have := hbl.out _ hk; simp at hBs; omega⟩
  have HF := hide (((Fr.refl F w).alloc' (boxed 26 d s n i wd)).more hf)
  clear c0 c1 c2 c3 c4 c5 hf hB hBs hne hpl
  obtain ⟨c0, c1, c2, c3, c4, c5⟩ := box_at HBX.out.1
  go_wp2_with fail
  refine (St.reg HS [d, s] 2 _ rfl rfl (by simp)).mono ?_
  rintro e W2 ⟨rfl, F2, hs⟩
  rw [any2] at hs
  generalize hq : (bad || out2 d s) = q at *
  have HQ' := hide hq
  clear hq
  have HS := hide hs
  clear c0 c1 c2 c3 c4 c5 hs
  obtain ⟨c0, c1, c2, c3, c4, c5⟩ := box_at (HS.out.keep HBX.out)
  obtain ⟨v, k0, k1, k2, k3⟩ := HS.out.c.cells
  have HT := hide (HS.out.bad (q || (decide (n ≠ 2) && decide (n ≠ 4))))
  generalize hz : (decide (n ≠ 2) && decide (n ≠ 4)) = z at *
  have hz2 : (n != 2) = decide (n ≠ 2) := by rw [Bool.eq_iff_iff]; simp
  have hz4 : (n != 4) = decide (n ≠ 4) := by rw [Bool.eq_iff_iff]; simp
  have HZ := hide hz
  have HZ2 := hide hz2
  have HZ4 := hide hz4
  clear hz hz2 hz4
  have hcase : (z = true ∧ (n != 2) = true ∧ (n != 4) = true) ∨ (z = false ∧ (n != 2) = true ∧ (n != 4) = false) ∨ (z = false ∧ (n != 2) = false) := by
   rw [HZ2.out, HZ4.out, ← HZ.out]
   by_cases a : n = 2
   ·
    simp [a]
   ·
    by_cases b : n = 4 <;> simp [a, b]
  rcases hcase with ⟨rfl, z2, z4⟩ | ⟨rfl, z2, z4⟩ | ⟨rfl, z2⟩ <;> cases q
  all_goals
   go_wp2_with fail
   have HS := HT
   clear c0 c1 c2 c3 c4 c5 k0 k1 k2 k3
   refine (St.rex HS pw d s (by have := HL.out; omega)).mono ?_
   rintro e W3 ⟨rfl, F3, hs⟩
   have HS := hide hs
   clear hs
   obtain ⟨c0, c1, c2, c3, c4, c5⟩ := box_at (HS.out.keep HBX.out)
   go_wp2_with fail
   refine (St.opAt HS B ops.length ops.length ops rfl (HS.out.keep HOX.out) (by have := HL.out; have := HPL.out; simp; omega)).mono ?_
   rintro e W4 ⟨rfl, F4, hs⟩
   have HS := hide hs
   clear c0 c1 c2 c3 c4 c5 hs
   obtain ⟨c0, c1, c2, c3, c4, c5⟩ := box_at (HS.out.keep HBX.out)
   go_wp2_with fail
   refine (St.direct HS d s (by have := HL.out; have := HPL.out; simp; omega)).mono ?_
   rintro e W5 ⟨rfl, F5, hs⟩
   have HS := hide hs
   clear c0 c1 c2 c3 c4 c5 hs
   go_wp2
   go_ret
   refine ⟨rfl, F5, ?_, HF.out.trans HS.out.f⟩
   have := HS.out.c
   have hne : ¬ ops = [] := HNE.out
   have hbe : (ops == []) = false := by rw [beq_eq_false_iff_ne]; exact hne
   simp only [rexB, memB, dirB, List.append_assoc, List.nil_append, List.cons_append, hbe] at this ⊢
   simpa using this
end Go.Proofs.Ytpahjllcomejbaa
