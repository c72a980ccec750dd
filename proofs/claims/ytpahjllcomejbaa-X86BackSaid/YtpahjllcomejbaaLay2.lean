/- The coder's lay at operations of one register and at instructions with a size; condition: the coder lies in memory. -/
import Derived.Test.YtpahjllcomejbaaLay1
set_option linter.unusedVariables false
set_option linter.unusedSimpArgs false
namespace Go.Proofs.Ytpahjllcomejbaa
open Go.RowKit Go.MapKept

set_option maxRecDepth 100000 in
set_option maxHeartbeats 4000000 in
theorem lay_one (w : World) (x : Nat) (F : List Nat) (bs : List Int) (bad : Bool) (h : Cod w x F bs bad) (kd op n1 d s n i wd : Int) (ht : twoB kd = 0) (ho : oneB kd = (op, n1)) (hl : bs.length + 40 ≤ 100000000000000)
    (h0 : op ≠ 0) :
    Calls Try.prog 11 #[.pointer (some ⟨x, 0, none⟩), .agg #[.int .i64 kd, .int .i64 d, .int .i64 s, .int .i64 n, .int .i64 i, .int .u64 wd]] w
      (CodPost w x F (bs ++ [rexB true 0 d, op, dirB n1 d]) (bad || outReg d)) := by
  have hu2 := Try.underlying41
  have hu3 := Try.underlying32
  have HL := hide hl
  have hbl := hide h.lt
  have hx0 : ¬ (w.heap.size = x) := fun e => by have := hbl.out x h.mem; omega
  have hx1 : ¬ (x = w.heap.size) := fun e => hx0 e.symm
  have HBX : Hid ((w.alloc (boxed kd d s n i wd)).heap[w.heap.size]? = some (boxed kd d s n i wd) ∧ w.heap.size ∉ F) := hide ⟨heap_alloc_new w _, fun hk => by have := hbl.out _ hk; omega⟩
  have HS0 : Hid (St (w.alloc (boxed kd d s n i wd)) (w.alloc (boxed kd d s n i wd)) x F F bs bad) := hide ⟨h.alloc _, Fr.refl _ _⟩
  obtain ⟨c0, c1, c2, c3, c4, c5⟩ := box_at HBX.out.1
  have HT2 := hide (two_calls kd (w.alloc (boxed kd d s n i wd)))
  have HT1 := hide (one_calls kd)
  have HF0 : Hid (Fr F F w (w.alloc (boxed kd d s n i wd))) := hide ((Fr.refl F w).alloc' _)
  rw [ht] at HT2
  rw [ho] at HT1
  clear hl h ht ho
  unfold boxed at HT2
  have htb : (op != 0) = true := by rw [bne_iff_ne]; exact h0
  clear h0
  go_enter Try.func11, Try.ntmps11
  go_wp2_with fail
  refine HT2.out.mono ?_
  rintro e W1 ⟨rfl, hf⟩
  have HS := hide (HS0.out.fr hf)
  clear c0 c1 c2 c3 c4 c5 hf
  obtain ⟨c0, c1, c2, c3, c4, c5⟩ := box_at (HS.out.keep HBX.out)
  go_wp2_with fail
  refine (HT1.out _).mono ?_
  rintro e W1b ⟨rfl, hf⟩
  have HS := hide (HS.out.fr hf)
  clear c0 c1 c2 c3 c4 c5 hf
  obtain ⟨c0, c1, c2, c3, c4, c5⟩ := box_at (HS.out.keep HBX.out)
  go_wp2_with fail
  refine (St.reg HS [d] 1 _ rfl rfl (by simp)).mono ?_
  rintro e W2 ⟨rfl, F_W2, hs⟩
  rw [any1] at hs
  have HS := hide hs
  clear c0 c1 c2 c3 c4 c5 hs
  obtain ⟨c0, c1, c2, c3, c4, c5⟩ := box_at (HS.out.keep HBX.out)
  go_wp2_with fail
  refine (St.rex HS true 0 d (by have := HL.out; simp; omega)).mono ?_
  rintro e W3 ⟨rfl, F_W3, hs⟩
  have HS := hide hs
  clear c0 c1 c2 c3 c4 c5 hs
  obtain ⟨c0, c1, c2, c3, c4, c5⟩ := box_at (HS.out.keep HBX.out)
  go_wp2_with fail
  refine (St.op HS [op] 1 _ rfl rfl (by have := HL.out; simp; omega)).mono ?_
  rintro e W4 ⟨rfl, F_W4, hs⟩
  have HS := hide hs
  clear c0 c1 c2 c3 c4 c5 hs
  obtain ⟨c0, c1, c2, c3, c4, c5⟩ := box_at (HS.out.keep HBX.out)
  go_wp2_with fail
  refine (St.direct HS n1 d (by have := HL.out; simp; omega)).mono ?_
  rintro e W5 ⟨rfl, F_W5, hs⟩
  have HS := hide hs
  clear c0 c1 c2 c3 c4 c5 hs
  obtain ⟨c0, c1, c2, c3, c4, c5⟩ := box_at (HS.out.keep HBX.out)
  go_wp2
  refine bodyPost_ret (results_none rfl _ _ _) rfl ?_
  exact ⟨rfl, F_W5, HS.out.c.cast (by first | rfl | (simp only [List.append_assoc]; rfl)) (by simp), HF0.out.trans HS.out.f⟩
set_option maxRecDepth 100000 in
set_option maxHeartbeats 4000000 in
theorem lay_sized (w : World) (x : Nat) (F : List Nat) (bs : List Int) (bad : Bool) (h : Cod w x F bs bad) (kd d s n i wd : Int) (ht : twoB kd = 0) (ho : oneB kd = (0, 0)) (hl : bs.length + 40 ≤ 100000000000000)
    (B : List Int) (bad2 : Bool) (hsz : ∀ W F, Cod W x F bs bad → Calls Try.prog 27 #[.pointer (some ⟨x, 0, none⟩), .agg #[.int .i64 kd, .int .i64 d, .int .i64 s, .int .i64 n, .int .i64 i, .int .u64 wd]] W (SizedPost W x F (bs ++ B) bad2 true)) :
    Calls Try.prog 11 #[.pointer (some ⟨x, 0, none⟩), .agg #[.int .i64 kd, .int .i64 d, .int .i64 s, .int .i64 n, .int .i64 i, .int .u64 wd]] w
      (CodPost w x F (bs ++ B) (bad2)) := by
  have hu2 := Try.underlying41
  have hu3 := Try.underlying32
  have HL := hide hl
  have hbl := hide h.lt
  have hx0 : ¬ (w.heap.size = x) := fun e => by have := hbl.out x h.mem; omega
  have hx1 : ¬ (x = w.heap.size) := fun e => hx0 e.symm
  have HBX : Hid ((w.alloc (boxed kd d s n i wd)).heap[w.heap.size]? = some (boxed kd d s n i wd) ∧ w.heap.size ∉ F) := hide ⟨heap_alloc_new w _, fun hk => by have := hbl.out _ hk; omega⟩
  have HS0 : Hid (St (w.alloc (boxed kd d s n i wd)) (w.alloc (boxed kd d s n i wd)) x F F bs bad) := hide ⟨h.alloc _, Fr.refl _ _⟩
  obtain ⟨c0, c1, c2, c3, c4, c5⟩ := box_at HBX.out.1
  have HT2 := hide (two_calls kd (w.alloc (boxed kd d s n i wd)))
  have HT1 := hide (one_calls kd)
  have HF0 : Hid (Fr F F w (w.alloc (boxed kd d s n i wd))) := hide ((Fr.refl F w).alloc' _)
  have HSZ := hide hsz
  rw [ht] at HT2
  rw [ho] at HT1
  clear hl h hsz ht ho
  unfold boxed at HT2
  go_enter Try.func11, Try.ntmps11
  go_wp2_with fail
  refine HT2.out.mono ?_
  rintro e W1 ⟨rfl, hf⟩
  have HS := hide (HS0.out.fr hf)
  clear c0 c1 c2 c3 c4 c5 hf
  obtain ⟨c0, c1, c2, c3, c4, c5⟩ := box_at (HS.out.keep HBX.out)
  go_wp2_with fail
  refine (HT1.out _).mono ?_
  rintro e W1b ⟨rfl, hf⟩
  have HS := hide (HS.out.fr hf)
  clear c0 c1 c2 c3 c4 c5 hf
  obtain ⟨c0, c1, c2, c3, c4, c5⟩ := box_at (HS.out.keep HBX.out)
  go_wp2_with fail
  refine (HSZ.out _ _ HS.out.c).mono ?_
  rintro e W1c ⟨rfl, FZ, hc, hf⟩
  have HS : Hid (St (w.alloc (boxed kd d s n i wd)) W1c x F FZ (bs ++ B) bad2) := hide ⟨hc, HS.out.f.trans hf⟩
  clear c0 c1 c2 c3 c4 c5 hc hf
  obtain ⟨c0, c1, c2, c3, c4, c5⟩ := box_at (HS.out.keep HBX.out)
  go_wp2
  refine bodyPost_ret (results_none rfl _ _ _) rfl ?_
  exact ⟨rfl, FZ, HS.out.c.cast (by first | rfl | (simp only [List.append_assoc]; rfl)) (by simp), HF0.out.trans HS.out.f⟩
end Go.Proofs.Ytpahjllcomejbaa
