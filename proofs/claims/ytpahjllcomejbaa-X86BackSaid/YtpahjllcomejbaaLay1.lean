/- The coder's lay at instructions of one or two registers and at those with a size; condition: the coder lies in memory. -/
import Derived.Test.YtpahjllcomejbaaSized20
import Derived.Test.YtpahjllcomejbaaSized19
import Derived.Test.YtpahjllcomejbaaSized26
import Derived.Test.YtpahjllcomejbaaSized27
set_option linter.unusedVariables false
set_option linter.unusedSimpArgs false
namespace Go.Proofs.Ytpahjllcomejbaa
open Go.RowKit Go.MapKept

def twoB (kd : Int) : Int := if kd = 1 then 137 else if kd = 3 then 1 else if kd = 4 then 41 else if kd = 5 then 33 else if kd = 6 then 9 else if kd = 7 then 49 else if kd = 8 then 57 else if kd = 9 then 133 else 0
def oneB (kd : Int) : Int × Int := if kd = 11 then (211, 4) else if kd = 12 then (211, 5) else if kd = 13 then (211, 7) else if kd = 14 then (247, 3) else if kd = 15 then (247, 6) else if kd = 16 then (247, 7) else (0, 0)
theorem twoB_out (kd : Int) (h : kd < 0 ∨ 9 < kd) : twoB kd = 0 := by
  unfold twoB
  rw [if_neg (by omega), if_neg (by omega), if_neg (by omega), if_neg (by omega), if_neg (by omega), if_neg (by omega), if_neg (by omega), if_neg (by omega)]
def TwoPost (w : World) (v : Value) (e : Ending) (W : World) : Prop := e = .returned v ∧ Fr [] [] w W
set_option maxRecDepth 100000 in
set_option maxHeartbeats 1600000 in
theorem two_calls (kd : Int) (w : World) : Calls Try.prog 21 #[.int .i64 kd] w (TwoPost w (.int .u8 (twoB kd))) := by
  by_cases h0 : kd < 0
  · rw [twoB_out kd (.inl h0)]
    go_enter Try.func21, Try.ntmps21
    go_wp2
    go_ret
    exact ⟨rfl, (Fr.refl [] w).alloc' _⟩
  by_cases h9 : 9 < kd
  · rw [twoB_out kd (.inr h9)]
    have h10 : 10 ≤ kd := by omega
    clear h9
    go_enter Try.func21, Try.ntmps21
    go_wp2
    go_ret
    exact ⟨rfl, (Fr.refl [] w).alloc' _⟩
  have hk : kd = 0 ∨ kd = 1 ∨ kd = 2 ∨ kd = 3 ∨ kd = 4 ∨ kd = 5 ∨ kd = 6 ∨ kd = 7 ∨ kd = 8 ∨ kd = 9 := by omega
  clear h0 h9
  rcases hk with rfl | rfl | rfl | rfl | rfl | rfl | rfl | rfl | rfl | rfl
  all_goals
    go_enter Try.func21, Try.ntmps21
    go_wp2
    go_ret
    exact ⟨rfl, (Fr.refl [] w).alloc' _⟩
set_option maxRecDepth 100000 in
set_option maxHeartbeats 1600000 in
theorem one_calls (kd : Int) (w : World) : Calls Try.prog 26 #[.int .i64 kd] w (TwoPost w (.tuple #[.int .u8 (oneB kd).1, .int .i64 (oneB kd).2])) := by
  by_cases hk : kd = 11 ∨ kd = 12 ∨ kd = 13 ∨ kd = 14 ∨ kd = 15 ∨ kd = 16
  · rcases hk with rfl | rfl | rfl | rfl | rfl | rfl
    all_goals
      go_enter Try.func26, Try.ntmps26
      go_wp2
      go_ret2
      exact ⟨rfl, Fr.refl _ _⟩
  · have e : oneB kd = (0, 0) := by
      unfold oneB
      rw [if_neg (by omega), if_neg (by omega), if_neg (by omega), if_neg (by omega), if_neg (by omega), if_neg (by omega)]
    rw [e]
    have n1 : (kd == 11) = false := by rw [beq_eq_false_iff_ne]; omega
    have n2 : (kd == 12) = false := by rw [beq_eq_false_iff_ne]; omega
    have n3 : (kd == 13) = false := by rw [beq_eq_false_iff_ne]; omega
    have n4 : (kd == 14) = false := by rw [beq_eq_false_iff_ne]; omega
    have n5 : (kd == 15) = false := by rw [beq_eq_false_iff_ne]; omega
    have n6 : (kd == 16) = false := by rw [beq_eq_false_iff_ne]; omega
    clear hk e
    go_enter Try.func26, Try.ntmps26
    go_wp2
    go_ret2
    exact ⟨rfl, Fr.refl _ _⟩
set_option maxRecDepth 100000 in
set_option maxHeartbeats 4000000 in
theorem lay_two (w : World) (x : Nat) (F : List Nat) (bs : List Int) (bad : Bool) (h : Cod w x F bs bad) (kd d s n i wd : Int) (ht : twoB kd ≠ 0) (hl : bs.length + 40 ≤ 100000000000000) :
    Calls Try.prog 11 #[.pointer (some ⟨x, 0, none⟩), .agg #[.int .i64 kd, .int .i64 d, .int .i64 s, .int .i64 n, .int .i64 i, .int .u64 wd]] w
      (CodPost w x F (bs ++ [rexB true s d, twoB kd, dirB s d]) (bad || out2 d s)) := by
  have hu2 := Try.underlying41
  have hu3 := Try.underlying32
  have HL := hide hl
  have hbl := hide h.lt
  have hx0 : ¬ (w.heap.size = x) := fun e => by have := hbl.out x h.mem; omega
  have hx1 : ¬ (x = w.heap.size) := fun e => hx0 e.symm
  have HBX : Hid ((w.alloc (boxed kd d s n i wd)).heap[w.heap.size]? = some (boxed kd d s n i wd) ∧ w.heap.size ∉ F) := hide ⟨heap_alloc_new w _, fun hk => by have := hbl.out _ hk; omega⟩
  have HS0 : Hid (St (w.alloc (boxed kd d s n i wd)) (w.alloc (boxed kd d s n i wd)) x F F bs bad) := hide ⟨h.alloc _, Fr.refl _ _⟩
  obtain ⟨c0, c1, c2, c3, c4, c5⟩ := box_at HBX.out.1
  have HT2 := hide (two_calls kd (w.alloc (boxed kd d s n i wd)))
  have HF0 : Hid (Fr F F w (w.alloc (boxed kd d s n i wd))) := hide ((Fr.refl F w).alloc' _)
  clear hl h
  have htb : (twoB kd != 0) = true := by rw [bne_iff_ne]; exact ht
  clear ht
  generalize twoB kd = op at *
  unfold boxed at HT2
  go_enter Try.func11, Try.ntmps11
  go_wp2_with fail
  refine HT2.out.mono ?_
  rintro e W1 ⟨rfl, hf⟩
  have HS := hide (HS0.out.fr hf)
  clear c0 c1 c2 c3 c4 c5 hf
  obtain ⟨c0, c1, c2, c3, c4, c5⟩ := box_at (HS.out.keep HBX.out)
  go_wp2_with fail
  refine (St.reg HS [d, s] 2 _ rfl rfl (by simp)).mono ?_
  rintro e W2 ⟨rfl, F_W2, hs⟩
  rw [any2] at hs
  have HS := hide hs
  clear c0 c1 c2 c3 c4 c5 hs
  obtain ⟨c0, c1, c2, c3, c4, c5⟩ := box_at (HS.out.keep HBX.out)
  go_wp2_with fail
  refine (St.rex HS true s d (by have := HL.out; simp; omega)).mono ?_
  rintro e W3 ⟨rfl, F_W3, hs⟩
  have HS := hide hs
  clear c0 c1 c2 c3 c4 c5 hs
  obtain ⟨c0, c1, c2, c3, c4, c5⟩ := box_at (HS.out.keep HBX.out)
  go_wp2_with fail
  refine (St.op HS [op] 1 _ rfl rfl (by have := HL.out; simp; omega)).mono ?_
  rintro e W4 ⟨rfl, F_W4, hs⟩
  have HS := hide hs
  clear c0 c1 c2 c3 c4 c5 hs
  obtain ⟨c0, c1, c2, c3, c4, c5⟩ := box_at (HS.out.keep HBX.out)
  go_wp2_with fail
  refine (St.direct HS s d (by have := HL.out; simp; omega)).mono ?_
  rintro e W5 ⟨rfl, F_W5, hs⟩
  have HS := hide hs
  clear c0 c1 c2 c3 c4 c5 hs
  obtain ⟨c0, c1, c2, c3, c4, c5⟩ := box_at (HS.out.keep HBX.out)
  go_wp2
  refine bodyPost_ret (results_none rfl _ _ _) rfl ?_
  exact ⟨rfl, F_W5, HS.out.c.cast (by simp only [List.append_assoc]; rfl) rfl, HF0.out.trans HS.out.f⟩
end Go.Proofs.Ytpahjllcomejbaa
