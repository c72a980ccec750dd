/- The reference's lay, kind by kind; condition: both registers are some. -/
import Derived.Test.YtpahjllcomejbaaRLay0
import Derived.IntWalk
import Derived.Deep.RegionHeld3
set_option linter.unusedVariables false
set_option linter.unusedSimpArgs false
namespace Go.Proofs.Ytpahjllcomejbaa
open Go.RowKit Go.MapKept
open Go.Proofs.YtpahjllcomejbaaW.PrintWords Go.Proofs.YtpahjllcomejbaaW.PrintLast Go.Proofs.YtpahjllcomejbaaW.PrintMore

set_option maxRecDepth 100000 in
set_option maxHeartbeats 40000000 in
theorem rlay_12 (d s n i wd : Int) (w : World) (h1 : R4 d) (h2 : R4 s) : Calls Try.prog 20 #[.agg #[.int .i64 12, .int .i64 d, .int .i64 s, .int .i64 n, .int .i64 i, .int .u64 wd]] w
    (FromPost w (.string (strOfNums ([rexB true 0 d, 211] ++ [dirB 5 d])))) := by
  have hu3 := Try.underlying32
  have HX := hide (heap_alloc_new w (boxed 12 d s n i wd))
  obtain ⟨c0, c1, c2, c3, c4, c5⟩ := box_at HX.out
  have HF0 : Hid (Fr [] [] w (w.alloc (boxed 12 d s n i wd))) := hide ((Fr.refl [] w).alloc' _)
  have HK : Hid (∀ W', Fr [] [] (w.alloc (boxed 12 d s n i wd)) W' → BoxAt W' w.heap.size 12 d s n i wd) := hide fun W' h => box_at (h.keep HX.out (by simp))
  have HKA : Hid (∀ W', Fr [] [] (w.alloc (boxed 12 d s n i wd)) W' → ∀ o, BoxAt (W'.alloc o) w.heap.size 12 d s n i wd) := hide fun W' h o => HK.out _ (h.alloc' o)
  have fa := Fr.refl [] (w.alloc (boxed 12 d s n i wd))
  have FA := hide fa
  clear fa
  have hrr : 0 ≤ rexB true 0 d ∧ rexB true 0 d < 256 := by unfold rexB; simp; omega
  have HR := hide (from_rex (w.alloc (boxed 12 d s n i wd)) 72 0 d (rexB true 0 d) (by omega) (by unfold R4; omega) h1 rfl)
  have HRT : Hid (∀ (W : World), Calls Try.prog 40 #[.int .i64 72, .int .i64 0, .int .i64 d] W (TwoPost W (.int .i64 (rexB true 0 d)))) := hide fun (W : World) => rrex_calls 72 0 d W (by omega) (by unfold R4; omega) h1
  have HB := hide (from_bytes (w.alloc (boxed 12 d s n i wd)) [rexB true 0 d, 211] 2 (#[.int .i64 (rexB true 0 d), .int .i64 (211)]) (strOfNums [rexB true 0 d, 211]) rfl rfl (by simp) (by first | (congr 1; unfold m256; simp; omega) | (unfold m256; simp)))
  have HBD := hide (from_bytes_d (w.alloc (boxed 12 d s n i wd)) [rexB true 0 d, 211] 2 (#[.int .i64 (rexB true 0 d), .int .i64 (211)]) (strOfNums [rexB true 0 d, 211]) rfl rfl (by simp) (by first | (congr 1; unfold m256; simp; omega) | (unfold m256; simp)))
  have HBE := hide (from_bytes_e (w.alloc (boxed 12 d s n i wd)) [rexB true 0 d, 211] 2 (#[.int .i64 (rexB true 0 d), .int .i64 (211)]) (strOfNums [rexB true 0 d, 211]) rfl rfl (by simp) (by first | (congr 1; unfold m256; simp; omega) | (unfold m256; simp)))
  have z1 : (strOfNums [rexB true 0 d, 211]).size = 2 := by rw [strOfNums_size]; rfl
  have HBT : Hid (∀ (W : World) (B : Nat), W.heap.size = B → Calls Try.prog 38 #[.slice (some ⟨B, 0, none⟩) 2 2] (W.alloc (.cells #[.int .i64 (rexB true 0 d), .int .i64 211] 3)) (TwoPost (W.alloc (.cells #[.int .i64 (rexB true 0 d), .int .i64 211] 3)) (.string (strOfNums [rexB true 0 d, 211])))) := hide fun (W : World) (B : Nat) hB => bytes_two W [rexB true 0 d, 211] 2 B hB _ (strOfNums [rexB true 0 d, 211]) rfl rfl (by simp) (by first | (congr 1; unfold m256; simp; omega) | (unfold m256; simp))
  have HBTD : Hid (∀ (W : World) (B k : Nat), W.heap.size = B → Calls Try.prog 38 #[.slice (some ⟨B, 0, none⟩) 2 2] ((W.alloc (.cells #[.int .i64 (rexB true 0 d), .int .i64 211] 3)).drewN k) (TwoPost ((W.alloc (.cells #[.int .i64 (rexB true 0 d), .int .i64 211] 3)).drewN k) (.string (strOfNums [rexB true 0 d, 211])))) := hide fun (W : World) (B k : Nat) hB => HBT.out (W.drewN k) B hB
  have HBT2 : Hid (∀ (W : World) (B : Nat) (o : Obj), W.heap.size = B → Calls Try.prog 38 #[.slice (some ⟨B, 0, none⟩) 2 2] ((W.alloc (.cells #[.int .i64 (rexB true 0 d), .int .i64 211] 3)).alloc o) (TwoPost ((W.alloc (.cells #[.int .i64 (rexB true 0 d), .int .i64 211] 3)).alloc o) (.string (strOfNums [rexB true 0 d, 211])))) := hide fun (W : World) (B : Nat) o hB => bytes_at _ [rexB true 0 d, 211] 2 B _ (strOfNums [rexB true 0 d, 211]) rfl rfl (by simp) (by first | (congr 1; unfold m256; simp; omega) | (unfold m256; simp)) (by subst hB; exact heap_alloc_some (heap_alloc_new W _))
  have HP := hide (from_modes (w.alloc (boxed 12 d s n i wd)) 5 d (strOfNums [dirB 5 d]) (by unfold R4; omega) h1 rfl)
  have z3 : (strOfNums [dirB 5 d]).size ≤ 6 := by rw [strOfNums_size]; simp
  have HM : Hid (strOfNums [rexB true 0 d, 211] ++ strOfNums ([dirB 5 d]) = strOfNums ([rexB true 0 d, 211] ++ [dirB 5 d])) := hide (str_append _ _)
  clear hrr HR HB HBD HBE
  obtain ⟨g0, g1⟩ := h1
  obtain ⟨m0, m1⟩ := h2
  have td0 : decide (d < 0) = false := by simp; omega
  have td1 : decide (15 < d) = false := by simp; omega
  have ts0 : decide (s < 0) = false := by simp; omega
  have ts1 : decide (15 < s) = false := by simp; omega
  have HG := hide (And.intro (And.intro g0 g1) (And.intro m0 m1))
  clear g0 g1 m0 m1
  have lit0 : IntKind.i64.wrap 0 = 0 := by rw [IntWalk.i64_in _ (by omega)]
  have lit1 : IntKind.i64.wrap 1 = 1 := by rw [IntWalk.i64_in _ (by omega)]
  have lit2 : IntKind.i64.wrap 2 = 2 := by rw [IntWalk.i64_in _ (by omega)]
  have lit8 : IntKind.i64.wrap 8 = 8 := by rw [IntWalk.i64_in _ (by omega)]
  have lit80 : IntKind.i64.wrap 80 = 80 := by rw [IntWalk.i64_in _ (by omega)]
  have lit88 : IntKind.i64.wrap 88 = 88 := by rw [IntWalk.i64_in _ (by omega)]
  generalize rexB true 0 d = rb at *
  generalize strOfNums [rb, 211] = S1 at *
  generalize strOfNums ([dirB 5 d]) = S3 at *
  have q2 : S1.size + S3.size ≤ 9223372036854775807 := by omega
  have d2 : decide (S1.size + S3.size ≤ 9223372036854775807) = true := decide_eq_true q2
  clear z1 z3
  have HT : Hid (∀ W W', Fr [] [] (w.alloc (.cells #[.int .i64 12, .int .i64 d, .int .i64 s, .int .i64 n, .int .i64 i, .int .u64 wd] 32)) W → Fr [] [] W W' → Fr [] [] (w.alloc (.cells #[.int .i64 12, .int .i64 d, .int .i64 s, .int .i64 n, .int .i64 i, .int .u64 wd] 32)) W') := hide fun _ _ a b => a.trans b
  have HF : Hid (∀ (W : World) (b : Nat), W.heap[b]? = some (.cells #[.int .i64 4, .int .i64 5, .int .i64 7] 3) → W.cell? ⟨b, 1, none⟩ = some (.int .i64 5) ∧ ∀ o, (W.alloc o).cell? ⟨b, 1, none⟩ = some (.int .i64 5)) := hide fun W b h => ⟨(lit_facts h).1.2.1, fun o => ((lit_facts h).2 o).2.1⟩
  unfold boxed at *
  go_enter Try.func20, Try.ntmps20
  go_wp2_with fail
  go_quiet (fail)
  go_wp2_with fail
  clear c1 c2 c3 c4 c5
  refine wp_region_held_drew (S := (fun w' => w'.cell? ⟨w.heap.size, 0, none⟩ = some (.int .i64 12))) (by kernel_rfl) ?_ (fun hH => ?_)
  · (try dsimp only); go_keep
  refine wpAnyH_take (i := 0) (oi := ⟨_, _, _, _, _, _⟩) (v := ?_) rfl (by kernel_rfl) (by kernel_rfl) (by kernel_rfl) (fun _ _ _ h => h) (Or.inl ⟨by rfl, ?_⟩) (by assumption) ?_
  rotate_left
  · intro w hSw
    (try dsimp only at hSw)
    go_simp
    (try with_reducible rfl)
  (try simp only [Act.put, pA, pB, pC])
  refine wpAnyH_take (i := 5) (oi := ⟨_, _, _, _, _, _⟩) (v := ?_) rfl (by kernel_rfl) (by kernel_rfl) (by kernel_rfl) (fun _ _ _ h => h) (Or.inl ⟨by rfl, ?_⟩) (by assumption) ?_
  rotate_left
  · intro w hSw
    (try dsimp only at hSw)
    go_simp
    (try with_reducible rfl)
  (try simp only [Act.put, pA, pB, pC])
  refine wpAnyH_take (i := 6) (oi := ⟨_, _, _, _, _, _⟩) (v := ?_) rfl (by kernel_rfl) (by kernel_rfl) (by kernel_rfl) (fun _ _ _ h => h) (Or.inl ⟨by rfl, ?_⟩) (by assumption) ?_
  rotate_left
  · intro w hSw
    (try dsimp only at hSw)
    go_simp
    (try with_reducible rfl)
  (try simp only [Act.put, pA, pB, pC])
  refine wpAnyH_take (i := 7) (oi := ⟨_, _, _, _, _, _⟩) (v := ?_) rfl (by kernel_rfl) (by kernel_rfl) (by kernel_rfl) (fun _ _ _ h => h) (Or.inl ⟨by rfl, ?_⟩) (by assumption) ?_
  rotate_left
  · intro w hSw
    (try dsimp only at hSw)
    go_simp
    (try with_reducible rfl)
  (try simp only [Act.put, pA, pB, pC])
  refine wpAnyH_take (i := 10) (oi := ⟨_, _, _, _, _, _⟩) (v := ?_) rfl (by kernel_rfl) (by kernel_rfl) (by kernel_rfl) (fun _ _ _ h => h) (Or.inl ⟨by rfl, ?_⟩) (by assumption) ?_
  rotate_left
  · intro w hSw
    (try dsimp only at hSw)
    go_simp
    (try with_reducible rfl)
  (try simp only [Act.put, pA, pB, pC])
  refine wpAnyH_ready (rs := [1, 4]) (by kernel_rfl) (by simp) ?_
  refine AllReadyH.cons (o := ⟨_, _, _, _, _, _⟩) rfl (fun K hK => ?_) ?_
  ·
   go_simp
   (go_at_call 40; (with_reducible refine (HRT.out _).mono ?_); rintro e W1 ⟨rfl, f1⟩; have FR := hide (HT.out _ _ (by (repeat (first | (with_reducible exact FA.out) | (with_reducible apply Fr.alloc') | (with_reducible apply Fr.drewN')))) f1); have e10 := (HK.out W1 FR.out).1; (try (with_reducible have HL1 := hide (f1.keep (b := w.heap.size + 1) (o := (.cells #[.int .i64 4, .int .i64 5, .int .i64 7] 3)) (heap_alloc_at (by simp)) (by simp)); obtain ⟨la1, lb1⟩ := HF.out _ _ HL1.out)); clear f1)
   (try go_wp2_with fail)
   refine hK.out _ _ ?_ fun hN => ?_
   · go_keep
   clear hK K hH; have hH := hN; clear hN
   (try simp only [Act.put, pA, pB, pC])
   refine wpAnyH_ready (rs := [2, 4]) (by kernel_rfl) (by simp) ?_
   refine AllReadyH.cons (o := ⟨_, _, _, _, _, _⟩) rfl (fun K hK => ?_) ?_
   ·
    go_simp
    refine hK.out _ _ ?_ fun hN => ?_
    · go_keep
    clear hK K hH; have hH := hN; clear hN
    (try simp only [Act.put, pA, pB, pC])
    refine wpAnyH_ready (rs := [3, 4]) (by kernel_rfl) (by simp) ?_
    refine AllReadyH.cons (o := ⟨_, _, _, _, _, _⟩) rfl (fun K hK => ?_) ?_
    ·
     go_simp
     (go_at_call 38; (first | (with_reducible refine (HBT.out _ _ ?_).mono ?_) | (with_reducible refine (HBT2.out _ _ _ ?_).mono ?_)); (first | rfl | simp); rintro e W3 ⟨rfl, f3⟩; have FBB := hide (HT.out _ _ (by (repeat (first | (with_reducible exact FR.out) | (with_reducible exact FBB.out) | (with_reducible exact FA.out) | (with_reducible apply Fr.alloc') | (with_reducible apply Fr.drewN')))) f3); have e10 := (HK.out W3 FBB.out).1; (try (with_reducible have q3 := HF.out _ _ (f3.keep (b := w.heap.size + 1) (heap_alloc_some HL1.out) (by simp)); obtain ⟨la3, lb3⟩ := q3)); (try (with_reducible have q4 := HF.out _ _ (f3.keep (b := W1.heap.size) (heap_alloc_some (heap_alloc_at (by simp))) (by simp)); obtain ⟨la4, lb4⟩ := q4)); (try (with_reducible have q5 := HF.out _ _ (f3.keep (b := W1.heap.size + 1) (heap_alloc_at (by simp)) (by simp)); obtain ⟨la5, lb5⟩ := q5)); clear f3)
     (try go_wp2_with fail)
     refine hK.out _ _ ?_ fun hN => ?_
     · go_keep
     clear hK K hH; have hH := hN; clear hN
     (try simp only [Act.put, pA, pB, pC])
     refine wpAnyH_ready (rs := [4]) (by kernel_rfl) (by simp) ?_
     refine AllReadyH.cons (o := ⟨_, _, _, _, _, _⟩) rfl (fun K hK => ?_) ?_
     ·
      go_simp
      refine hK.out _ _ ?_ fun hN => ?_
      · go_keep
      clear hK K hH; have hH := hN; clear hN
      (try simp only [Act.put, pA, pB, pC])
      refine wpAnyH_take (i := 8) (oi := ⟨_, _, _, _, _, _⟩) (v := ?_) rfl (by kernel_rfl) (by kernel_rfl) (by kernel_rfl) (fun _ _ _ h => h) (Or.inl ⟨by rfl, ?_⟩) (by assumption) ?_
      rotate_left
      · intro w hSw
        (try dsimp only at hSw)
        go_simp
        (try with_reducible rfl)
      (try simp only [Act.put, pA, pB, pC])
      refine wpAnyH_ready (rs := [9]) (by kernel_rfl) (by simp) ?_
      refine AllReadyH.cons (o := ⟨_, _, _, _, _, _⟩) rfl (fun K hK => ?_) ?_
      ·
       go_simp
       refine hK.out _ _ ?_ fun hN => ?_
       · go_keep
       clear hK K hH; have hH := hN; clear hN
       (try simp only [Act.put, pA, pB, pC])
       refine wpAnyH_ready (rs := [11]) (by kernel_rfl) (by simp) ?_
       refine AllReadyH.cons (o := ⟨_, _, _, _, _, _⟩) rfl (fun K hK => ?_) ?_
       ·
        go_simp
        (go_at_call 41; (with_reducible refine (HP.out _ (by (repeat (first | (with_reducible exact FR.out) | (with_reducible exact FBB.out) | (with_reducible exact FA.out) | (with_reducible apply Fr.alloc') | (with_reducible apply Fr.drewN'))))).mono ?_); rintro e W2 ⟨rfl, f2⟩; have e20 := (HK.out W2 f2).1; have FP := hide f2; clear f2)
        (try go_wp2_with fail)
        refine hK.out _ _ ?_ fun hN => ?_
        · go_keep
        clear hK K hH; have hH := hN; clear hN
        (try simp only [Act.put, pA, pB, pC])
        refine wpAnyH_ready (rs := [12]) (by kernel_rfl) (by simp) ?_
        refine AllReadyH.cons (o := ⟨_, _, _, _, _, _⟩) rfl (fun K hK => ?_) ?_
        ·
         go_simp
         (try go_wp2_with fail)
         refine hK.out _ _ ?_ fun hN => ?_
         · go_keep
         clear hK K hH; have hH := hN; clear hN
         (try simp only [Act.put, pA, pB, pC])
         refine wpAnyH_take (i := 13) (oi := ⟨_, _, _, _, _, _⟩) (v := ?_) rfl (by kernel_rfl) (by kernel_rfl) (by kernel_rfl) (fun _ _ _ h => h) (Or.inl ⟨by rfl, ?_⟩) (by assumption) ?_
         rotate_left
         · intro w hSw
           (try dsimp only at hSw)
           go_simp
           (try with_reducible rfl)
         (try simp only [Act.put, pA, pB, pC])
         refine wpAnyH_done (by kernel_rfl) ?_ _
         go_wp2
         go_ret
         refine ⟨congrArg (fun z => Ending.returned (Value.string z)) HM.out, ?_⟩
         first
           | exact HF0.out.trans FP.out
           | exact HF0.out.trans (FP.out.drewN' _)
        exact AllReadyH.nil
       exact AllReadyH.nil
      exact AllReadyH.nil
     exact AllReadyH.nil
    refine AllReadyH.cons (o := ⟨_, _, _, _, _, _⟩) rfl (fun K hK => ?_) ?_
    ·
     go_simp
     refine hK.out _ _ ?_ fun hN => ?_
     · go_keep
     clear hK K hH; have hH := hN; clear hN
     (try simp only [Act.put, pA, pB, pC])
     refine wpAnyH_take (i := 8) (oi := ⟨_, _, _, _, _, _⟩) (v := ?_) rfl (by kernel_rfl) (by kernel_rfl) (by kernel_rfl) (fun _ _ _ h => h) (Or.inl ⟨by rfl, ?_⟩) (by assumption) ?_
     rotate_left
     · intro w hSw
       (try dsimp only at hSw)
       go_simp
       (try with_reducible rfl)
     (try simp only [Act.put, pA, pB, pC])
     refine wpAnyH_ready (rs := [3, 9]) (by kernel_rfl) (by simp) ?_
     refine AllReadyH.cons (o := ⟨_, _, _, _, _, _⟩) rfl (fun K hK => ?_) ?_
     ·
      go_simp
      (go_at_call 38; (first | (with_reducible refine (HBT.out _ _ ?_).mono ?_) | (with_reducible refine (HBT2.out _ _ _ ?_).mono ?_)); (first | rfl | simp); rintro e W3 ⟨rfl, f3⟩; have FBB := hide (HT.out _ _ (by (repeat (first | (with_reducible exact FR.out) | (with_reducible exact FBB.out) | (with_reducible exact FA.out) | (with_reducible apply Fr.alloc') | (with_reducible apply Fr.drewN')))) f3); have e10 := (HK.out W3 FBB.out).1; (try (with_reducible have q3 := HF.out _ _ (f3.keep (b := w.heap.size + 1) (heap_alloc_some HL1.out) (by simp)); obtain ⟨la3, lb3⟩ := q3)); (try (with_reducible have q4 := HF.out _ _ (f3.keep (b := W1.heap.size) (heap_alloc_some (heap_alloc_at (by simp))) (by simp)); obtain ⟨la4, lb4⟩ := q4)); (try (with_reducible have q5 := HF.out _ _ (f3.keep (b := W1.heap.size + 1) (heap_alloc_at (by simp)) (by simp)); obtain ⟨la5, lb5⟩ := q5)); clear f3)
      (try go_wp2_with fail)
      refine hK.out _ _ ?_ fun hN => ?_
      · go_keep
      clear hK K hH; have hH := hN; clear hN
      (try simp only [Act.put, pA, pB, pC])
      refine wpAnyH_ready (rs := [9]) (by kernel_rfl) (by simp) ?_
      refine AllReadyH.cons (o := ⟨_, _, _, _, _, _⟩) rfl (fun K hK => ?_) ?_
      ·
       go_simp
       refine hK.out _ _ ?_ fun hN => ?_
       · go_keep
       clear hK K hH; have hH := hN; clear hN
       (try simp only [Act.put, pA, pB, pC])
       refine wpAnyH_ready (rs := [11]) (by kernel_rfl) (by simp) ?_
       refine AllReadyH.cons (o := ⟨_, _, _, _, _, _⟩) rfl (fun K hK => ?_) ?_
       ·
        go_simp
        (go_at_call 41; (with_reducible refine (HP.out _ (by (repeat (first | (with_reducible exact FR.out) | (with_reducible exact FBB.out) | (with_reducible exact FA.out) | (with_reducible apply Fr.alloc') | (with_reducible apply Fr.drewN'))))).mono ?_); rintro e W2 ⟨rfl, f2⟩; have e20 := (HK.out W2 f2).1; have FP := hide f2; clear f2)
        (try go_wp2_with fail)
        refine hK.out _ _ ?_ fun hN => ?_
        · go_keep
        clear hK K hH; have hH := hN; clear hN
        (try simp only [Act.put, pA, pB, pC])
        refine wpAnyH_ready (rs := [12]) (by kernel_rfl) (by simp) ?_
        refine AllReadyH.cons (o := ⟨_, _, _, _, _, _⟩) rfl (fun K hK => ?_) ?_
        ·
         go_simp
         (try go_wp2_with fail)
         refine hK.out _ _ ?_ fun hN => ?_
         · go_keep
         clear hK K hH; have hH := hN; clear hN
         (try simp only [Act.put, pA, pB, pC])
         refine wpAnyH_take (i := 13) (oi := ⟨_, _, _, _, _, _⟩) (v := ?_) rfl (by kernel_rfl) (by kernel_rfl) (by kernel_rfl) (fun _ _ _ h => h) (Or.inl ⟨by rfl, ?_⟩) (by assumption) ?_
         rotate_left
         · intro w hSw
           (try dsimp only at hSw)
           go_simp
           (try with_reducible rfl)
         (try simp only [Act.put, pA, pB, pC])
         refine wpAnyH_done (by kernel_rfl) ?_ _
         go_wp2
         go_ret
         refine ⟨congrArg (fun z => Ending.returned (Value.string z)) HM.out, ?_⟩
         first
           | exact HF0.out.trans FP.out
           | exact HF0.out.trans (FP.out.drewN' _)
        exact AllReadyH.nil
       exact AllReadyH.nil
      exact AllReadyH.nil
     refine AllReadyH.cons (o := ⟨_, _, _, _, _, _⟩) rfl (fun K hK => ?_) ?_
     ·
      go_simp
      refine hK.out _ _ ?_ fun hN => ?_
      · go_keep
      clear hK K hH; have hH := hN; clear hN
      (try simp only [Act.put, pA, pB, pC])
      refine wpAnyH_ready (rs := [3]) (by kernel_rfl) (by simp) ?_
      refine AllReadyH.cons (o := ⟨_, _, _, _, _, _⟩) rfl (fun K hK => ?_) ?_
      ·
       go_simp
       (go_at_call 38; (first | (with_reducible refine (HBT.out _ _ ?_).mono ?_) | (with_reducible refine (HBT2.out _ _ _ ?_).mono ?_)); (first | rfl | simp); rintro e W3 ⟨rfl, f3⟩; have FBB := hide (HT.out _ _ (by (repeat (first | (with_reducible exact FR.out) | (with_reducible exact FBB.out) | (with_reducible exact FA.out) | (with_reducible apply Fr.alloc') | (with_reducible apply Fr.drewN')))) f3); have e10 := (HK.out W3 FBB.out).1; (try (with_reducible have q3 := HF.out _ _ (f3.keep (b := w.heap.size + 1) (heap_alloc_some HL1.out) (by simp)); obtain ⟨la3, lb3⟩ := q3)); (try (with_reducible have q4 := HF.out _ _ (f3.keep (b := W1.heap.size) (heap_alloc_some (heap_alloc_at (by simp))) (by simp)); obtain ⟨la4, lb4⟩ := q4)); (try (with_reducible have q5 := HF.out _ _ (f3.keep (b := W1.heap.size + 1) (heap_alloc_at (by simp)) (by simp)); obtain ⟨la5, lb5⟩ := q5)); clear f3)
       (try go_wp2_with fail)
       refine hK.out _ _ ?_ fun hN => ?_
       · go_keep
       clear hK K hH; have hH := hN; clear hN
       (try simp only [Act.put, pA, pB, pC])
       refine wpAnyH_ready (rs := [11]) (by kernel_rfl) (by simp) ?_
       refine AllReadyH.cons (o := ⟨_, _, _, _, _, _⟩) rfl (fun K hK => ?_) ?_
       ·
        go_simp
        (go_at_call 41; (with_reducible refine (HP.out _ (by (repeat (first | (with_reducible exact FR.out) | (with_reducible exact FBB.out) | (with_reducible exact FA.out) | (with_reducible apply Fr.alloc') | (with_reducible apply Fr.drewN'))))).mono ?_); rintro e W2 ⟨rfl, f2⟩; have e20 := (HK.out W2 f2).1; have FP := hide f2; clear f2)
        (try go_wp2_with fail)
        refine hK.out _ _ ?_ fun hN => ?_
        · go_keep
        clear hK K hH; have hH := hN; clear hN
        (try simp only [Act.put, pA, pB, pC])
        refine wpAnyH_ready (rs := [12]) (by kernel_rfl) (by simp) ?_
        refine AllReadyH.cons (o := ⟨_, _, _, _, _, _⟩) rfl (fun K hK => ?_) ?_
        ·
         go_simp
         (try go_wp2_with fail)
         refine hK.out _ _ ?_ fun hN => ?_
         · go_keep
         clear hK K hH; have hH := hN; clear hN
         (try simp only [Act.put, pA, pB, pC])
         refine wpAnyH_take (i := 13) (oi := ⟨_, _, _, _, _, _⟩) (v := ?_) rfl (by kernel_rfl) (by kernel_rfl) (by kernel_rfl) (fun _ _ _ h => h) (Or.inl ⟨by rfl, ?_⟩) (by assumption) ?_
         rotate_left
         · intro w hSw
           (try dsimp only at hSw)
           go_simp
           (try with_reducible rfl)
         (try simp only [Act.put, pA, pB, pC])
         refine wpAnyH_done (by kernel_rfl) ?_ _
         go_wp2
         go_ret
         refine ⟨congrArg (fun z => Ending.returned (Value.string z)) HM.out, ?_⟩
         first
           | exact HF0.out.trans FP.out
           | exact HF0.out.trans (FP.out.drewN' _)
        exact AllReadyH.nil
       exact AllReadyH.nil
      exact AllReadyH.nil
     exact AllReadyH.nil
    exact AllReadyH.nil
   refine AllReadyH.cons (o := ⟨_, _, _, _, _, _⟩) rfl (fun K hK => ?_) ?_
   ·
    go_simp
    refine hK.out _ _ ?_ fun hN => ?_
    · go_keep
    clear hK K hH; have hH := hN; clear hN
    (try simp only [Act.put, pA, pB, pC])
    refine wpAnyH_take (i := 8) (oi := ⟨_, _, _, _, _, _⟩) (v := ?_) rfl (by kernel_rfl) (by kernel_rfl) (by kernel_rfl) (fun _ _ _ h => h) (Or.inl ⟨by rfl, ?_⟩) (by assumption) ?_
    rotate_left
    · intro w hSw
      (try dsimp only at hSw)
      go_simp
      (try with_reducible rfl)
    (try simp only [Act.put, pA, pB, pC])
    refine wpAnyH_ready (rs := [2, 9]) (by kernel_rfl) (by simp) ?_
    refine AllReadyH.cons (o := ⟨_, _, _, _, _, _⟩) rfl (fun K hK => ?_) ?_
    ·
     go_simp
     refine hK.out _ _ ?_ fun hN => ?_
     · go_keep
     clear hK K hH; have hH := hN; clear hN
     (try simp only [Act.put, pA, pB, pC])
     refine wpAnyH_ready (rs := [3, 9]) (by kernel_rfl) (by simp) ?_
     refine AllReadyH.cons (o := ⟨_, _, _, _, _, _⟩) rfl (fun K hK => ?_) ?_
     ·
      go_simp
      (go_at_call 38; (first | (with_reducible refine (HBT.out _ _ ?_).mono ?_) | (with_reducible refine (HBT2.out _ _ _ ?_).mono ?_)); (first | rfl | simp); rintro e W3 ⟨rfl, f3⟩; have FBB := hide (HT.out _ _ (by (repeat (first | (with_reducible exact FR.out) | (with_reducible exact FBB.out) | (with_reducible exact FA.out) | (with_reducible apply Fr.alloc') | (with_reducible apply Fr.drewN')))) f3); have e10 := (HK.out W3 FBB.out).1; (try (with_reducible have q3 := HF.out _ _ (f3.keep (b := w.heap.size + 1) (heap_alloc_some HL1.out) (by simp)); obtain ⟨la3, lb3⟩ := q3)); (try (with_reducible have q4 := HF.out _ _ (f3.keep (b := W1.heap.size) (heap_alloc_some (heap_alloc_at (by simp))) (by simp)); obtain ⟨la4, lb4⟩ := q4)); (try (with_reducible have q5 := HF.out _ _ (f3.keep (b := W1.heap.size + 1) (heap_alloc_at (by simp)) (by simp)); obtain ⟨la5, lb5⟩ := q5)); clear f3)
      (try go_wp2_with fail)
      refine hK.out _ _ ?_ fun hN => ?_
      · go_keep
      clear hK K hH; have hH := hN; clear hN
      (try simp only [Act.put, pA, pB, pC])
      refine wpAnyH_ready (rs := [9]) (by kernel_rfl) (by simp) ?_
      refine AllReadyH.cons (o := ⟨_, _, _, _, _, _⟩) rfl (fun K hK => ?_) ?_
      ·
       go_simp
       refine hK.out _ _ ?_ fun hN => ?_
       · go_keep
       clear hK K hH; have hH := hN; clear hN
       (try simp only [Act.put, pA, pB, pC])
       refine wpAnyH_ready (rs := [11]) (by kernel_rfl) (by simp) ?_
       refine AllReadyH.cons (o := ⟨_, _, _, _, _, _⟩) rfl (fun K hK => ?_) ?_
       ·
        go_simp
        (go_at_call 41; (with_reducible refine (HP.out _ (by (repeat (first | (with_reducible exact FR.out) | (with_reducible exact FBB.out) | (with_reducible exact FA.out) | (with_reducible apply Fr.alloc') | (with_reducible apply Fr.drewN'))))).mono ?_); rintro e W2 ⟨rfl, f2⟩; have e20 := (HK.out W2 f2).1; have FP := hide f2; clear f2)
        (try go_wp2_with fail)
        refine hK.out _ _ ?_ fun hN => ?_
        · go_keep
        clear hK K hH; have hH := hN; clear hN
        (try simp only [Act.put, pA, pB, pC])
        refine wpAnyH_ready (rs := [12]) (by kernel_rfl) (by simp) ?_
        refine AllReadyH.cons (o := ⟨_, _, _, _, _, _⟩) rfl (fun K hK => ?_) ?_
        ·
         go_simp
         (try go_wp2_with fail)
         refine hK.out _ _ ?_ fun hN => ?_
         · go_keep
         clear hK K hH; have hH := hN; clear hN
         (try simp only [Act.put, pA, pB, pC])
         refine wpAnyH_take (i := 13) (oi := ⟨_, _, _, _, _, _⟩) (v := ?_) rfl (by kernel_rfl) (by kernel_rfl) (by kernel_rfl) (fun _ _ _ h => h) (Or.inl ⟨by rfl, ?_⟩) (by assumption) ?_
         rotate_left
         · intro w hSw
           (try dsimp only at hSw)
           go_simp
           (try with_reducible rfl)
         (try simp only [Act.put, pA, pB, pC])
         refine wpAnyH_done (by kernel_rfl) ?_ _
         go_wp2
         go_ret
         refine ⟨congrArg (fun z => Ending.returned (Value.string z)) HM.out, ?_⟩
         first
           | exact HF0.out.trans FP.out
           | exact HF0.out.trans (FP.out.drewN' _)
        exact AllReadyH.nil
       exact AllReadyH.nil
      exact AllReadyH.nil
     refine AllReadyH.cons (o := ⟨_, _, _, _, _, _⟩) rfl (fun K hK => ?_) ?_
     ·
      go_simp
      refine hK.out _ _ ?_ fun hN => ?_
      · go_keep
      clear hK K hH; have hH := hN; clear hN
      (try simp only [Act.put, pA, pB, pC])
      refine wpAnyH_ready (rs := [3]) (by kernel_rfl) (by simp) ?_
      refine AllReadyH.cons (o := ⟨_, _, _, _, _, _⟩) rfl (fun K hK => ?_) ?_
      ·
       go_simp
       (go_at_call 38; (first | (with_reducible refine (HBT.out _ _ ?_).mono ?_) | (with_reducible refine (HBT2.out _ _ _ ?_).mono ?_)); (first | rfl | simp); rintro e W3 ⟨rfl, f3⟩; have FBB := hide (HT.out _ _ (by (repeat (first | (with_reducible exact FR.out) | (with_reducible exact FBB.out) | (with_reducible exact FA.out) | (with_reducible apply Fr.alloc') | (with_reducible apply Fr.drewN')))) f3); have e10 := (HK.out W3 FBB.out).1; (try (with_reducible have q3 := HF.out _ _ (f3.keep (b := w.heap.size + 1) (heap_alloc_some HL1.out) (by simp)); obtain ⟨la3, lb3⟩ := q3)); (try (with_reducible have q4 := HF.out _ _ (f3.keep (b := W1.heap.size) (heap_alloc_some (heap_alloc_at (by simp))) (by simp)); obtain ⟨la4, lb4⟩ := q4)); (try (with_reducible have q5 := HF.out _ _ (f3.keep (b := W1.heap.size + 1) (heap_alloc_at (by simp)) (by simp)); obtain ⟨la5, lb5⟩ := q5)); clear f3)
       (try go_wp2_with fail)
       refine hK.out _ _ ?_ fun hN => ?_
       · go_keep
       clear hK K hH; have hH := hN; clear hN
       (try simp only [Act.put, pA, pB, pC])
       refine wpAnyH_ready (rs := [11]) (by kernel_rfl) (by simp) ?_
       refine AllReadyH.cons (o := ⟨_, _, _, _, _, _⟩) rfl (fun K hK => ?_) ?_
       ·
        go_simp
        (go_at_call 41; (with_reducible refine (HP.out _ (by (repeat (first | (with_reducible exact FR.out) | (with_reducible exact FBB.out) | (with_reducible exact FA.out) | (with_reducible apply Fr.alloc') | (with_reducible apply Fr.drewN'))))).mono ?_); rintro e W2 ⟨rfl, f2⟩; have e20 := (HK.out W2 f2).1; have FP := hide f2; clear f2)
        (try go_wp2_with fail)
        refine hK.out _ _ ?_ fun hN => ?_
        · go_keep
        clear hK K hH; have hH := hN; clear hN
        (try simp only [Act.put, pA, pB, pC])
        refine wpAnyH_ready (rs := [12]) (by kernel_rfl) (by simp) ?_
        refine AllReadyH.cons (o := ⟨_, _, _, _, _, _⟩) rfl (fun K hK => ?_) ?_
        ·
         go_simp
         (try go_wp2_with fail)
         refine hK.out _ _ ?_ fun hN => ?_
         · go_keep
         clear hK K hH; have hH := hN; clear hN
         (try simp only [Act.put, pA, pB, pC])
         refine wpAnyH_take (i := 13) (oi := ⟨_, _, _, _, _, _⟩) (v := ?_) rfl (by kernel_rfl) (by kernel_rfl) (by kernel_rfl) (fun _ _ _ h => h) (Or.inl ⟨by rfl, ?_⟩) (by assumption) ?_
         rotate_left
         · intro w hSw
           (try dsimp only at hSw)
           go_simp
           (try with_reducible rfl)
         (try simp only [Act.put, pA, pB, pC])
         refine wpAnyH_done (by kernel_rfl) ?_ _
         go_wp2
         go_ret
         refine ⟨congrArg (fun z => Ending.returned (Value.string z)) HM.out, ?_⟩
         first
           | exact HF0.out.trans FP.out
           | exact HF0.out.trans (FP.out.drewN' _)
        exact AllReadyH.nil
       exact AllReadyH.nil
      exact AllReadyH.nil
     exact AllReadyH.nil
    refine AllReadyH.cons (o := ⟨_, _, _, _, _, _⟩) rfl (fun K hK => ?_) ?_
    ·
     go_simp
     refine hK.out _ _ ?_ fun hN => ?_
     · go_keep
     clear hK K hH; have hH := hN; clear hN
     (try simp only [Act.put, pA, pB, pC])
     refine wpAnyH_ready (rs := [2]) (by kernel_rfl) (by simp) ?_
     refine AllReadyH.cons (o := ⟨_, _, _, _, _, _⟩) rfl (fun K hK => ?_) ?_
     ·
      go_simp
      refine hK.out _ _ ?_ fun hN => ?_
      · go_keep
      clear hK K hH; have hH := hN; clear hN
      (try simp only [Act.put, pA, pB, pC])
      refine wpAnyH_ready (rs := [3]) (by kernel_rfl) (by simp) ?_
      refine AllReadyH.cons (o := ⟨_, _, _, _, _, _⟩) rfl (fun K hK => ?_) ?_
      ·
       go_simp
       (go_at_call 38; (first | (with_reducible refine (HBT.out _ _ ?_).mono ?_) | (with_reducible refine (HBT2.out _ _ _ ?_).mono ?_)); (first | rfl | simp); rintro e W3 ⟨rfl, f3⟩; have FBB := hide (HT.out _ _ (by (repeat (first | (with_reducible exact FR.out) | (with_reducible exact FBB.out) | (with_reducible exact FA.out) | (with_reducible apply Fr.alloc') | (with_reducible apply Fr.drewN')))) f3); have e10 := (HK.out W3 FBB.out).1; (try (with_reducible have q3 := HF.out _ _ (f3.keep (b := w.heap.size + 1) (heap_alloc_some HL1.out) (by simp)); obtain ⟨la3, lb3⟩ := q3)); (try (with_reducible have q4 := HF.out _ _ (f3.keep (b := W1.heap.size) (heap_alloc_some (heap_alloc_at (by simp))) (by simp)); obtain ⟨la4, lb4⟩ := q4)); (try (with_reducible have q5 := HF.out _ _ (f3.keep (b := W1.heap.size + 1) (heap_alloc_at (by simp)) (by simp)); obtain ⟨la5, lb5⟩ := q5)); clear f3)
       (try go_wp2_with fail)
       refine hK.out _ _ ?_ fun hN => ?_
       · go_keep
       clear hK K hH; have hH := hN; clear hN
       (try simp only [Act.put, pA, pB, pC])
       refine wpAnyH_ready (rs := [11]) (by kernel_rfl) (by simp) ?_
       refine AllReadyH.cons (o := ⟨_, _, _, _, _, _⟩) rfl (fun K hK => ?_) ?_
       ·
        go_simp
        (go_at_call 41; (with_reducible refine (HP.out _ (by (repeat (first | (with_reducible exact FR.out) | (with_reducible exact FBB.out) | (with_reducible exact FA.out) | (with_reducible apply Fr.alloc') | (with_reducible apply Fr.drewN'))))).mono ?_); rintro e W2 ⟨rfl, f2⟩; have e20 := (HK.out W2 f2).1; have FP := hide f2; clear f2)
        (try go_wp2_with fail)
        refine hK.out _ _ ?_ fun hN => ?_
        · go_keep
        clear hK K hH; have hH := hN; clear hN
        (try simp only [Act.put, pA, pB, pC])
        refine wpAnyH_ready (rs := [12]) (by kernel_rfl) (by simp) ?_
        refine AllReadyH.cons (o := ⟨_, _, _, _, _, _⟩) rfl (fun K hK => ?_) ?_
        ·
         go_simp
         (try go_wp2_with fail)
         refine hK.out _ _ ?_ fun hN => ?_
         · go_keep
         clear hK K hH; have hH := hN; clear hN
         (try simp only [Act.put, pA, pB, pC])
         refine wpAnyH_take (i := 13) (oi := ⟨_, _, _, _, _, _⟩) (v := ?_) rfl (by kernel_rfl) (by kernel_rfl) (by kernel_rfl) (fun _ _ _ h => h) (Or.inl ⟨by rfl, ?_⟩) (by assumption) ?_
         rotate_left
         · intro w hSw
           (try dsimp only at hSw)
           go_simp
           (try with_reducible rfl)
         (try simp only [Act.put, pA, pB, pC])
         refine wpAnyH_done (by kernel_rfl) ?_ _
         go_wp2
         go_ret
         refine ⟨congrArg (fun z => Ending.returned (Value.string z)) HM.out, ?_⟩
         first
           | exact HF0.out.trans FP.out
           | exact HF0.out.trans (FP.out.drewN' _)
        exact AllReadyH.nil
       exact AllReadyH.nil
      exact AllReadyH.nil
     exact AllReadyH.nil
    exact AllReadyH.nil
   exact AllReadyH.nil
  refine AllReadyH.cons (o := ⟨_, _, _, _, _, _⟩) rfl (fun K hK => ?_) ?_
  ·
   go_simp
   refine hK.out _ _ ?_ fun hN => ?_
   · go_keep
   clear hK K hH; have hH := hN; clear hN
   (try simp only [Act.put, pA, pB, pC])
   refine wpAnyH_take (i := 8) (oi := ⟨_, _, _, _, _, _⟩) (v := ?_) rfl (by kernel_rfl) (by kernel_rfl) (by kernel_rfl) (fun _ _ _ h => h) (Or.inl ⟨by rfl, ?_⟩) (by assumption) ?_
   rotate_left
   · intro w hSw
     (try dsimp only at hSw)
     go_simp
     (try with_reducible rfl)
   (try simp only [Act.put, pA, pB, pC])
   refine wpAnyH_ready (rs := [1, 9]) (by kernel_rfl) (by simp) ?_
   refine AllReadyH.cons (o := ⟨_, _, _, _, _, _⟩) rfl (fun K hK => ?_) ?_
   ·
    go_simp
    (go_at_call 40; (with_reducible refine (HRT.out _).mono ?_); rintro e W1 ⟨rfl, f1⟩; have FR := hide (HT.out _ _ (by (repeat (first | (with_reducible exact FA.out) | (with_reducible apply Fr.alloc') | (with_reducible apply Fr.drewN')))) f1); have e10 := (HK.out W1 FR.out).1; (try (with_reducible have HL1 := hide (f1.keep (b := w.heap.size + 1) (o := (.cells #[.int .i64 4, .int .i64 5, .int .i64 7] 3)) (heap_alloc_at (by simp)) (by simp)); obtain ⟨la1, lb1⟩ := HF.out _ _ HL1.out)); clear f1)
    (try go_wp2_with fail)
    refine hK.out _ _ ?_ fun hN => ?_
    · go_keep
    clear hK K hH; have hH := hN; clear hN
    (try simp only [Act.put, pA, pB, pC])
    refine wpAnyH_ready (rs := [2, 9]) (by kernel_rfl) (by simp) ?_
    refine AllReadyH.cons (o := ⟨_, _, _, _, _, _⟩) rfl (fun K hK => ?_) ?_
    ·
     go_simp
     refine hK.out _ _ ?_ fun hN => ?_
     · go_keep
     clear hK K hH; have hH := hN; clear hN
     (try simp only [Act.put, pA, pB, pC])
     refine wpAnyH_ready (rs := [3, 9]) (by kernel_rfl) (by simp) ?_
     refine AllReadyH.cons (o := ⟨_, _, _, _, _, _⟩) rfl (fun K hK => ?_) ?_
     ·
      go_simp
      (go_at_call 38; (first | (with_reducible refine (HBT.out _ _ ?_).mono ?_) | (with_reducible refine (HBT2.out _ _ _ ?_).mono ?_)); (first | rfl | simp); rintro e W3 ⟨rfl, f3⟩; have FBB := hide (HT.out _ _ (by (repeat (first | (with_reducible exact FR.out) | (with_reducible exact FBB.out) | (with_reducible exact FA.out) | (with_reducible apply Fr.alloc') | (with_reducible apply Fr.drewN')))) f3); have e10 := (HK.out W3 FBB.out).1; (try (with_reducible have q3 := HF.out _ _ (f3.keep (b := w.heap.size + 1) (heap_alloc_some HL1.out) (by simp)); obtain ⟨la3, lb3⟩ := q3)); (try (with_reducible have q4 := HF.out _ _ (f3.keep (b := W1.heap.size) (heap_alloc_some (heap_alloc_at (by simp))) (by simp)); obtain ⟨la4, lb4⟩ := q4)); (try (with_reducible have q5 := HF.out _ _ (f3.keep (b := W1.heap.size + 1) (heap_alloc_at (by simp)) (by simp)); obtain ⟨la5, lb5⟩ := q5)); clear f3)
      (try go_wp2_with fail)
      refine hK.out _ _ ?_ fun hN => ?_
      · go_keep
      clear hK K hH; have hH := hN; clear hN
      (try simp only [Act.put, pA, pB, pC])
      refine wpAnyH_ready (rs := [9]) (by kernel_rfl) (by simp) ?_
      refine AllReadyH.cons (o := ⟨_, _, _, _, _, _⟩) rfl (fun K hK => ?_) ?_
      ·
       go_simp
       refine hK.out _ _ ?_ fun hN => ?_
       · go_keep
       clear hK K hH; have hH := hN; clear hN
       (try simp only [Act.put, pA, pB, pC])
       refine wpAnyH_ready (rs := [11]) (by kernel_rfl) (by simp) ?_
       refine AllReadyH.cons (o := ⟨_, _, _, _, _, _⟩) rfl (fun K hK => ?_) ?_
       ·
        go_simp
        (go_at_call 41; (with_reducible refine (HP.out _ (by (repeat (first | (with_reducible exact FR.out) | (with_reducible exact FBB.out) | (with_reducible exact FA.out) | (with_reducible apply Fr.alloc') | (with_reducible apply Fr.drewN'))))).mono ?_); rintro e W2 ⟨rfl, f2⟩; have e20 := (HK.out W2 f2).1; have FP := hide f2; clear f2)
        (try go_wp2_with fail)
        refine hK.out _ _ ?_ fun hN => ?_
        · go_keep
        clear hK K hH; have hH := hN; clear hN
        (try simp only [Act.put, pA, pB, pC])
        refine wpAnyH_ready (rs := [12]) (by kernel_rfl) (by simp) ?_
        refine AllReadyH.cons (o := ⟨_, _, _, _, _, _⟩) rfl (fun K hK => ?_) ?_
        ·
         go_simp
         (try go_wp2_with fail)
         refine hK.out _ _ ?_ fun hN => ?_
         · go_keep
         clear hK K hH; have hH := hN; clear hN
         (try simp only [Act.put, pA, pB, pC])
         refine wpAnyH_take (i := 13) (oi := ⟨_, _, _, _, _, _⟩) (v := ?_) rfl (by kernel_rfl) (by kernel_rfl) (by kernel_rfl) (fun _ _ _ h => h) (Or.inl ⟨by rfl, ?_⟩) (by assumption) ?_
         rotate_left
         · intro w hSw
           (try dsimp only at hSw)
           go_simp
           (try with_reducible rfl)
         (try simp only [Act.put, pA, pB, pC])
         refine wpAnyH_done (by kernel_rfl) ?_ _
         go_wp2
         go_ret
         refine ⟨congrArg (fun z => Ending.returned (Value.string z)) HM.out, ?_⟩
         first
           | exact HF0.out.trans FP.out
           | exact HF0.out.trans (FP.out.drewN' _)
        exact AllReadyH.nil
       exact AllReadyH.nil
      exact AllReadyH.nil
     refine AllReadyH.cons (o := ⟨_, _, _, _, _, _⟩) rfl (fun K hK => ?_) ?_
     ·
      go_simp
      refine hK.out _ _ ?_ fun hN => ?_
      · go_keep
      clear hK K hH; have hH := hN; clear hN
      (try simp only [Act.put, pA, pB, pC])
      refine wpAnyH_ready (rs := [3]) (by kernel_rfl) (by simp) ?_
      refine AllReadyH.cons (o := ⟨_, _, _, _, _, _⟩) rfl (fun K hK => ?_) ?_
      ·
       go_simp
       (go_at_call 38; (first | (with_reducible refine (HBT.out _ _ ?_).mono ?_) | (with_reducible refine (HBT2.out _ _ _ ?_).mono ?_)); (first | rfl | simp); rintro e W3 ⟨rfl, f3⟩; have FBB := hide (HT.out _ _ (by (repeat (first | (with_reducible exact FR.out) | (with_reducible exact FBB.out) | (with_reducible exact FA.out) | (with_reducible apply Fr.alloc') | (with_reducible apply Fr.drewN')))) f3); have e10 := (HK.out W3 FBB.out).1; (try (with_reducible have q3 := HF.out _ _ (f3.keep (b := w.heap.size + 1) (heap_alloc_some HL1.out) (by simp)); obtain ⟨la3, lb3⟩ := q3)); (try (with_reducible have q4 := HF.out _ _ (f3.keep (b := W1.heap.size) (heap_alloc_some (heap_alloc_at (by simp))) (by simp)); obtain ⟨la4, lb4⟩ := q4)); (try (with_reducible have q5 := HF.out _ _ (f3.keep (b := W1.heap.size + 1) (heap_alloc_at (by simp)) (by simp)); obtain ⟨la5, lb5⟩ := q5)); clear f3)
       (try go_wp2_with fail)
       refine hK.out _ _ ?_ fun hN => ?_
       · go_keep
       clear hK K hH; have hH := hN; clear hN
       (try simp only [Act.put, pA, pB, pC])
       refine wpAnyH_ready (rs := [11]) (by kernel_rfl) (by simp) ?_
       refine AllReadyH.cons (o := ⟨_, _, _, _, _, _⟩) rfl (fun K hK => ?_) ?_
       ·
        go_simp
        (go_at_call 41; (with_reducible refine (HP.out _ (by (repeat (first | (with_reducible exact FR.out) | (with_reducible exact FBB.out) | (with_reducible exact FA.out) | (with_reducible apply Fr.alloc') | (with_reducible apply Fr.drewN'))))).mono ?_); rintro e W2 ⟨rfl, f2⟩; have e20 := (HK.out W2 f2).1; have FP := hide f2; clear f2)
        (try go_wp2_with fail)
        refine hK.out _ _ ?_ fun hN => ?_
        · go_keep
        clear hK K hH; have hH := hN; clear hN
        (try simp only [Act.put, pA, pB, pC])
        refine wpAnyH_ready (rs := [12]) (by kernel_rfl) (by simp) ?_
        refine AllReadyH.cons (o := ⟨_, _, _, _, _, _⟩) rfl (fun K hK => ?_) ?_
        ·
         go_simp
         (try go_wp2_with fail)
         refine hK.out _ _ ?_ fun hN => ?_
         · go_keep
         clear hK K hH; have hH := hN; clear hN
         (try simp only [Act.put, pA, pB, pC])
         refine wpAnyH_take (i := 13) (oi := ⟨_, _, _, _, _, _⟩) (v := ?_) rfl (by kernel_rfl) (by kernel_rfl) (by kernel_rfl) (fun _ _ _ h => h) (Or.inl ⟨by rfl, ?_⟩) (by assumption) ?_
         rotate_left
         · intro w hSw
           (try dsimp only at hSw)
           go_simp
           (try with_reducible rfl)
         (try simp only [Act.put, pA, pB, pC])
         refine wpAnyH_done (by kernel_rfl) ?_ _
         go_wp2
         go_ret
         refine ⟨congrArg (fun z => Ending.returned (Value.string z)) HM.out, ?_⟩
         first
           | exact HF0.out.trans FP.out
           | exact HF0.out.trans (FP.out.drewN' _)
        exact AllReadyH.nil
       exact AllReadyH.nil
      exact AllReadyH.nil
     exact AllReadyH.nil
    refine AllReadyH.cons (o := ⟨_, _, _, _, _, _⟩) rfl (fun K hK => ?_) ?_
    ·
     go_simp
     refine hK.out _ _ ?_ fun hN => ?_
     · go_keep
     clear hK K hH; have hH := hN; clear hN
     (try simp only [Act.put, pA, pB, pC])
     refine wpAnyH_ready (rs := [2]) (by kernel_rfl) (by simp) ?_
     refine AllReadyH.cons (o := ⟨_, _, _, _, _, _⟩) rfl (fun K hK => ?_) ?_
     ·
      go_simp
      refine hK.out _ _ ?_ fun hN => ?_
      · go_keep
      clear hK K hH; have hH := hN; clear hN
      (try simp only [Act.put, pA, pB, pC])
      refine wpAnyH_ready (rs := [3]) (by kernel_rfl) (by simp) ?_
      refine AllReadyH.cons (o := ⟨_, _, _, _, _, _⟩) rfl (fun K hK => ?_) ?_
      ·
       go_simp
       (go_at_call 38; (first | (with_reducible refine (HBT.out _ _ ?_).mono ?_) | (with_reducible refine (HBT2.out _ _ _ ?_).mono ?_)); (first | rfl | simp); rintro e W3 ⟨rfl, f3⟩; have FBB := hide (HT.out _ _ (by (repeat (first | (with_reducible exact FR.out) | (with_reducible exact FBB.out) | (with_reducible exact FA.out) | (with_reducible apply Fr.alloc') | (with_reducible apply Fr.drewN')))) f3); have e10 := (HK.out W3 FBB.out).1; (try (with_reducible have q3 := HF.out _ _ (f3.keep (b := w.heap.size + 1) (heap_alloc_some HL1.out) (by simp)); obtain ⟨la3, lb3⟩ := q3)); (try (with_reducible have q4 := HF.out _ _ (f3.keep (b := W1.heap.size) (heap_alloc_some (heap_alloc_at (by simp))) (by simp)); obtain ⟨la4, lb4⟩ := q4)); (try (with_reducible have q5 := HF.out _ _ (f3.keep (b := W1.heap.size + 1) (heap_alloc_at (by simp)) (by simp)); obtain ⟨la5, lb5⟩ := q5)); clear f3)
       (try go_wp2_with fail)
       refine hK.out _ _ ?_ fun hN => ?_
       · go_keep
       clear hK K hH; have hH := hN; clear hN
       (try simp only [Act.put, pA, pB, pC])
       refine wpAnyH_ready (rs := [11]) (by kernel_rfl) (by simp) ?_
       refine AllReadyH.cons (o := ⟨_, _, _, _, _, _⟩) rfl (fun K hK => ?_) ?_
       ·
        go_simp
        (go_at_call 41; (with_reducible refine (HP.out _ (by (repeat (first | (with_reducible exact FR.out) | (with_reducible exact FBB.out) | (with_reducible exact FA.out) | (with_reducible apply Fr.alloc') | (with_reducible apply Fr.drewN'))))).mono ?_); rintro e W2 ⟨rfl, f2⟩; have e20 := (HK.out W2 f2).1; have FP := hide f2; clear f2)
        (try go_wp2_with fail)
        refine hK.out _ _ ?_ fun hN => ?_
        · go_keep
        clear hK K hH; have hH := hN; clear hN
        (try simp only [Act.put, pA, pB, pC])
        refine wpAnyH_ready (rs := [12]) (by kernel_rfl) (by simp) ?_
        refine AllReadyH.cons (o := ⟨_, _, _, _, _, _⟩) rfl (fun K hK => ?_) ?_
        ·
         go_simp
         (try go_wp2_with fail)
         refine hK.out _ _ ?_ fun hN => ?_
         · go_keep
         clear hK K hH; have hH := hN; clear hN
         (try simp only [Act.put, pA, pB, pC])
         refine wpAnyH_take (i := 13) (oi := ⟨_, _, _, _, _, _⟩) (v := ?_) rfl (by kernel_rfl) (by kernel_rfl) (by kernel_rfl) (fun _ _ _ h => h) (Or.inl ⟨by rfl, ?_⟩) (by assumption) ?_
         rotate_left
         · intro w hSw
           (try dsimp only at hSw)
           go_simp
           (try with_reducible rfl)
         (try simp only [Act.put, pA, pB, pC])
         refine wpAnyH_done (by kernel_rfl) ?_ _
         go_wp2
         go_ret
         refine ⟨congrArg (fun z => Ending.returned (Value.string z)) HM.out, ?_⟩
         first
           | exact HF0.out.trans FP.out
           | exact HF0.out.trans (FP.out.drewN' _)
        exact AllReadyH.nil
       exact AllReadyH.nil
      exact AllReadyH.nil
     exact AllReadyH.nil
    exact AllReadyH.nil
   refine AllReadyH.cons (o := ⟨_, _, _, _, _, _⟩) rfl (fun K hK => ?_) ?_
   ·
    go_simp
    refine hK.out _ _ ?_ fun hN => ?_
    · go_keep
    clear hK K hH; have hH := hN; clear hN
    (try simp only [Act.put, pA, pB, pC])
    refine wpAnyH_ready (rs := [1]) (by kernel_rfl) (by simp) ?_
    refine AllReadyH.cons (o := ⟨_, _, _, _, _, _⟩) rfl (fun K hK => ?_) ?_
    ·
     go_simp
     (go_at_call 40; (with_reducible refine (HRT.out _).mono ?_); rintro e W1 ⟨rfl, f1⟩; have FR := hide (HT.out _ _ (by (repeat (first | (with_reducible exact FA.out) | (with_reducible apply Fr.alloc') | (with_reducible apply Fr.drewN')))) f1); have e10 := (HK.out W1 FR.out).1; (try (with_reducible have HL1 := hide (f1.keep (b := w.heap.size + 1) (o := (.cells #[.int .i64 4, .int .i64 5, .int .i64 7] 3)) (heap_alloc_at (by simp)) (by simp)); obtain ⟨la1, lb1⟩ := HF.out _ _ HL1.out)); clear f1)
     (try go_wp2_with fail)
     refine hK.out _ _ ?_ fun hN => ?_
     · go_keep
     clear hK K hH; have hH := hN; clear hN
     (try simp only [Act.put, pA, pB, pC])
     refine wpAnyH_ready (rs := [2]) (by kernel_rfl) (by simp) ?_
     refine AllReadyH.cons (o := ⟨_, _, _, _, _, _⟩) rfl (fun K hK => ?_) ?_
     ·
      go_simp
      refine hK.out _ _ ?_ fun hN => ?_
      · go_keep
      clear hK K hH; have hH := hN; clear hN
      (try simp only [Act.put, pA, pB, pC])
      refine wpAnyH_ready (rs := [3]) (by kernel_rfl) (by simp) ?_
      refine AllReadyH.cons (o := ⟨_, _, _, _, _, _⟩) rfl (fun K hK => ?_) ?_
      ·
       go_simp
       (go_at_call 38; (first | (with_reducible refine (HBT.out _ _ ?_).mono ?_) | (with_reducible refine (HBT2.out _ _ _ ?_).mono ?_)); (first | rfl | simp); rintro e W3 ⟨rfl, f3⟩; have FBB := hide (HT.out _ _ (by (repeat (first | (with_reducible exact FR.out) | (with_reducible exact FBB.out) | (with_reducible exact FA.out) | (with_reducible apply Fr.alloc') | (with_reducible apply Fr.drewN')))) f3); have e10 := (HK.out W3 FBB.out).1; (try (with_reducible have q3 := HF.out _ _ (f3.keep (b := w.heap.size + 1) (heap_alloc_some HL1.out) (by simp)); obtain ⟨la3, lb3⟩ := q3)); (try (with_reducible have q4 := HF.out _ _ (f3.keep (b := W1.heap.size) (heap_alloc_some (heap_alloc_at (by simp))) (by simp)); obtain ⟨la4, lb4⟩ := q4)); (try (with_reducible have q5 := HF.out _ _ (f3.keep (b := W1.heap.size + 1) (heap_alloc_at (by simp)) (by simp)); obtain ⟨la5, lb5⟩ := q5)); clear f3)
       (try go_wp2_with fail)
       refine hK.out _ _ ?_ fun hN => ?_
       · go_keep
       clear hK K hH; have hH := hN; clear hN
       (try simp only [Act.put, pA, pB, pC])
       refine wpAnyH_ready (rs := [11]) (by kernel_rfl) (by simp) ?_
       refine AllReadyH.cons (o := ⟨_, _, _, _, _, _⟩) rfl (fun K hK => ?_) ?_
       ·
        go_simp
        (go_at_call 41; (with_reducible refine (HP.out _ (by (repeat (first | (with_reducible exact FR.out) | (with_reducible exact FBB.out) | (with_reducible exact FA.out) | (with_reducible apply Fr.alloc') | (with_reducible apply Fr.drewN'))))).mono ?_); rintro e W2 ⟨rfl, f2⟩; have e20 := (HK.out W2 f2).1; have FP := hide f2; clear f2)
        (try go_wp2_with fail)
        refine hK.out _ _ ?_ fun hN => ?_
        · go_keep
        clear hK K hH; have hH := hN; clear hN
        (try simp only [Act.put, pA, pB, pC])
        refine wpAnyH_ready (rs := [12]) (by kernel_rfl) (by simp) ?_
        refine AllReadyH.cons (o := ⟨_, _, _, _, _, _⟩) rfl (fun K hK => ?_) ?_
        ·
         go_simp
         (try go_wp2_with fail)
         refine hK.out _ _ ?_ fun hN => ?_
         · go_keep
         clear hK K hH; have hH := hN; clear hN
         (try simp only [Act.put, pA, pB, pC])
         refine wpAnyH_take (i := 13) (oi := ⟨_, _, _, _, _, _⟩) (v := ?_) rfl (by kernel_rfl) (by kernel_rfl) (by kernel_rfl) (fun _ _ _ h => h) (Or.inl ⟨by rfl, ?_⟩) (by assumption) ?_
         rotate_left
         · intro w hSw
           (try dsimp only at hSw)
           go_simp
           (try with_reducible rfl)
         (try simp only [Act.put, pA, pB, pC])
         refine wpAnyH_done (by kernel_rfl) ?_ _
         go_wp2
         go_ret
         refine ⟨congrArg (fun z => Ending.returned (Value.string z)) HM.out, ?_⟩
         first
           | exact HF0.out.trans FP.out
           | exact HF0.out.trans (FP.out.drewN' _)
        exact AllReadyH.nil
       exact AllReadyH.nil
      exact AllReadyH.nil
     exact AllReadyH.nil
    exact AllReadyH.nil
   exact AllReadyH.nil
  exact AllReadyH.nil
end Go.Proofs.Ytpahjllcomejbaa
