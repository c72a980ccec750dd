/- The coder's reg and memory; condition: the coder lies in memory. -/
import Derived.Test.YtpahjllcomejbaaCod2
set_option linter.unusedVariables false
set_option linter.unusedSimpArgs false
namespace Go.Proofs.Ytpahjllcomejbaa
open Go.RowKit Go.MapKept

def outReg (n : Int) : Bool := decide (n < 0) || decide (15 < n)
def RegRel (w : World) (x : Nat) (F : List Nat) (bs : List Int) (bad : Bool) (l : List Int) (v : Value) (wr : World) : Prop :=
  ∃ i : Nat, i ≤ l.length ∧ v = .int .i64 i ∧ Cod wr x F bs (bad || (l.take i).any outReg) ∧ Fr F F w wr
theorem any_succ (l : List Int) (i : Nat) (h : i < l.length) (b : Bool) : (b || (l.take (i + 1)).any outReg) = ((b || (l.take i).any outReg) || outReg l[i]) := by
  rw [List.take_succ_eq_append_getElem h, List.any_append]
  simp [Bool.or_assoc]
set_option maxRecDepth 100000 in
set_option maxHeartbeats 800000 in
theorem reg_calls (w : World) (x : Nat) (F : List Nat) (bs : List Int) (bad : Bool) (h : Cod w x F bs bad) (B m : Nat) (l : List Int) (hm : l.length = m) (hB : B ∉ F) (hBl : B < w.heap.size) (hn : ∀ i (hi : i < l.length), w.cell? ⟨B, i, none⟩ = some (.int .i64 l[i])) (hl : l.length ≤ 1000) :
    Calls Try.prog 22 #[.pointer (some ⟨x, 0, none⟩), .slice (some ⟨B, 0, none⟩) m m] w (CodPost w x F bs (bad || l.any outReg)) := by
  subst hm
  have hu := Try.underlying74
  have hu2 := Try.underlying41
  have HS := hide (show RegRel w x F bs bad l (.int .i64 0) w from ⟨0, Nat.zero_le _, rfl, by simpa using h, Fr.refl _ _⟩)
  have HN := hide hn
  have HB := hide (And.intro hB hBl)
  clear h hn hB hBl
  go_enter Try.func22, Try.ntmps22
  go_wp2_with fail
  go_loopw [8] (fun v wr => RegRel w x F bs bad l v wr) (fun v _ => l.length - (intOf v).toNat)
  case atStart => exact HS.out
  case round =>
    clear HS
    obtain ⟨i, hi, rfl, hc, hf⟩ := hrel
    by_cases hlt : i < l.length
    · have hcell : wr.cell? ⟨B, i, none⟩ = some (.int .i64 l[i]) := by
        rw [← HN.out i hlt]
        exact World.cell?_of_block (a := ⟨B, i, none⟩) (hf.block B HB.out.2 HB.out.1)
      obtain ⟨v, c0, c1, f0, f1⟩ := hc.cells
      have HX : Hid (∀ b, b = ((bad || (l.take i).any outReg) || outReg l[i]) → RegRel w x F bs bad l (.int .i64 ((i + 1 : Nat) : Int)) (wr.setCell ⟨x, 1, none⟩ (.bool b))) := hide fun b hb => by
        refine ⟨i + 1, by omega, rfl, ?_, hf.setCell' (.inl hc.mem) _⟩
        rw [any_succ l i hlt, ← hb]
        exact hc.setBad b
      clear hf hc
      have ho : outReg l[i] = (decide (l[i] < 0) || decide (15 < l[i])) := rfl
      have HO := hide ho
      clear ho
      generalize l[i] = n at *
      generalize (bad || (l.take i).any outReg) = q at *
      cases q with
      | true =>
        have HY := hide (HX.out true (by simp))
        clear HX
        go_wp2
        exact ⟨HY.out, by simp [intOf]; omega⟩
      | false =>
        by_cases h0 : n < 0
        · have HY := hide (HX.out true (by rw [HO.out]; simp [h0]))
          clear HX HO
          have d0 : decide (n < 0) = true := decide_eq_true h0
          go_wp2
          exact ⟨HY.out, by simp [intOf]; omega⟩
        · have d0 : decide (n < 0) = false := decide_eq_false h0
          by_cases h1 : 15 < n
          · have HY := hide (HX.out true (by rw [HO.out]; simp [h1]))
            clear HX HO
            have d1 : decide (15 < n) = true := decide_eq_true h1
            go_wp2
            exact ⟨HY.out, by simp [intOf]; omega⟩
          · have HY := hide (HX.out false (by rw [HO.out]; simp [h0, h1]))
            clear HX HO
            have d1 : decide (15 < n) = false := decide_eq_false h1
            go_wp2
            exact ⟨HY.out, by simp [intOf]; omega⟩
    · obtain rfl : i = l.length := by omega
      have HC : Hid (Cod wr x F bs (bad || l.any outReg)) := hide (by simpa using hc)
      have HF := hide hf
      clear hc hf
      go_wp2
      go_end0
      exact ⟨rfl, F, HC.out, HF.out⟩
theorem reg_lit (w : World) (x : Nat) (F : List Nat) (bs : List Int) (bad : Bool) (h : Cod w x F bs bad) (l : List Int) (m : Nat) (hm : l.length = m) (B : Nat) (hB : w.heap.size = B) (C : Array Value) (hC : (l.map (Value.int .i64)).toArray = C) (hl : l.length ≤ 1000) :
    Calls Try.prog 22 #[.pointer (some ⟨x, 0, none⟩), .slice (some ⟨B, 0, none⟩) m m] (w.alloc (.cells C 3)) (CodPost w x F bs (bad || l.any outReg)) := by
  subst hB hC
  refine (reg_calls _ x F bs bad (h.alloc _) w.heap.size m l hm (fun hf => by have := h.lt _ hf; omega) (by simp) (fun i hi => ?_) hl).mono fun e w' hp => hp.pre ((Fr.refl F w).alloc' _)
  rw [cell_at (heap_alloc_new w _) i]
  simp [hi]
set_option maxRecDepth 100000 in
set_option maxHeartbeats 800000 in
theorem memory_calls (w : World) (x : Nat) (F : List Nat) (bs : List Int) (bad : Bool) (h : Cod w x F bs bad) (reg rm n : Int) (hl : bs.length + 20 ≤ 100000000000000) :
    Calls Try.prog 44 #[.pointer (some ⟨x, 0, none⟩), .int .i64 reg, .int .i64 rm, .int .i64 n] w (CodPost w x F (bs ++ ([128 + reg % 8 * 8 + rm % 8] ++ (if rm % 8 = 4 then [36] else []) ++ b4 n)) (bad || !fits32 n)) := by
  have HO := hide (op_lit w x F bs bad h [128 + reg % 8 * 8 + rm % 8] 1 rfl _ rfl _ rfl (by omega))
  have b0 := fieldsByte 128 reg rm (by omega)
  have HL := hide hl
  clear h hl
  generalize 128 + reg % 8 * 8 + rm % 8 = v at *
  have h7 := and7 rm
  by_cases h4 : rm % 8 = 4
  · rw [h4] at h7
    rw [if_pos h4]
    have b1 : bits BinOp.or IntKind.u8 (bits BinOp.or IntKind.u8 128 (bits BinOp.and IntKind.i64 reg 7 % 256 * 8 % 256)) 4 = v := by rw [h7] at b0; exact b0
    clear b0 h4
    go_enter Try.func44, Try.ntmps44
    go_wp2_with fail
    refine HO.out.mono ?_
    rintro e w1 ⟨rfl, F1, hc1, hf1⟩
    have HC1 := hide hc1
    have HF1 := hide hf1
    clear hc1 hf1
    go_wp2_with fail
    refine (op_lit w1 x F1 _ bad HC1.out [36] 1 rfl _ rfl _ rfl (by have := HL.out; simp; omega)).mono ?_
    rintro e w2 ⟨rfl, F2, hc2, hf2⟩
    have HC2 := hide hc2
    have HF2 := hide hf2
    clear hc2 hf2
    go_wp2_with fail
    refine (imm_calls w2 x F2 _ bad HC2.out n (by have := HL.out; simp; omega)).mono ?_
    rintro e w3 ⟨rfl, F3, hc3, hf3⟩
    have HC3 := hide hc3
    have HF3 := hide hf3
    clear hc3 hf3
    go_wp2
    go_end0
    exact ⟨rfl, F3, by simpa using HC3.out, (HF1.out.trans HF2.out).trans HF3.out⟩
  · have h4' : (bits BinOp.and IntKind.i64 rm 7 == 4) = false := by rw [h7, beq_eq_false_iff_ne]; exact h4
    rw [if_neg h4]
    clear h7
    go_enter Try.func44, Try.ntmps44
    go_wp2_with fail
    refine HO.out.mono ?_
    rintro e w1 ⟨rfl, F1, hc1, hf1⟩
    have HC1 := hide hc1
    have HF1 := hide hf1
    clear hc1 hf1
    go_wp2_with fail
    refine (imm_calls w1 x F1 _ bad HC1.out n (by have := HL.out; simp; omega)).mono ?_
    rintro e w3 ⟨rfl, F3, hc3, hf3⟩
    have HC3 := hide hc3
    have HF3 := hide hf3
    clear hc3 hf3
    go_wp2
    go_end0
    exact ⟨rfl, F3, by simpa using HC3.out, HF1.out.trans HF3.out⟩
end Go.Proofs.Ytpahjllcomejbaa
