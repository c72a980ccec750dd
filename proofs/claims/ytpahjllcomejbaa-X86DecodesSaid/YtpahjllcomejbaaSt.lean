/- Several texts of this claim in one: each is told where it begins. -/
import Derived.Test.YtpahjllcomejbaaCod2
import Derived.Laws.AppendOwnNone
/- The coder's reg and memory; condition: the coder lies in memory. -/
set_option linter.unusedVariables false
set_option linter.unusedSimpArgs false
namespace Go.Proofs.Ytpahjllcomejbaa
open Go.RowKit Go.MapKept

def outReg (n : Int) : Bool := decide (n < 0) || decide (15 < n)
def RegRel (w : World) (x : Nat) (F : List Nat) (bs : List Int) (bad : Bool) (l : List Int) (v : Value) (wr : World) : Prop :=
  ∃ i : Nat, i ≤ l.length ∧ v = .int .i64 i ∧ Cod wr x F bs (bad || (l.take i).any outReg) ∧ Fr F F w wr
theorem any_succ (l : List Int) (i : Nat) (h : i < l.length) (b : Bool) : (b || (l.take (i + 1)).any outReg) = ((b || (l.take i).any outReg) || outReg l[i]) := by
  rw [List.take_succ_eq_append_getElem h, List.any_append]
  simp [Bool.or_assoc]
set_option maxRecDepth 100000 in
set_option maxHeartbeats 800000 in
theorem reg_calls (w : World) (x : Nat) (F : List Nat) (bs : List Int) (bad : Bool) (h : Cod w x F bs bad) (B m : Nat) (l : List Int) (hm : l.length = m) (hB : B ∉ F) (hBl : B < w.heap.size) (hn : ∀ i (hi : i < l.length), w.cell? ⟨B, i, none⟩ = some (.int .i64 l[i])) (hl : l.length ≤ 1000) :
    Calls Try.prog 22 #[.pointer (some ⟨x, 0, none⟩), .slice (some ⟨B, 0, none⟩) m m] w (CodPost w x F bs (bad || l.any outReg)) := by
  subst hm
  have hu := Try.underlying74
  have hu2 := Try.underlying41
  have HS := hide (show RegRel w x F bs bad l (.int .i64 0) w from ⟨0, Nat.zero_le _, rfl, by simpa using h, Fr.refl _ _⟩)
  have HN := hide hn
  have HB := hide (And.intro hB hBl)
  clear h hn hB hBl
  go_enter Try.func22, Try.ntmps22
  go_wp2_with fail
  go_loopw [8] (fun v wr => RegRel w x F bs bad l v wr) (fun v _ => l.length - (intOf v).toNat)
  case atStart => exact HS.out
  case round =>
    clear HS
    obtain ⟨i, hi, rfl, hc, hf⟩ := hrel
    by_cases hlt : i < l.length
    · have hcell : wr.cell? ⟨B, i, none⟩ = some (.int .i64 l[i]) := by
        rw [← HN.out i hlt]
        exact World.cell?_of_block (a := ⟨B, i, none⟩) (hf.block B HB.out.2 HB.out.1)
      obtain ⟨v, c0, c1, f0, f1⟩ := hc.cells
      have HX : Hid (∀ b, b = ((bad || (l.take i).any outReg) || outReg l[i]) → RegRel w x F bs bad l (.int .i64 ((i + 1 : Nat) : Int)) (wr.setCell ⟨x, 1, none⟩ (.bool b))) := hide fun b hb => by
        refine ⟨i + 1, by omega, rfl, ?_, hf.setCell' (.inl hc.mem) _⟩
        rw [any_succ l i hlt, ← hb]
        exact hc.setBad b
      clear hf hc
      have ho : outReg l[i] = (decide (l[i] < 0) || decide (15 < l[i])) := rfl
      have HO := hide ho
      clear ho
      generalize l[i] = n at *
      generalize (bad || (l.take i).any outReg) = q at *
      cases q with
      | true =>
        have HY := hide (HX.out true (by simp))
        clear HX
        go_wp2
        exact ⟨HY.out, by simp [intOf]; omega⟩
      | false =>
        by_cases h0 : n < 0
        · have HY := hide (HX.out true (by rw [HO.out]; simp [h0]))
          clear HX HO
          have d0 : decide (n < 0) = true := decide_eq_true h0
          go_wp2
          exact ⟨HY.out, by simp [intOf]; omega⟩
        · have d0 : decide (n < 0) = false := decide_eq_false h0
          by_cases h1 : 15 < n
          · have HY := hide (HX.out true (by rw [HO.out]; simp [h1]))
            clear HX HO
            have d1 : decide (15 < n) = true := decide_eq_true h1
            go_wp2
            exact ⟨HY.out, by simp [intOf]; omega⟩
          · have HY := hide (HX.out false (by rw [HO.out]; simp [h0, h1]))
            clear HX HO
            have d1 : decide (15 < n) = false := decide_eq_false h1
            go_wp2
            exact ⟨HY.out, by simp [intOf]; omega⟩
    · obtain rfl : i = l.length := by omega
      have HC : Hid (Cod wr x F bs (bad || l.any outReg)) := hide (by simpa using hc)
      have HF := hide hf
      clear hc hf
      go_wp2
      go_end0
      exact ⟨rfl, F, HC.out, HF.out⟩
theorem reg_lit (w : World) (x : Nat) (F : List Nat) (bs : List Int) (bad : Bool) (h : Cod w x F bs bad) (l : List Int) (m : Nat) (hm : l.length = m) (B : Nat) (hB : w.heap.size = B) (C : Array Value) (hC : (l.map (Value.int .i64)).toArray = C) (hl : l.length ≤ 1000) :
    Calls Try.prog 22 #[.pointer (some ⟨x, 0, none⟩), .slice (some ⟨B, 0, none⟩) m m] (w.alloc (.cells C 3)) (CodPost w x F bs (bad || l.any outReg)) := by
  subst hB hC
  refine (reg_calls _ x F bs bad (h.alloc _) w.heap.size m l hm (fun hf => by have := h.lt _ hf; omega) (by simp) (fun i hi => ?_) hl).mono fun e w' hp => hp.pre ((Fr.refl F w).alloc' _)
  rw [cell_at (heap_alloc_new w _) i]
  simp [hi]
set_option maxRecDepth 100000 in
set_option maxHeartbeats 800000 in
theorem memory_calls (w : World) (x : Nat) (F : List Nat) (bs : List Int) (bad : Bool) (h : Cod w x F bs bad) (reg rm n : Int) (hl : bs.length + 20 ≤ 100000000000000) :
    Calls Try.prog 44 #[.pointer (some ⟨x, 0, none⟩), .int .i64 reg, .int .i64 rm, .int .i64 n] w (CodPost w x F (bs ++ ([128 + reg % 8 * 8 + rm % 8] ++ (if rm % 8 = 4 then [36] else []) ++ b4 n)) (bad || !fits32 n)) := by
  have HO := hide (op_lit w x F bs bad h [128 + reg % 8 * 8 + rm % 8] 1 rfl _ rfl _ rfl (by omega))
  have b0 := fieldsByte 128 reg rm (by omega)
  have HL := hide hl
  clear h hl
  generalize 128 + reg % 8 * 8 + rm % 8 = v at *
  have h7 := and7 rm
  by_cases h4 : rm % 8 = 4
  · rw [h4] at h7
    rw [if_pos h4]
    have b1 : bits BinOp.or IntKind.u8 (bits BinOp.or IntKind.u8 128 (bits BinOp.and IntKind.i64 reg 7 % 256 * 8 % 256)) 4 = v := by rw [h7] at b0; exact b0
    clear b0 h4
    go_enter Try.func44, Try.ntmps44
    go_wp2_with fail
    refine HO.out.mono ?_
    rintro e w1 ⟨rfl, F1, hc1, hf1⟩
    have HC1 := hide hc1
    have HF1 := hide hf1
    clear hc1 hf1
    go_wp2_with fail
    refine (op_lit w1 x F1 _ bad HC1.out [36] 1 rfl _ rfl _ rfl (by have := HL.out; simp; omega)).mono ?_
    rintro e w2 ⟨rfl, F2, hc2, hf2⟩
    have HC2 := hide hc2
    have HF2 := hide hf2
    clear hc2 hf2
    go_wp2_with fail
    refine (imm_calls w2 x F2 _ bad HC2.out n (by have := HL.out; simp; omega)).mono ?_
    rintro e w3 ⟨rfl, F3, hc3, hf3⟩
    have HC3 := hide hc3
    have HF3 := hide hf3
    clear hc3 hf3
    go_wp2
    go_end0
    exact ⟨rfl, F3, by simpa using HC3.out, (HF1.out.trans HF2.out).trans HF3.out⟩
  · have h4' : (bits BinOp.and IntKind.i64 rm 7 == 4) = false := by rw [h7, beq_eq_false_iff_ne]; exact h4
    rw [if_neg h4]
    clear h7
    go_enter Try.func44, Try.ntmps44
    go_wp2_with fail
    refine HO.out.mono ?_
    rintro e w1 ⟨rfl, F1, hc1, hf1⟩
    have HC1 := hide hc1
    have HF1 := hide hf1
    clear hc1 hf1
    go_wp2_with fail
    refine (imm_calls w1 x F1 _ bad HC1.out n (by have := HL.out; simp; omega)).mono ?_
    rintro e w3 ⟨rfl, F3, hc3, hf3⟩
    have HC3 := hide hc3
    have HF3 := hide hf3
    clear hc3 hf3
    go_wp2
    go_end0
    exact ⟨rfl, F3, by simpa using HC3.out, HF1.out.trans HF3.out⟩
end Go.Proofs.Ytpahjllcomejbaa

/- The coder's methods told of a state that a walk carries on; condition: the coder lies in memory. -/
set_option linter.unusedVariables false
set_option linter.unusedSimpArgs false
namespace Go.Proofs.Ytpahjllcomejbaa
open Go.RowKit Go.MapKept

/-- From world wb on (in which the coder's blocks are F0) the coder has come to this. -/
structure St (wb W : World) (x : Nat) (F0 F : List Nat) (bs : List Int) (bad : Bool) : Prop where
  c : Cod W x F bs bad
  f : Fr F0 F wb W
def StPost (wb : World) (x : Nat) (F0 : List Nat) (bs : List Int) (bad : Bool) (e : Ending) (w' : World) : Prop := e = .returned (.tuple #[]) ∧ ∃ F', St wb w' x F0 F' bs bad
theorem St.post {wb W : World} {x : Nat} {F0 F : List Nat} {bs bs' : List Int} {bad bad' : Bool} (h : St wb W x F0 F bs bad) {e : Ending} {w' : World} (hp : CodPost W x F bs' bad' e w') : StPost wb x F0 bs' bad' e w' := by
  obtain ⟨rfl, F', hc, hf⟩ := hp
  exact ⟨rfl, F', hc, h.f.trans hf⟩
theorem St.keep {wb W : World} {x : Nat} {F0 F : List Nat} {bs : List Int} {bad : Bool} (h : St wb W x F0 F bs bad) {b : Nat} {o : Obj} (hb : wb.heap[b]? = some o ∧ b ∉ F0) : W.heap[b]? = some o := h.f.keep hb.1 hb.2
theorem St.fr {wb W W' : World} {x : Nat} {F0 F : List Nat} {bs : List Int} {bad : Bool} (h : St wb W x F0 F bs bad) (hf : Fr [] [] W W') : St wb W' x F0 F bs bad :=
  ⟨h.c.fr hf, hf.os.trans h.f.os, hf.tape.trans h.f.tape, hf.output.trans h.f.output, Nat.le_trans h.f.size hf.size,
    fun k hk hn => (hf.block k (Nat.lt_of_lt_of_le hk h.f.size) (by simp)).trans (h.f.block k hk hn), h.f.foot⟩
theorem St.bad {wb W : World} {x : Nat} {F0 F : List Nat} {bs : List Int} {bad : Bool} (h : St wb W x F0 F bs bad) (b : Bool) : St wb (W.setCell ⟨x, 1, none⟩ (.bool b)) x F0 F bs b :=
  ⟨h.c.setBad b, h.f.trans ((Fr.refl F W).setCell' (.inl h.c.mem) _)⟩
theorem St.op {wb W : World} {x : Nat} {F0 F : List Nat} {bs : List Int} {bad : Bool} (h : Hid (St wb W x F0 F bs bad)) (news : List Int) (m : Nat) (C : Array Value) (hm : news.length = m) (hC : (u8s news).toArray = C) (hl : bs.length + m ≤ 100000000000000) :
    Calls Try.prog 24 #[.pointer (some ⟨x, 0, none⟩), .slice (some ⟨W.heap.size, 0, none⟩) m m] (W.alloc (.cells C 5)) (StPost wb x F0 (bs ++ news) bad) :=
  (op_lit W x F bs bad h.out.c news m hm _ rfl C hC hl).mono fun _ _ hp => h.out.post hp
theorem St.reg {wb W : World} {x : Nat} {F0 F : List Nat} {bs : List Int} {bad : Bool} (h : Hid (St wb W x F0 F bs bad)) (l : List Int) (m : Nat) (C : Array Value) (hm : l.length = m) (hC : (l.map (Value.int .i64)).toArray = C) (hl : l.length ≤ 1000) :
    Calls Try.prog 22 #[.pointer (some ⟨x, 0, none⟩), .slice (some ⟨W.heap.size, 0, none⟩) m m] (W.alloc (.cells C 3)) (StPost wb x F0 bs (bad || l.any outReg)) :=
  (reg_lit W x F bs bad h.out.c l m hm _ rfl C hC hl).mono fun _ _ hp => h.out.post hp
theorem St.rex {wb W : World} {x : Nat} {F0 F : List Nat} {bs : List Int} {bad : Bool} (h : Hid (St wb W x F0 F bs bad)) (wide : Bool) (reg rm : Int) (hl : bs.length + 1 ≤ 100000000000000) :
    Calls Try.prog 23 #[.pointer (some ⟨x, 0, none⟩), .bool wide, .int .i64 reg, .int .i64 rm] W (StPost wb x F0 (bs ++ [(if wide = true then 72 else 64) + reg / 8 % 2 * 4 + rm / 8 % 2]) bad) :=
  (rex_calls W x F bs bad h.out.c wide reg rm hl).mono fun _ _ hp => h.out.post hp
theorem St.direct {wb W : World} {x : Nat} {F0 F : List Nat} {bs : List Int} {bad : Bool} (h : Hid (St wb W x F0 F bs bad)) (reg rm : Int) (hl : bs.length + 1 ≤ 100000000000000) :
    Calls Try.prog 25 #[.pointer (some ⟨x, 0, none⟩), .int .i64 reg, .int .i64 rm] W (StPost wb x F0 (bs ++ [192 + reg % 8 * 8 + rm % 8]) bad) :=
  (direct_calls W x F bs bad h.out.c reg rm hl).mono fun _ _ hp => h.out.post hp
theorem St.memory {wb W : World} {x : Nat} {F0 F : List Nat} {bs : List Int} {bad : Bool} (h : Hid (St wb W x F0 F bs bad)) (reg rm n : Int) (hl : bs.length + 20 ≤ 100000000000000) :
    Calls Try.prog 44 #[.pointer (some ⟨x, 0, none⟩), .int .i64 reg, .int .i64 rm, .int .i64 n] W (StPost wb x F0 (bs ++ ([128 + reg % 8 * 8 + rm % 8] ++ (if rm % 8 = 4 then [36] else []) ++ b4 n)) (bad || !fits32 n)) :=
  (memory_calls W x F bs bad h.out.c reg rm n hl).mono fun _ _ hp => h.out.post hp
theorem St.imm {wb W : World} {x : Nat} {F0 F : List Nat} {bs : List Int} {bad : Bool} (h : Hid (St wb W x F0 F bs bad)) (n : Int) (hl : bs.length + 8 ≤ 100000000000000) :
    Calls Try.prog 29 #[.pointer (some ⟨x, 0, none⟩), .int .i64 n] W (StPost wb x F0 (bs ++ b4 n) (bad || !fits32 n)) :=
  (imm_calls W x F bs bad h.out.c n hl).mono fun _ _ hp => h.out.post hp
theorem St.number {wb W : World} {x : Nat} {F0 F : List Nat} {bs : List Int} {bad : Bool} (h : Hid (St wb W x F0 F bs bad)) (n : Int) (hn0 : 0 ≤ n) (hn1 : n < 18446744073709551616) (m : Nat) (hm : m ≤ 8) (hl : bs.length + 8 ≤ 100000000000000) :
    Calls Try.prog 28 #[.pointer (some ⟨x, 0, none⟩), .int .u64 n, .int .i64 m] W (StPost wb x F0 (bs ++ leB n m) bad) :=
  (number_calls W x F bs bad h.out.c n hn0 hn1 m hm hl).mono fun _ _ hp => h.out.post hp
/-- op of a slice that lies in memory, or of none. -/
theorem St.opAt {wb W : World} {x : Nat} {F0 F : List Nat} {bs : List Int} {bad : Bool} (h : Hid (St wb W x F0 F bs bad)) (B m c : Nat) (news : List Int) (hm : news.length = m) (hB : W.heap[B]? = some (.cells (u8s news).toArray 5 (0, 0))) (hl : bs.length + m ≤ 100000000000000) :
    Calls Try.prog 24 #[.pointer (some ⟨x, 0, none⟩), .slice (some ⟨B, 0, none⟩) m c] W (StPost wb x F0 (bs ++ news) bad) := by
  refine (op_calls W x F bs bad h.out.c ⟨B, 0, none⟩ m c news hm ?_ hl).mono fun _ _ hp => h.out.post hp
  intro j u hu
  have e : (⟨B, 0, none⟩ : Addr).add j = ⟨B, j, none⟩ := by
    unfold Addr.add; split <;> simp_all
  rw [e, cell_at hB j]
  simpa using hu
set_option maxRecDepth 100000 in
set_option maxHeartbeats 800000 in
theorem op_none (w : World) (x : Nat) (F : List Nat) (bs : List Int) (bad : Bool) (h : Cod w x F bs bad) :
    Calls Try.prog 24 #[.pointer (some ⟨x, 0, none⟩), .slice none 0 0] w (CodPost w x F bs bad) := by
  obtain ⟨v, h1, h2, h3, rfl⟩ := h.ex
  have hu := Try.underlying39
  have hu2 := Try.underlying41
  obtain ⟨i0, hi, hz0, hz1, hz2⟩ := info_parts u8_info
  have c0 := cell_at h1 0
  have f0 := frozen_at h1 0
  simp only [List.getElem?_toArray, List.getElem?_cons_zero, List.getElem?_cons_succ] at c0
  obtain ⟨A1, n1, c1', rfl⟩ := own_form h2
  have H1 := hide h1
  have H2 := hide h2
  have H3 := hide h3
  clear h1 h2 h3 h
  go_enter Try.func24, Try.ntmps24
  go_wp2_with (at_builtin; refine wpList_append_own_none rfl _ _ 39 rfl 0 5 i0 1 hu hi (.slice A1 n1 c1') bs.length (u8s bs) rfl H2.out rfl ?_)
  go_end0
  have := cod_appended (v1 := .slice A1 n1 c1') (bs' := bs) H1.out H3.out (World.grownBy.refl w _) H2.out rfl (.inl rfl)
  exact ⟨rfl, _, this.1, this.2⟩
theorem St.opNone {wb W : World} {x : Nat} {F0 F : List Nat} {bs : List Int} {bad : Bool} (h : Hid (St wb W x F0 F bs bad)) :
    Calls Try.prog 24 #[.pointer (some ⟨x, 0, none⟩), .slice none 0 0] W (StPost wb x F0 bs bad) :=
  (op_none W x F bs bad h.out.c).mono fun _ _ hp => h.out.post hp

/-! ### reads -/
def readsB (size : Int) (signed : Bool) : Bool × List Int :=
  if size = 8 ∧ signed = false then (true, [139]) else if size = 4 ∧ signed = false then (false, [139]) else if size = 2 ∧ signed = false then (true, [15, 183]) else if size = 1 ∧ signed = false then (true, [15, 182])
  else if size = 4 then (true, [99]) else if size = 2 then (true, [15, 191]) else if size = 1 then (true, [15, 190]) else (false, [])
def ReadsPost (w : World) (p : Bool × List Int) (e : Ending) (W : World) : Prop :=
  (p.2 = [] ∧ e = .returned (.tuple #[.bool p.1, .slice none 0 0]) ∧ Fr [] [] w W) ∨
  (p.2 ≠ [] ∧ ∃ B, e = .returned (.tuple #[.bool p.1, .slice (some ⟨B, 0, none⟩) p.2.length p.2.length]) ∧ W.heap[B]? = some (.cells (u8s p.2).toArray 5 (0, 0)) ∧ Fr [] [] w W ∧ w.heap.size ≤ B)
theorem reads_new (w : World) (l : List Int) (b : Bool) (C : Array Value) (n : Nat) (hC : (u8s l).toArray = C) (hn : l.length = n) (h0 : l ≠ []) : ReadsPost w (b, l) (.returned (.tuple #[.bool b, .slice (some ⟨w.heap.size, 0, none⟩) n n])) (w.alloc (.cells C 5)) := by
  subst hC hn
  exact .inr ⟨h0, _, rfl, heap_alloc_new w _, (Fr.refl [] w).alloc' _, Nat.le_refl _⟩
set_option maxRecDepth 100000 in
set_option maxHeartbeats 1600000 in
theorem reads_calls (size : Int) (signed : Bool) (w : World) : Calls Try.prog 43 #[.int .i64 size, .bool signed] w (ReadsPost w (readsB size signed)) := by
  by_cases h8 : size = 8
  · subst h8
    cases signed
    · have HP := hide (reads_new w [139] true _ 1 rfl rfl (by simp))
      go_enter Try.func43, Try.ntmps43
      go_wp2
      go_ret2
      exact HP.out
    · go_enter Try.func43, Try.ntmps43
      go_wp2
      go_ret2
      exact .inl ⟨rfl, rfl, Fr.refl _ _⟩
  by_cases h4 : size = 4
  · subst h4
    cases signed
    · have HP := hide (reads_new w [139] false _ 1 rfl rfl (by simp))
      go_enter Try.func43, Try.ntmps43
      go_wp2
      go_ret2
      exact HP.out
    · have HP := hide (reads_new w [99] true _ 1 rfl rfl (by simp))
      go_enter Try.func43, Try.ntmps43
      go_wp2
      go_ret2
      exact HP.out
  by_cases h2 : size = 2
  · subst h2
    cases signed
    · have HP := hide (reads_new w [15, 183] true _ 2 rfl rfl (by simp))
      go_enter Try.func43, Try.ntmps43
      go_wp2
      go_ret2
      exact HP.out
    · have HP := hide (reads_new w [15, 191] true _ 2 rfl rfl (by simp))
      go_enter Try.func43, Try.ntmps43
      go_wp2
      go_ret2
      exact HP.out
  by_cases h1 : size = 1
  · subst h1
    cases signed
    · have HP := hide (reads_new w [15, 182] true _ 2 rfl rfl (by simp))
      go_enter Try.func43, Try.ntmps43
      go_wp2
      go_ret2
      exact HP.out
    · have HP := hide (reads_new w [15, 190] true _ 2 rfl rfl (by simp))
      go_enter Try.func43, Try.ntmps43
      go_wp2
      go_ret2
      exact HP.out
  have e : readsB size signed = (false, []) := by simp [readsB, h8, h4, h2, h1]
  rw [e]
  have b8 : (size == 8) = false := by rw [beq_eq_false_iff_ne]; exact h8
  have b4 : (size == 4) = false := by rw [beq_eq_false_iff_ne]; exact h4
  have b2 : (size == 2) = false := by rw [beq_eq_false_iff_ne]; exact h2
  have b1 : (size == 1) = false := by rw [beq_eq_false_iff_ne]; exact h1
  have HP : Hid (ReadsPost w (false, []) (.returned (.tuple #[.bool false, .slice none 0 0])) w) := hide (.inl ⟨rfl, rfl, Fr.refl _ _⟩)
  clear h8 h4 h2 h1 e
  go_enter Try.func43, Try.ntmps43
  go_wp2
  go_ret2
  exact HP.out
end Go.Proofs.Ytpahjllcomejbaa
