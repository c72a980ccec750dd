/- Several texts of this claim in one: each is told where it begins. -/
import Derived.Test.YtpahjllcomejbaaQRefx0
import Derived.Test.YtpahjllcomejbaaQRefx1
import Derived.Test.YtpahjllcomejbaaDec0
import Derived.IntWalk
import Derived.Deep.RegionHeld3
/- The reference's tail: a number out of a text's last bytes; no condition beyond each lemma's own. -/
set_option linter.unusedVariables false
set_option linter.unusedSimpArgs false
namespace Go.Proofs.Ytpahjllcomejbaa
open Go.RowKit Go.MapKept
open Go.Proofs.YtpahjllcomejbaaW.PrintWords Go.Proofs.YtpahjllcomejbaaW.PrintLast Go.Proofs.YtpahjllcomejbaaW.PrintMore
open QRef (portcullisref02_FromLe.l0 portcullisref02_FromLe.f portcullisref24_tail.f)

theorem join_le (x b : Int) (hx0 : 0 ≤ x) (hx1 : x < 72057594037927936) (hb : 0 ≤ b ∧ b < 256) : bits BinOp.or IntKind.u64 (IntKind.u64.wrap (x * 256)) (IntKind.u64.wrap b) = x * 256 + b := by
  have hw : ∀ z : Int, 0 ≤ z → z < 18446744073709551616 → IntKind.u64.wrap z = z := fun z h0 h1 => by
    have : IntKind.u64.wrap z = z % 18446744073709551616 := by simp [IntKind.wrap, IntKind.bits, IntKind.signed]
    rw [this]; omega
  rw [hw _ (by omega) (by omega), hw _ (by omega) (by omega)]
  obtain ⟨xn, rfl⟩ := Int.eq_ofNat_of_zero_le hx0
  obtain ⟨bn, rfl⟩ := Int.eq_ofNat_of_zero_le hb.1
  have hc : ((xn : Int) * 256) = ((xn * 256 : Nat) : Int) := by simp
  rw [hc, u64_or_nat (xn * 256) bn (by omega) (by omega), nat_join 8 _ bn (by omega) (by omega)]
  omega
theorem leV_drop (l : List Int) (m : Nat) (h : m < l.length) : leV (l.drop m) = l[m] + 256 * leV (l.drop (m + 1)) := by
  rw [List.drop_eq_getElem_cons h, leV]
theorem fromLe_l0 (l : List Int) (hl : ByteL l) (h8 : l.length ≤ 8) : ∀ (m k : Nat) (i : Int), m ≤ l.length → m < k → i = (m : Int) - 1 → portcullisref02_FromLe.l0 k (strOfNums l) (leV (l.drop m)) i = some (leV l) := by
  intro m
  induction m with
  | zero =>
    intro k i hm hk hi
    obtain ⟨k, rfl⟩ : ∃ q, k = q + 1 := ⟨k - 1, by omega⟩
    rw [portcullisref02_FromLe.l0, if_neg (by omega)]
    simp
  | succ m ih =>
    intro k i hm hk hi
    obtain ⟨k, rfl⟩ : ∃ q, k = q + 1 := ⟨k - 1, by omega⟩
    obtain rfl : i = (m : Int) := by omega
    have hb := hl l[m] (List.getElem_mem (by omega))
    have hbt : bt (strOfNums l) (m : Int) = l[m] := by
      rw [bt_str l hl m (by omega), List.getD_eq_getElem?_getD, List.getElem?_eq_getElem (by omega)]
      rfl
    have hr := leV_range (l.drop (m + 1)) (fun b hb => hl b (List.mem_of_mem_drop hb))
    have hlt : leV (l.drop (m + 1)) < 72057594037927936 := by
      have hp : (2 : Int) ^ (8 * (l.drop (m + 1)).length) ≤ 2 ^ 56 := by
        have : (2 : Nat) ^ (8 * (l.drop (m + 1)).length) ≤ 2 ^ 56 := Nat.pow_le_pow_right (by omega) (by simp; omega)
        exact_mod_cast this
      omega
    rw [portcullisref02_FromLe.l0, if_pos (by omega), if_pos (by omega), if_pos (by rw [strOfNums_size]; omega), hbt, show wrap64 ((m : Int) - 1) = (m : Int) - 1 by unfold wrap64; omega]
    have e : Go.bits .or .u64 (IntKind.u64.wrap (leV (l.drop (m + 1)) * 256)) (IntKind.u64.wrap l[m]) = leV (l.drop m) := by
      rw [leV_drop l m (by omega)]
      refine (join_le _ _ hr.1 hlt hb).trans ?_
      omega
    rw [e]
    exact ih k _ (by omega) (by omega) rfl
theorem fromLe_eq (l : List Int) (hl : ByteL l) (h8 : l.length ≤ 8) : portcullisref02_FromLe.f 20 (strOfNums l) = some (leV l) := by
  unfold portcullisref02_FromLe.f
  have e : mn ((strOfNums l).size : Int) 8 - 1 = (l.length : Int) - 1 := by rw [strOfNums_size]; unfold mn; omega
  rw [e]
  have := fromLe_l0 l hl h8 l.length 20 ((l.length : Int) - 1) (Nat.le_refl _) (by omega) rfl
  rw [List.drop_length] at this
  exact this
theorem ext_drop (l : List Int) (m : Nat) : (strOfNums l).extract m (strOfNums l).size = strOfNums (l.drop m) := by
  rw [strOfNums_size]
  apply ByteArray.ext
  simp only [strOfNums, ByteArray.data_extract]
  apply Array.ext'
  simp only [List.extract_toArray, List.extract_eq_take_drop, List.map_drop]
  rw [List.take_of_length_le (by simp)]
/-- A number of the last n bytes. -/
theorem tail_eq (l : List Int) (hl : ByteL l) (n : Nat) (h8 : n ≤ 8) (hn : n ≤ l.length) (hs : l.length ≤ 1000) : portcullisref24_tail.f 20 (strOfNums l) n = some (leV (l.drop (l.length - n))) := by
  have hz : (strOfNums l).size = l.length := strOfNums_size l
  unfold portcullisref24_tail.f
  have w : wrap64 (((strOfNums l).size : Int) - n) = ((l.length - n : Nat) : Int) := by rw [hz]; unfold wrap64; omega
  rw [w, if_neg (by rw [hz]; omega), if_pos (by omega), if_pos (by rw [hz]; omega)]
  have e : (((l.length - n : Nat) : Int)).toNat = l.length - n := by omega
  rw [e, ext_drop, fromLe_eq _ (fun b hb => hl b (List.mem_of_mem_drop hb)) (by simp; omega), Option.bind_some]
end Go.Proofs.Ytpahjllcomejbaa

/- The reference's small functions; no condition beyond each lemma's own. -/
set_option linter.unusedVariables false
set_option linter.unusedSimpArgs false
namespace Go.Proofs.Ytpahjllcomejbaa
open Go.RowKit Go.MapKept
open Go.Proofs.YtpahjllcomejbaaW.PrintWords Go.Proofs.YtpahjllcomejbaaW.PrintLast Go.Proofs.YtpahjllcomejbaaW.PrintMore

def m256 (l : List Int) : List Int := l.map (· % 256)
theorem rbytes_l0 (l : List Int) (hl : l.length ≤ 1000) : ∀ (n i k : Nat) (acc : List Int), i + n = l.length → n < k → acc.length = i → QRef.portcullisref24_bytes.l0 k l acc i = some (strOfNums (acc ++ m256 (l.drop i))) := by
  intro n
  induction n with
  | zero =>
    intro i k acc hi hk ha
    obtain ⟨k, rfl⟩ : ∃ m, k = m + 1 := ⟨k - 1, by omega⟩
    rw [QRef.portcullisref24_bytes.l0, if_neg (by omega), List.drop_eq_nil_of_le (by omega)]
    simp [m256]
  | succ n ih =>
    intro i k acc hi hk ha
    obtain ⟨k, rfl⟩ : ∃ m, k = m + 1 := ⟨k - 1, by omega⟩
    have e : rd l i = l[i] := by simp [rd, show i < l.length by omega]
    rw [QRef.portcullisref24_bytes.l0, if_pos (by omega), if_pos (by omega), if_pos (by omega), e, show wrap64 ((i : Int) + 1) = ((i + 1 : Nat) : Int) by unfold wrap64; omega]
    have ed : m256 (l.drop i) = l[i] % 256 :: m256 (l.drop (i + 1)) := by rw [List.drop_eq_getElem_cons (show i < l.length by omega)]; rfl
    rw [ih (i + 1) k _ (by omega) (by omega) (by simp [ha]), ed, List.append_assoc]
    rfl
theorem rbytes_f (l : List Int) (hl : l.length ≤ 1000) : QRef.portcullisref24_bytes.f 1002 l = some (strOfNums (m256 l)) := by
  have := rbytes_l0 l hl l.length 0 1002 [] (by omega) (by omega) rfl
  unfold QRef.portcullisref24_bytes.f
  simpa using this
theorem ints_C (w : World) (l : List Int) (C : Array Value) (T B : Nat) (hC : (l.map (Value.int .i64)).toArray = C) (hB : w.heap.size = B) (hl : l.length ≤ 1000) : Kd.C (Kd.int .i64) (w.alloc (.cells C T)) (some ⟨B, 0, none⟩) l.length l := by
  subst hC hB
  have hb := heap_alloc_new w (.cells (l.map (Value.int .i64)).toArray T)
  refine Kd.C_of_reads (d := (0 : Int)) (h1 := fun _ => rfl) ⟨rfl, by omega, fun _ => ⟨⟨w.heap.size, 0, none⟩, rfl, fun j hj => ?_⟩⟩
  have e : (⟨w.heap.size, 0, none⟩ : Addr).add j = ⟨w.heap.size, j, none⟩ := by
    unfold Addr.add
    split <;> simp_all
  rw [e]
  simp only [World.cell?, hb]
  simp [hj]
theorem rbytes_lit (w : World) (l : List Int) (m : Nat) (B : Nat) (hB : w.heap.size = B) (C : Array Value) (hm : l.length = m) (hC : (l.map (Value.int .i64)).toArray = C) (hl : l.length ≤ 1000) :
    Calls Try.prog 38 #[.slice (some ⟨B, 0, none⟩) m m] (w.alloc (.cells C 3)) (TwoPost w (.string (strOfNums (m256 l)))) := by
  subst hm
  refine (QRef.portcullisref24_bytes.calls 1002 _ l.length l _ _ (ints_C w l C _ B hC hB hl) (Nat.le_refl _) (rbytes_f l hl)).mono ?_
  rintro e W ⟨rfl, hb⟩
  exact ⟨rfl, ((Fr.refl [] w).alloc' _).trans (below_fr hb)⟩
theorem str_append (a b : List Int) : strOfNums a ++ strOfNums b = strOfNums (a ++ b) := by
  apply ByteArray.ext
  simp [strOfNums, ByteArray.data_append]
theorem drawn_fr {w W : World} (h : Drawn0 w W) : Fr [] [] w W := by
  obtain ⟨n, rfl⟩ := h.out
  exact (Fr.refl [] w).drewN' n
def R4 (n : Int) : Prop := 0 ≤ n ∧ n ≤ 15
theorem rrex_calls (base reg rm : Int) (w : World) (hb : 0 ≤ base ∧ base ≤ 200) (h1 : R4 reg) (h2 : R4 rm) : Calls Try.prog 40 #[.int .i64 base, .int .i64 reg, .int .i64 rm] w (TwoPost w (.int .i64 (base + reg / 8 % 2 * 4 + rm / 8 % 2))) := by
  refine (QRef.portcullisref24_rex.calls base reg rm _ w ?_).mono fun e W ⟨a, b⟩ => ⟨a, drawn_fr b⟩
  unfold QRef.portcullisref24_rex.f R4 at *
  rw [Int.tdiv_eq_ediv_of_nonneg h1.1, Int.tdiv_eq_ediv_of_nonneg h2.1]
  congr 1
  unfold wrap64
  omega
theorem rmodes_calls (reg rm : Int) (w : World) (h1 : R4 reg) (h2 : R4 rm) : Calls Try.prog 41 #[.int .i64 reg, .int .i64 rm] w (TwoPost w (.string (strOfNums [dirB reg rm]))) := by
  refine (QRef.portcullisref24_modes.calls 1002 reg rm _ w ?_).mono fun e W ⟨a, b⟩ => ⟨a, below_fr b⟩
  unfold QRef.portcullisref24_modes.f R4 at *
  rw [Int.tmod_eq_emod_of_nonneg h1.1, Int.tmod_eq_emod_of_nonneg h2.1, rbytes_f _ (by simp), Option.bind_some]
  have e : m256 [wrap64 (wrap64 (192 + wrap64 (reg % 8 * 8)) + rm % 8)] = [dirB reg rm] := by
    unfold m256 dirB wrap64
    simp
    omega
  rw [e]
theorem le_l0 (n : Int) (h0 : 0 ≤ n) (k : Nat) : QRef.portcullisref02_Le.f (k + 5) n 4 = some (strOfNums [n % 256, n / 256 % 256, n / 65536 % 256, n / 16777216 % 256]) := by
  have wr : ∀ n : Int, 0 ≤ n → n < 18446744073709551616 → IntKind.u64.wrap n = n := fun n h0 h1 => by
    have : IntKind.u64.wrap n = n % 18446744073709551616 := by simp [IntKind.wrap, IntKind.bits, IntKind.signed]
    rw [this]; omega
  have step : ∀ (j : Nat), j ≤ 8 → IntKind.u64.wrap (wrap64 (8 * (j : Int))) = 8 * j ∧ shr .u64 n (8 * (j : Int)) = n / 2 ^ (8 * j) := by
    intro j hj
    have e : wrap64 (8 * (j : Int)) = 8 * j := by unfold wrap64; omega
    refine ⟨by rw [e, wr _ (by omega) (by omega)], ?_⟩
    unfold shr
    rw [show min (8 * (j : Int)).toNat IntKind.u64.bits = 8 * j by simp [IntKind.bits]; omega]
  unfold QRef.portcullisref02_Le.f
  rw [if_pos (by omega), if_pos (by decide)]
  show QRef.portcullisref02_Le.l0 (k + 5) n 4 [0, 0, 0, 0] 0 = _
  have w1 : wrap64 (0 + 1) = 1 := by unfold wrap64; omega
  have w2 : wrap64 (1 + 1) = 2 := by unfold wrap64; omega
  have w3 : wrap64 (2 + 1) = 3 := by unfold wrap64; omega
  have w4 : wrap64 (3 + 1) = 4 := by unfold wrap64; omega
  have t0 : IntKind.u64.wrap (wrap64 (8 * 0)) = 0 := (step 0 (by omega)).1
  have t1 : IntKind.u64.wrap (wrap64 (8 * 1)) = 8 := (step 1 (by omega)).1
  have t2 : IntKind.u64.wrap (wrap64 (8 * 2)) = 16 := (step 2 (by omega)).1
  have t3 : IntKind.u64.wrap (wrap64 (8 * 3)) = 24 := (step 3 (by omega)).1
  have u0 : shr .u64 n 0 = n := by have := (step 0 (by omega)).2; simpa using this
  have u1 : shr .u64 n 8 = n / 256 := (step 1 (by omega)).2
  have u2 : shr .u64 n 16 = n / 65536 := (step 2 (by omega)).2
  have u3 : shr .u64 n 24 = n / 16777216 := (step 3 (by omega)).2
  rw [QRef.portcullisref02_Le.l0, if_pos (by omega), t0, if_pos (by omega), if_pos (by omega), if_pos (by simp), u0, w1]
  rw [QRef.portcullisref02_Le.l0, if_pos (by omega), t1, if_pos (by omega), if_pos (by omega), if_pos (by simp), u1, w2]
  rw [QRef.portcullisref02_Le.l0, if_pos (by omega), t2, if_pos (by omega), if_pos (by omega), if_pos (by simp), u2, w3]
  rw [QRef.portcullisref02_Le.l0, if_pos (by omega), t3, if_pos (by omega), if_pos (by omega), if_pos (by simp), u3, w4]
  rw [QRef.portcullisref02_Le.l0, if_neg (by omega)]
  rfl
theorem rle4_calls (n : Int) (w : World) : Calls Try.prog 39 #[.int .u64 (IntKind.u64.wrap n), .int .i64 4] w (TwoPost w (.string (strOfNums (b4 n)))) := by
  have ew : IntKind.u64.wrap n = n % 18446744073709551616 := by simp [IntKind.wrap, IntKind.bits, IntKind.signed]
  refine (QRef.portcullisref02_Le.calls 5 _ 4 _ w (le_l0 _ (by rw [ew]; omega) 0)).mono fun e W ⟨a, b⟩ => ⟨?_, below_fr b⟩
  rw [a]
  congr 3
  have := leB4 n
  unfold b4
  rw [ew]
  simp
  omega
end Go.Proofs.Ytpahjllcomejbaa

/- The reference's place; condition: both registers are some. -/
set_option linter.unusedVariables false
set_option linter.unusedSimpArgs false
namespace Go.Proofs.Ytpahjllcomejbaa
open Go.RowKit Go.MapKept
open Go.Proofs.YtpahjllcomejbaaW.PrintWords Go.Proofs.YtpahjllcomejbaaW.PrintLast Go.Proofs.YtpahjllcomejbaaW.PrintMore

set_option maxRecDepth 100000 in
set_option maxHeartbeats 1600000 in
theorem rplace_calls (reg rm imm : Int) (w : World) (h1 : R4 reg) (h2 : R4 rm) : Calls Try.prog 46 #[.int .i64 reg, .int .i64 rm, .int .i64 imm] w (TwoPost w (.string (strOfNums (memB reg rm imm)))) := by
  obtain ⟨g0, g1⟩ := h1
  obtain ⟨m0, m1⟩ := h2
  have HB := hide (rbytes_lit w [128 + reg % 8 * 8 + rm % 8] 1 w.heap.size rfl _ rfl rfl (by simp))
  have e1 : m256 [128 + reg % 8 * 8 + rm % 8] = [128 + reg % 8 * 8 + rm % 8] := by unfold m256; simp; omega
  rw [e1] at HB
  clear e1
  have HL := hide (rle4_calls imm)
  have z3 : (strOfNums (b4 imm)).size = 4 := by rw [strOfNums_size]; rfl
  by_cases h4 : rm % 8 = 4
  · have HM : Hid (strOfNums [128 + reg % 8 * 8 + rm % 8] ++ strOfNums [36] ++ strOfNums (b4 imm) = strOfNums (memB reg rm imm)) := hide (by rw [str_append, str_append, memB, if_pos h4])
    have HB2 : Hid (∀ W : World, Calls Try.prog 38 #[.slice (some ⟨W.heap.size, 0, none⟩) 1 1] (W.alloc (.cells #[.int .i64 36] 3)) (TwoPost W (.string (strOfNums [36])))) := hide fun W => rbytes_lit W [36] 1 W.heap.size rfl _ rfl rfl (by simp)
    have z1 : (strOfNums [128 + reg % 8 * 8 + rm % 8]).size = 1 := by rw [strOfNums_size]; rfl
    have z2 : (strOfNums [36]).size = 1 := by rw [strOfNums_size]; rfl
    rw [h4] at HB HM z1
    generalize strOfNums [128 + reg % 8 * 8 + 4] = S1 at *
    generalize strOfNums [36] = S2 at *
    generalize strOfNums (b4 imm) = S3 at *
    have q1 : S1.size + S2.size ≤ 9223372036854775807 := by omega
    have q2 : (S1 ++ S2).size + S3.size ≤ 9223372036854775807 := by rw [ByteArray.size_append]; omega
    have d1 : decide (S1.size + S2.size ≤ 9223372036854775807) = true := decide_eq_true q1
    have d2 : decide ((S1 ++ S2).size + S3.size ≤ 9223372036854775807) = true := decide_eq_true q2
    clear z1 z2 z3
    go_enter Try.func46, Try.ntmps46
    go_wp2_with fail
    refine HB.out.mono ?_
    rintro e W1 ⟨rfl, f1⟩
    have F1 := hide f1
    clear f1
    go_wp2_with fail
    refine (HB2.out W1).mono ?_
    rintro e W2 ⟨rfl, f2⟩
    have F2 := hide f2
    clear f2
    go_wp2_with fail
    refine (HL.out W2).mono ?_
    rintro e W3 ⟨rfl, f3⟩
    have F3 := hide f3
    clear f3
    go_wp2
    go_ret
    exact ⟨by rw [← HM.out]; rfl, (F1.out.trans F2.out).trans F3.out⟩
  · have h4' : (rm % 8 == 4) = false := by rw [beq_eq_false_iff_ne]; exact h4
    have HM : Hid (strOfNums [128 + reg % 8 * 8 + rm % 8] ++ strOfNums (b4 imm) = strOfNums (memB reg rm imm)) := hide (by rw [str_append, memB, if_neg h4, List.append_nil])
    have z1 : (strOfNums [128 + reg % 8 * 8 + rm % 8]).size = 1 := by rw [strOfNums_size]; rfl
    generalize strOfNums [128 + reg % 8 * 8 + rm % 8] = S1 at *
    generalize strOfNums (b4 imm) = S3 at *
    have q2 : S1.size + S3.size ≤ 9223372036854775807 := by omega
    have d2 : decide (S1.size + S3.size ≤ 9223372036854775807) = true := decide_eq_true q2
    clear z1 z3 h4
    go_enter Try.func46, Try.ntmps46
    go_wp2_with fail
    refine HB.out.mono ?_
    rintro e W1 ⟨rfl, f1⟩
    have F1 := hide f1
    clear f1
    go_wp2_with fail
    refine (HL.out W1).mono ?_
    rintro e W3 ⟨rfl, f3⟩
    have F3 := hide f3
    clear f3
    go_wp2
    go_ret
    exact ⟨by rw [← HM.out]; rfl, F1.out.trans F3.out⟩
end Go.Proofs.Ytpahjllcomejbaa

/- The reference's small functions, told from a first world; no condition beyond each lemma's own. -/
set_option linter.unusedVariables false
set_option linter.unusedSimpArgs false
namespace Go.Proofs.Ytpahjllcomejbaa
open Go.RowKit Go.MapKept
open Go.Proofs.YtpahjllcomejbaaW.PrintWords Go.Proofs.YtpahjllcomejbaaW.PrintLast Go.Proofs.YtpahjllcomejbaaW.PrintMore

def FromPost (w0 : World) (v : Value) (e : Ending) (W : World) : Prop := e = .returned v ∧ Fr [] [] w0 W
theorem from_rex (w0 : World) (base reg rm v : Int) (hb : 0 ≤ base ∧ base ≤ 200) (h1 : R4 reg) (h2 : R4 rm) (hv : base + reg / 8 % 2 * 4 + rm / 8 % 2 = v) (W : World) (h : Fr [] [] w0 W) :
    Calls Try.prog 40 #[.int .i64 base, .int .i64 reg, .int .i64 rm] W (FromPost w0 (.int .i64 v)) := by
  subst hv
  exact (rrex_calls base reg rm W hb h1 h2).mono fun e W' ⟨a, b⟩ => ⟨a, h.trans b⟩
theorem from_bytes (w0 : World) (l : List Int) (m : Nat) (C : Array Value) (S : ByteArray) (hm : l.length = m) (hC : (l.map (Value.int .i64)).toArray = C) (hl : l.length ≤ 1000) (hS : strOfNums (m256 l) = S) (W : World) (B : Nat) (hB : W.heap.size = B) (h : Fr [] [] w0 W) :
    Calls Try.prog 38 #[.slice (some ⟨B, 0, none⟩) m m] (W.alloc (.cells C 3)) (FromPost w0 (.string S)) := by
  subst hS
  exact (rbytes_lit W l m B hB C hm hC hl).mono fun e W' ⟨a, b⟩ => ⟨a, h.trans b⟩
theorem from_place (w0 : World) (reg rm imm : Int) (S : ByteArray) (h1 : R4 reg) (h2 : R4 rm) (hS : strOfNums (memB reg rm imm) = S) (W : World) (h : Fr [] [] w0 W) :
    Calls Try.prog 46 #[.int .i64 reg, .int .i64 rm, .int .i64 imm] W (FromPost w0 (.string S)) := by
  subst hS
  exact (rplace_calls reg rm imm W h1 h2).mono fun e W' ⟨a, b⟩ => ⟨a, h.trans b⟩
theorem from_modes (w0 : World) (reg rm : Int) (S : ByteArray) (h1 : R4 reg) (h2 : R4 rm) (hS : strOfNums [dirB reg rm] = S) (W : World) (h : Fr [] [] w0 W) :
    Calls Try.prog 41 #[.int .i64 reg, .int .i64 rm] W (FromPost w0 (.string S)) := by
  subst hS
  exact (rmodes_calls reg rm W h1 h2).mono fun e W' ⟨a, b⟩ => ⟨a, h.trans b⟩
theorem from_le (w0 : World) (n : Int) (S : ByteArray) (hS : strOfNums (b4 n) = S) (W : World) (h : Fr [] [] w0 W) :
    Calls Try.prog 39 #[.int .u64 (IntKind.u64.wrap n), .int .i64 4] W (FromPost w0 (.string S)) := by
  subst hS
  exact (rle4_calls n W).mono fun e W' ⟨a, b⟩ => ⟨a, h.trans b⟩
end Go.Proofs.Ytpahjllcomejbaa

/- The reference's lay, kind by kind; condition: both registers are some. -/
set_option linter.unusedVariables false
set_option linter.unusedSimpArgs false
namespace Go.Proofs.Ytpahjllcomejbaa
open Go.RowKit Go.MapKept
open Go.Proofs.YtpahjllcomejbaaW.PrintWords Go.Proofs.YtpahjllcomejbaaW.PrintLast Go.Proofs.YtpahjllcomejbaaW.PrintMore

theorem pA {α : Type} (l : List α) (i : Nat) (a : α) : l.toArray.setIfInBounds i a = (l.set i a).toArray := List.setIfInBounds_toArray ..
theorem pB {α : Type} (a b : α) (l : List α) : (a :: l).set 0 b = b :: l := rfl
theorem pC {α : Type} (a b : α) (l : List α) (n : Nat) : (a :: l).set (n + 1) b = a :: l.set n b := rfl
theorem from_bytes_d (w0 : World) (l : List Int) (m : Nat) (C : Array Value) (S : ByteArray) (hm : l.length = m) (hC : (l.map (Value.int .i64)).toArray = C) (hl : l.length ≤ 1000) (hS : strOfNums (m256 l) = S) (W : World) (B k : Nat) (hB : W.heap.size = B) (h : Fr [] [] w0 (W.drewN k)) :
    Calls Try.prog 38 #[.slice (some ⟨B, 0, none⟩) m m] ((W.alloc (.cells C 3)).drewN k) (FromPost w0 (.string S)) :=
  from_bytes w0 l m C S hm hC hl hS (W.drewN k) B hB h
theorem bytes_two (W : World) (l : List Int) (m B : Nat) (hB : W.heap.size = B) (C : Array Value) (S : ByteArray) (hm : l.length = m) (hC : (l.map (Value.int .i64)).toArray = C) (hl : l.length ≤ 1000) (hS : strOfNums (m256 l) = S) :
    Calls Try.prog 38 #[.slice (some ⟨B, 0, none⟩) m m] (W.alloc (.cells C 3)) (TwoPost (W.alloc (.cells C 3)) (.string S)) := by
  subst hm hS
  refine (QRef.portcullisref24_bytes.calls 1002 _ l.length l _ _ (ints_C W l C _ B hC hB hl) (Nat.le_refl _) (rbytes_f l hl)).mono ?_
  rintro e W' ⟨rfl, hb⟩
  exact ⟨rfl, below_fr hb⟩
theorem ints_at (W : World) (l : List Int) (C : Array Value) (T : TypeId) (B : Nat) (hC : (l.map (Value.int .i64)).toArray = C) (hb : W.heap[B]? = some (.cells C T (0, 0))) (hl : l.length ≤ 1000) : Kd.C (Kd.int .i64) W (some ⟨B, 0, none⟩) l.length l := by
  subst hC
  refine Kd.C_of_reads (d := (0 : Int)) (h1 := fun _ => rfl) ⟨rfl, by omega, fun _ => ⟨⟨B, 0, none⟩, rfl, fun j hj => ?_⟩⟩
  have e : (⟨B, 0, none⟩ : Addr).add j = ⟨B, j, none⟩ := by
    unfold Addr.add
    split <;> simp_all
  rw [e]
  simp only [World.cell?, hb]
  simp [hj]
theorem bytes_at (W : World) (l : List Int) (m B : Nat) (C : Array Value) (S : ByteArray) (hm : l.length = m) (hC : (l.map (Value.int .i64)).toArray = C) (hl : l.length ≤ 1000) (hS : strOfNums (m256 l) = S) (hb : W.heap[B]? = some (.cells C 3 (0, 0))) :
    Calls Try.prog 38 #[.slice (some ⟨B, 0, none⟩) m m] W (TwoPost W (.string S)) := by
  subst hm hS
  refine (QRef.portcullisref24_bytes.calls 1002 _ l.length l _ _ (ints_at W l C _ B hC hb hl) (Nat.le_refl _) (rbytes_f l hl)).mono ?_
  rintro e W' ⟨rfl, hb⟩
  exact ⟨rfl, below_fr hb⟩
theorem heap_alloc_at {w : World} {o : Obj} {b : Nat} (h : w.heap.size = b) : (w.alloc o).heap[b]? = some o := by subst h; exact heap_alloc_new w o
theorem lit_facts {W : World} {b : Nat} {x y z : Int} {T : TypeId} (h : W.heap[b]? = some (.cells #[.int .i64 x, .int .i64 y, .int .i64 z] T (0, 0))) :
    (W.cell? ⟨b, 0, none⟩ = some (.int .i64 x) ∧ W.cell? ⟨b, 1, none⟩ = some (.int .i64 y) ∧ W.cell? ⟨b, 2, none⟩ = some (.int .i64 z)) ∧
    (∀ o, (W.alloc o).cell? ⟨b, 0, none⟩ = some (.int .i64 x) ∧ (W.alloc o).cell? ⟨b, 1, none⟩ = some (.int .i64 y) ∧ (W.alloc o).cell? ⟨b, 2, none⟩ = some (.int .i64 z)) :=
  ⟨⟨cell_at h 0, cell_at h 1, cell_at h 2⟩, fun o => ⟨cell_at (heap_alloc_some h) 0, cell_at (heap_alloc_some h) 1, cell_at (heap_alloc_some h) 2⟩⟩
theorem from_bytes_e (w0 : World) (l : List Int) (m : Nat) (C : Array Value) (S : ByteArray) (hm : l.length = m) (hC : (l.map (Value.int .i64)).toArray = C) (hl : l.length ≤ 1000) (hS : strOfNums (m256 l) = S) (W : World) (B : Nat) (hB : W.heap.size = B) (h : Fr [] [] w0 W) :
    Calls Try.prog 38 #[.slice (some ⟨B, 0, none⟩) m m] (W.alloc (.cells C 3)).drew (FromPost w0 (.string S)) :=
  from_bytes w0 l m C S hm hC hl hS W.drew B hB ⟨h.os, h.tape, h.output, h.size, h.block, h.foot⟩
theorem rcond_eq (d : Int) : QRef.portcullisref24_cond.f d = some (okCond d) := by
  unfold QRef.portcullisref24_cond.f okCond
  by_cases a1 : d ≥ 2 <;> by_cases a2 : d ≤ 7 <;> by_cases a3 : d ≥ 12 <;> simp [a1, a2, a3] <;> omega
theorem rcond_any (d : Int) (w0 W : World) (h : Fr [] [] w0 W) : Calls Try.prog 37 #[.int .i64 d] W (FromPost w0 (.bool (okCond d))) :=
  (QRef.portcullisref24_cond.calls d _ W (rcond_eq d)).mono fun e W' ⟨a, b⟩ => ⟨a, h.trans (drawn_fr b)⟩
theorem le_l8 (n : Int) (h0 : 0 ≤ n) (h1 : n < 18446744073709551616) (k : Nat) : QRef.portcullisref02_Le.f (k + 9) n 8 = some (strOfNums (leB n 8)) := by
  have wr : ∀ n : Int, 0 ≤ n → n < 18446744073709551616 → IntKind.u64.wrap n = n := fun n h0 h1 => by
    have : IntKind.u64.wrap n = n % 18446744073709551616 := by simp [IntKind.wrap, IntKind.bits, IntKind.signed]
    rw [this]; omega
  have step : ∀ (j : Nat), j ≤ 8 → IntKind.u64.wrap (wrap64 (8 * (j : Int))) = 8 * j ∧ shr .u64 n (8 * (j : Int)) = n / 2 ^ (8 * j) := by
    intro j hj
    have e : wrap64 (8 * (j : Int)) = 8 * j := by unfold wrap64; omega
    refine ⟨by rw [e, wr _ (by omega) (by omega)], ?_⟩
    unfold shr
    rw [show min (8 * (j : Int)).toNat IntKind.u64.bits = 8 * j by simp [IntKind.bits]; omega]
  have wn : ∀ j : Nat, j ≤ 8 → wrap64 ((j : Int) + 1) = ((j + 1 : Nat) : Int) := fun j hj => by unfold wrap64; omega
  have main : ∀ (m j : Nat) (acc : List Int) (k : Nat), j + m = 8 → acc.length = 8 → acc.take j = leB n j → m < k → QRef.portcullisref02_Le.l0 k n 8 acc j = some (strOfNums (leB n 8)) := by
    intro m
    induction m with
    | zero =>
      intro j acc k hj ha ht hk
      obtain ⟨k, rfl⟩ : ∃ q, k = q + 1 := ⟨k - 1, by omega⟩
      obtain rfl : j = 8 := by omega
      rw [QRef.portcullisref02_Le.l0, if_neg (by omega)]
      rw [← ht, List.take_of_length_le (by omega)]
    | succ m ih =>
      intro j acc k hj ha ht hk
      obtain ⟨k, rfl⟩ : ∃ q, k = q + 1 := ⟨k - 1, by omega⟩
      have s1 := step j (by omega)
      rw [QRef.portcullisref02_Le.l0, if_pos (by omega), s1.1, if_pos (by omega), if_pos (by omega), if_pos (by rw [ha]; omega), s1.2, wn j (by omega)]
      refine ih (j + 1) _ k (by omega) (by simp [ha]) ?_ (by omega)
      rw [leB_succ, ← ht, show ((j : Int)).toNat = j by omega, List.take_set, List.take_succ_eq_append_getElem (by omega)]
      have hl : j = (acc.take j).length := by rw [List.length_take]; omega
      conv => lhs; rw [List.set_append_right _ _ (by rw [List.length_take]; omega)]
      rw [show j - (acc.take j).length = 0 by omega]
      rfl
  unfold QRef.portcullisref02_Le.f
  rw [if_pos (by omega), if_pos (by decide)]
  exact main 8 0 _ (k + 9) (by omega) rfl rfl (by omega)
theorem from_le8 (w0 : World) (n : Int) (S : ByteArray) (hn : 0 ≤ n ∧ n < 18446744073709551616) (hS : strOfNums (leB n 8) = S) (W : World) (h : Fr [] [] w0 W) :
    Calls Try.prog 39 #[.int .u64 n, .int .i64 8] W (FromPost w0 (.string S)) := by
  subst hS
  exact (QRef.portcullisref02_Le.calls 9 _ 8 _ W (le_l8 n hn.1 hn.2 0)).mono fun e W' ⟨a, b⟩ => ⟨a, h.trans (below_fr b)⟩
end Go.Proofs.Ytpahjllcomejbaa
