/- x86's Decode, whole: what it tells, as a function; condition: the text is no longer than a string may be. -/
import Derived.Test.YtpahjllcomejbaaMC
import Derived.Test.YtpahjllcomejbaaMD
import Derived.Laws.Strings
import Derived.Test.YtpahjllcomejbaaMG
import Derived.Test.YtpahjllcomejbaaX86Bits
import Derived.Laws.BitsAllLaws
import Derived.Test.YtpahjllcomejbaaOpen
import Derived.SizedLaws
import Derived.ChangeSlices
set_option linter.unusedVariables false
set_option linter.unusedSimpArgs false
namespace Go.Proofs.Ytpahjllcomejbaa
open Go.RowKit Go.MapKept
open Go.Proofs.YtpahjllcomejbaaW.PrintWords Go.Proofs.YtpahjllcomejbaaW.PrintLast Go.Proofs.YtpahjllcomejbaaW.PrintMore
open PX86Encodes

/-- What is read at a place, before it is looked at again. -/
def readX (k : Nat) (s : ByteArray) (a : Int) : Option X9 :=
  (x86_reader_next.f s a false).bind fun p =>
    if p.1 = 195 then some (29, 0, 0, 0, 0, 0, p.2.1, p.2.2.1, p.2.2.2)
    else if p.1 = 233 then (x86_reader_imm.f k p.2.1 p.2.2.1 p.2.2.2).bind fun q => some (21, 0, 0, 0, q.1, 0, q.2.1, q.2.2.1, q.2.2.2)
    else if p.1 = 15 then x86_reader_long.f k p.2.1 p.2.2.1 p.2.2.2 0
    else if p.1 = 102 then (x86_reader_next.f p.2.1 p.2.2.1 p.2.2.2).bind fun q => shortF k q.2.1 q.2.2.1 q.2.2.2 q.1 true
    else if 64 ≤ p.1 ∧ p.1 < 80 then shortF k p.2.1 p.2.2.1 p.2.2.2 p.1 false
    else some (0, 0, 0, 0, 0, 0, p.2.1, p.2.2.1, p.2.2.2)
theorem next_same {s : ByteArray} {a : Int} {e : Bool} {r : Int} {s' : ByteArray} {a' : Int} {e' : Bool} (h : x86_reader_next.f s a e = some (r, s', a', e')) : s' = s := by
  unfold x86_reader_next.f at h
  split at h
  · simp only [Option.some.injEq, Prod.mk.injEq] at h; exact h.2.1.symm
  · split at h
    · split at h
      · simp only [Option.some.injEq, Prod.mk.injEq] at h; exact h.2.1.symm
      · cases h
    · cases h
theorem toList_inj {a b : ByteArray} (h : a.toList = b.toList) : a = b := by
  have h' : a.data.toList = b.data.toList := by
    rw [← ByteArray.toList_eq, ← ByteArray.toList_eq, h]
  cases a; cases b
  simp at h'
  cases h'
  rfl
/-- The instruction at a place and its bytes, or the error: x is what was read there, up to a2. -/
def decE (s : ByteArray) (a : Int) (x : PX86Encodes.S32) (a2 : Int) (e2 : Bool) : X6 × Int × Int :=
  if e2 = false ∧ (encR (encX [x])).2 = 0 ∧ (encR (encX [x])).1 = s.extract a.toNat a2.toNat then (sx x, ((a2.toNat - a.toNat : Nat) : Int), 0) else ((0, 0, 0, 0, 0, 0), 0, 30)
def DecPost (w : World) (r : X6 × Int × Int) (e : Ending) (W : World) : Prop :=
  e = .returned (.tuple #[.agg #[.int .i64 r.1.1, .int .i64 r.1.2.1, .int .i64 r.1.2.2.1, .int .i64 r.1.2.2.2.1, .int .i64 r.1.2.2.2.2.1, .int .u64 r.1.2.2.2.2.2], .int .i64 r.2.1, .int .i64 r.2.2]) ∧ Below w.heap.size w W
theorem dec_pick {s : ByteArray} {a a2 : Int} {e2 : Bool} {x : PX86Encodes.S32} {w : World} {f : Nat} {args : Array Value} (hs2 : e2 = false → a ≤ a2 ∧ a2 ≤ s.size)
    (hend : e2 = true → Calls Try.prog f args w (DecPost w ((0, 0, 0, 0, 0, 0), 0, 30)))
    (hbad : e2 = false → (encR (encX [x])).2 ≠ 0 → Calls Try.prog f args w (DecPost w ((0, 0, 0, 0, 0, 0), 0, 30)))
    (hdif : e2 = false → (encR (encX [x])).2 = 0 → (encR (encX [x])).1.toList ≠ (s.extract a.toNat a2.toNat).toList → a ≤ a2 ∧ a2 ≤ s.size → Calls Try.prog f args w (DecPost w ((0, 0, 0, 0, 0, 0), 0, 30)))
    (hsame : e2 = false → (encR (encX [x])).2 = 0 → (encR (encX [x])).1 = s.extract a.toNat a2.toNat → a ≤ a2 ∧ a2 ≤ s.size → Calls Try.prog f args w (DecPost w (sx x, ((a2.toNat - a.toNat : Nat) : Int), 0))) :
    Calls Try.prog f args w (DecPost w (decE s a x a2 e2)) := by
  unfold decE
  cases e2 with
  | true => rw [if_neg (by simp)]; exact hend rfl
  | false =>
    by_cases h1 : (encR (encX [x])).2 = 0
    · by_cases h2 : (encR (encX [x])).1 = s.extract a.toNat a2.toNat
      · rw [if_pos ⟨rfl, h1, h2⟩]; exact hsame rfl h1 h2 (hs2 rfl)
      · rw [if_neg (fun c => h2 c.2.2)]; exact hdif rfl h1 (fun c => h2 (toList_inj c)) (hs2 rfl)
    · rw [if_neg (fun c => h1 c.2.1)]; exact hbad rfl h1
set_option maxHeartbeats 1000000 in
theorem decode_calls (k : Nat) (s : ByteArray) (a a2 : Int) (e2 : Bool) (r1 r2 r3 r4 r5 r6 : Int) (w : World) (hlen : s.size ≤ 9223372036854775807) (ha : 0 ≤ a ∧ a < s.size)
    (h : readX k s a = some (r1, r2, r3, r4, r5, r6, s, a2, e2)) (hs2 : e2 = false → a ≤ a2 ∧ a2 ≤ s.size) (h5 : 0 ≤ r6 ∧ r6 < 18446744073709551616) :
    Calls Try.prog 9 #[.string s, .int .i64 a] w (DecPost w (decE s a ⟨r1, r2, r3, r4, r5, r6⟩ a2 e2)) := by
  unfold readX at h
  obtain ⟨⟨b, s1, a1, e1⟩, hn, h⟩ := Option.bind_eq_some_iff.1 h
  obtain rfl := next_same hn
  simp only at h
  have hb := next_byte hn
  by_cases c195 : b = 195
  · subst c195
    rw [if_pos rfl] at h
    simp only [Option.some.injEq, Prod.mk.injEq] at h
    obtain ⟨rfl, rfl, rfl, rfl, rfl, rfl, _, rfl, rfl⟩ := h
    exact dec_pick hs2 (fun h1 => dec_195_end k s1 a a1 a1 e1 e1 0 0 0 0 0 0 w hlen ha hn ⟨rfl, rfl⟩ h5 h1) (fun h1 h2 => dec_195_bad k s1 a a1 a1 e1 e1 0 0 0 0 0 0 w hlen ha hn ⟨rfl, rfl⟩ h5 h1 h2)
      (fun h1 h2 h3 h4 => dec_195_differ k s1 a a1 a1 e1 e1 0 0 0 0 0 0 w hlen ha hn ⟨rfl, rfl⟩ h5 h1 h2 h3 h4) (fun h1 h2 h3 h4 => dec_195_same k s1 a a1 a1 e1 e1 0 0 0 0 0 0 w hlen ha hn ⟨rfl, rfl⟩ h5 h1 h2 h3 h4)
  rw [if_neg c195] at h
  by_cases c233 : b = 233
  · subst c233
    rw [if_pos rfl] at h
    obtain ⟨⟨n, s2, a3, e3⟩, hc, h⟩ := Option.bind_eq_some_iff.1 h
    simp only [Option.some.injEq, Prod.mk.injEq] at h
    obtain ⟨rfl, rfl, rfl, rfl, rfl, rfl, rfl, rfl, rfl⟩ := h
    exact dec_pick hs2 (fun h1 => dec_233_end k s2 a a1 a3 e1 e3 0 0 0 0 n 0 w hlen ha hn hc h5 h1) (fun h1 h2 => dec_233_bad k s2 a a1 a3 e1 e3 0 0 0 0 n 0 w hlen ha hn hc h5 h1 h2)
      (fun h1 h2 h3 h4 => dec_233_differ k s2 a a1 a3 e1 e3 0 0 0 0 n 0 w hlen ha hn hc h5 h1 h2 h3 h4) (fun h1 h2 h3 h4 => dec_233_same k s2 a a1 a3 e1 e3 0 0 0 0 n 0 w hlen ha hn hc h5 h1 h2 h3 h4)
  rw [if_neg c233] at h
  by_cases c15 : b = 15
  · subst c15
    rw [if_pos rfl] at h
    exact dec_pick hs2 (fun h1 => dec_15_end k s1 a a1 a2 e1 e2 r1 r2 r3 r4 r5 r6 w hlen ha hn h h5 h1) (fun h1 h2 => dec_15_bad k s1 a a1 a2 e1 e2 r1 r2 r3 r4 r5 r6 w hlen ha hn h h5 h1 h2)
      (fun h1 h2 h3 h4 => dec_15_differ k s1 a a1 a2 e1 e2 r1 r2 r3 r4 r5 r6 w hlen ha hn h h5 h1 h2 h3 h4) (fun h1 h2 h3 h4 => dec_15_same k s1 a a1 a2 e1 e2 r1 r2 r3 r4 r5 r6 w hlen ha hn h h5 h1 h2 h3 h4)
  rw [if_neg c15] at h
  by_cases c102 : b = 102
  · subst c102
    rw [if_pos rfl] at h
    obtain ⟨⟨b2, s2, a3, e3⟩, hc2, h⟩ := Option.bind_eq_some_iff.1 h
    obtain rfl := next_same hc2
    exact dec_pick hs2 (fun h1 => dec_102_end k s2 a a1 a2 e1 e2 r1 r2 r3 r4 r5 r6 w hlen ha hn b2 a3 e3 hc2 h h5 h1) (fun h1 h2 => dec_102_bad k s2 a a1 a2 e1 e2 r1 r2 r3 r4 r5 r6 w hlen ha hn b2 a3 e3 hc2 h h5 h1 h2)
      (fun h1 h2 h3 h4 => dec_102_differ k s2 a a1 a2 e1 e2 r1 r2 r3 r4 r5 r6 w hlen ha hn b2 a3 e3 hc2 h h5 h1 h2 h3 h4) (fun h1 h2 h3 h4 => dec_102_same k s2 a a1 a2 e1 e2 r1 r2 r3 r4 r5 r6 w hlen ha hn b2 a3 e3 hc2 h h5 h1 h2 h3 h4)
  rw [if_neg c102] at h
  by_cases c4 : 64 ≤ b ∧ b < 80
  · rw [if_pos c4] at h
    exact dec_pick hs2 (fun h1 => dec_4_end k s1 a a1 a2 e1 e2 r1 r2 r3 r4 r5 r6 b w hlen ha hn c4 h h5 h1) (fun h1 h2 => dec_4_bad k s1 a a1 a2 e1 e2 r1 r2 r3 r4 r5 r6 b w hlen ha hn c4 h h5 h1 h2)
      (fun h1 h2 h3 h4 => dec_4_differ k s1 a a1 a2 e1 e2 r1 r2 r3 r4 r5 r6 b w hlen ha hn c4 h h5 h1 h2 h3 h4) (fun h1 h2 h3 h4 => dec_4_same k s1 a a1 a2 e1 e2 r1 r2 r3 r4 r5 r6 b w hlen ha hn c4 h h5 h1 h2 h3 h4)
  rw [if_neg c4] at h
  simp only [Option.some.injEq, Prod.mk.injEq] at h
  obtain ⟨rfl, rfl, rfl, rfl, rfl, rfl, _, rfl, rfl⟩ := h
  have hno : b ≠ 195 ∧ b ≠ 233 ∧ b ≠ 15 ∧ b ≠ 102 ∧ b / 16 ≠ 4 ∧ 0 ≤ b ∧ b < 256 := ⟨c195, c233, c15, c102, by omega, hb⟩
  exact dec_pick hs2 (fun h1 => dec_no_end k s1 a a1 a1 e1 e1 0 0 0 0 0 0 b w hlen ha hn ⟨rfl, rfl⟩ hno h5 h1) (fun h1 h2 => dec_no_bad k s1 a a1 a1 e1 e1 0 0 0 0 0 0 b w hlen ha hn ⟨rfl, rfl⟩ hno h5 h1 h2)
    (fun h1 h2 h3 h4 => dec_no_differ k s1 a a1 a1 e1 e1 0 0 0 0 0 0 b w hlen ha hn ⟨rfl, rfl⟩ hno h5 h1 h2 h3 h4) (fun h1 h2 h3 h4 => dec_no_same k s1 a a1 a1 e1 e1 0 0 0 0 0 0 b w hlen ha hn ⟨rfl, rfl⟩ hno h5 h1 h2 h3 h4)
end Go.Proofs.Ytpahjllcomejbaa
set_option linter.unusedVariables false
set_option linter.unusedSimpArgs false
namespace Go.Proofs.Ytpahjllcomejbaa
open Go.RowKit Go.MapKept
open Go.Proofs.YtpahjllcomejbaaW.PrintWords Go.Proofs.YtpahjllcomejbaaW.PrintLast Go.Proofs.YtpahjllcomejbaaW.PrintMore
open PX86Encodes

theorem next_in (s : ByteArray) (hs : s.size ≤ 9223372036854775807) (a : Int) (e : Bool) (h : 0 ≤ a ∧ a < s.size) : x86_reader_next.f s a e = some (bt s a, s, a + 1, e) := by
  unfold x86_reader_next.f
  have w1 : wrap64 (a + 1) = a + 1 := by unfold wrap64; omega
  have w2 : wrap64 (a + 1 - 1) = a := by unfold wrap64; omega
  rw [if_neg (by omega), w1, w2, if_pos h.1, if_pos h.2]
theorem next_end (s : ByteArray) (a : Int) (e : Bool) (h : (s.size : Int) ≤ a) : x86_reader_next.f s a e = some (0, s, a, true) := by
  unfold x86_reader_next.f
  rw [if_pos (by omega)]
/-- A byte is read, or the end is told. -/
theorem next_some (s : ByteArray) (hs : s.size ≤ 9223372036854775807) (a : Int) (e : Bool) (h : 0 ≤ a ∧ a ≤ s.size) : ∃ r a' e', x86_reader_next.f s a e = some (r, s, a', e') ∧ a ≤ a' ∧ a' ≤ s.size ∧ 0 ≤ r ∧ r < 256 := by
  by_cases c : a < s.size
  · exact ⟨_, _, _, next_in s hs a e ⟨h.1, c⟩, by omega, by omega, (bt_range s a).1, by have := (bt_range s a).2; omega⟩
  · exact ⟨_, _, _, next_end s a e (by omega), by omega, by omega, by omega, by omega⟩
theorem u64_range (x y : Int) : 0 ≤ bits BinOp.or IntKind.u64 x y ∧ bits BinOp.or IntKind.u64 x y < 18446744073709551616 := by
  have e : bits BinOp.or IntKind.u64 x y = IntKind.u64.wrap (((BitVec.ofInt 64 x) ||| (BitVec.ofInt 64 y)).toNat : Int) := rfl
  rw [e]
  have : ∀ z : Int, IntKind.u64.wrap z = z % 18446744073709551616 := fun z => by simp [IntKind.wrap, IntKind.bits, IntKind.signed]
  rw [this]
  omega
theorem number_done (s : ByteArray) (m : Nat) (x a : Int) (e : Bool) (k i : Nat) (h1 : i = m) : x86_reader_number.l0 (k + 1) x m i s a e = some (x, s, a, e) := by
  rw [x86_reader_number.l0, if_neg (by omega)]
theorem number_step (s : ByteArray) (m : Nat) (x a a' : Int) (e e' : Bool) (k i : Nat) (r : Int) (hn : x86_reader_next.f s a e = some (r, s, a', e')) (h1 : i < m) (hm : m ≤ 8) : x86_reader_number.l0 (k + 1) x m i s a e = x86_reader_number.l0 k (Go.bits .or .u64 x (shl .u64 (IntKind.u64.wrap r) (8 * (i : Int)))) m ((i + 1 : Nat) : Int) s a' e' := by
  have w1 : wrap64 (8 * (i : Int)) = 8 * i := by unfold wrap64; omega
  have w2 : wrap64 ((i : Int) + 1) = ((i + 1 : Nat) : Int) := by unfold wrap64; omega
  rw [x86_reader_number.l0, if_pos (by omega), hn, Option.bind_some, w1, w2, if_pos (by omega)]
def U64 (x : Int) : Prop := 0 ≤ x ∧ x < 18446744073709551616
def Place (s : ByteArray) (a : Int) : Prop := 0 ≤ a ∧ a ≤ s.size
theorem number_some (s : ByteArray) (hs : s.size ≤ 9223372036854775807) : ∀ (n k i m : Nat) (x a : Int) (e : Bool), i + n = m → m ≤ 8 → n < k → Place s a → U64 x →
    ∃ r a' e', x86_reader_number.l0 k x m i s a e = some (r, s, a', e') ∧ a ≤ a' ∧ Place s a' ∧ U64 r := by
  intro n
  induction n with
  | zero =>
    intro k i m x a e h1 h2 h3 h4 h5
    obtain ⟨k, rfl⟩ : ∃ q, k = q + 1 := ⟨k - 1, by omega⟩
    exact ⟨x, a, e, number_done s m x a e k i (by omega), Int.le_refl _, h4, h5⟩
  | succ n ih =>
    intro k i m x a e h1 h2 h3 h4 h5
    obtain ⟨k, rfl⟩ : ∃ q, k = q + 1 := ⟨k - 1, by omega⟩
    obtain ⟨r, a', e', hn, b1, b2, b3, b4⟩ := next_some s hs a e h4
    have hp : Place s a' := ⟨Int.le_trans h4.1 b1, b2⟩
    have hu : U64 (Go.bits .or .u64 x (shl .u64 (IntKind.u64.wrap r) (8 * (i : Int)))) := u64_range _ _
    obtain ⟨r2, a2, e2, g1, g2, g3, g4⟩ := ih k (i + 1) m _ a' e' (by omega) h2 (by omega) hp hu
    exact ⟨r2, a2, e2, (number_step s m x a a' e e' k i r hn (by omega) h2).trans g1, Int.le_trans b1 g2, g3, g4⟩
/-- Bytes lie in a text at a place. -/
def At (s : ByteArray) (a : Int) (bs : List Int) : Prop := 0 ≤ a ∧ a + bs.length ≤ s.size ∧ ∀ i : Nat, i < bs.length → bt s (a + i) = bs.getD i 0
theorem At.cons {s : ByteArray} {a b : Int} {bs : List Int} (h : At s a (b :: bs)) : 0 ≤ a ∧ a < s.size ∧ bt s a = b ∧ At s (a + 1) bs := by
  obtain ⟨h0, h1, h2⟩ := h
  simp at h1
  refine ⟨h0, by omega, by simpa using h2 0 (by simp), by omega, by omega, fun i hi => ?_⟩
  have := h2 (i + 1) (by simpa using hi)
  simpa [show a + ((i : Int) + 1) = a + 1 + i by omega] using this
theorem next_at {s : ByteArray} (hs : s.size ≤ 9223372036854775807) {a b : Int} {bs : List Int} (h : At s a (b :: bs)) (e : Bool) : x86_reader_next.f s a e = some (b, s, a + 1, e) ∧ At s (a + 1) bs := by
  obtain ⟨h0, h1, h2, h3⟩ := h.cons
  exact ⟨by rw [next_in s hs a e ⟨h0, h1⟩, h2], h3⟩
theorem At.byte {s : ByteArray} {a b : Int} {bs : List Int} (h : At s a (b :: bs)) : 0 ≤ b ∧ b < 256 := by
  obtain ⟨_, _, h2, _⟩ := h.cons
  have := bt_range s a
  omega
theorem or_shl (x b : Int) (i : Nat) (hi : i ≤ 7) (hx : 0 ≤ x ∧ x < 2 ^ (8 * i)) (hb : 0 ≤ b ∧ b < 256) : bits BinOp.or IntKind.u64 x (shl .u64 (IntKind.u64.wrap b) (8 * (i : Int))) = x + b * 2 ^ (8 * i) := by
  have hw : ∀ z : Int, IntKind.u64.wrap z = z % 18446744073709551616 := fun z => by simp [IntKind.wrap, IntKind.bits, IntKind.signed]
  have hi' : i = 0 ∨ i = 1 ∨ i = 2 ∨ i = 3 ∨ i = 4 ∨ i = 5 ∨ i = 6 ∨ i = 7 := by omega
  have hsh : shl .u64 (IntKind.u64.wrap b) (8 * (i : Int)) = b * 2 ^ (8 * i) := by
    unfold shl
    rw [show min (8 * (i : Int)).toNat IntKind.u64.bits = 8 * i by simp [IntKind.bits]; omega, hw, hw]
    rcases hi' with rfl | rfl | rfl | rfl | rfl | rfl | rfl | rfl <;> simp <;> omega
  rw [hsh]
  obtain ⟨xn, rfl⟩ := Int.eq_ofNat_of_zero_le hx.1
  obtain ⟨bn, rfl⟩ := Int.eq_ofNat_of_zero_le hb.1
  have hp : (2 : Nat) ^ (8 * i) ≤ 2 ^ 56 := Nat.pow_le_pow_right (by omega) (by omega)
  have hpos : 0 < 2 ^ (8 * i) := Nat.two_pow_pos _
  have hxn : xn < 2 ^ (8 * i) := by have := hx.2; exact_mod_cast this
  have hbn : bn < 256 := by omega
  have hm : bn * 2 ^ (8 * i) < 18446744073709551616 := by
    calc bn * 2 ^ (8 * i) < 256 * 2 ^ (8 * i) := Nat.mul_lt_mul_of_pos_right hbn hpos
      _ ≤ 256 * 2 ^ 56 := Nat.mul_le_mul_left _ hp
      _ = 18446744073709551616 := by decide
  have hc : ((bn : Int) * 2 ^ (8 * i)) = ((bn * 2 ^ (8 * i) : Nat) : Int) := by simp
  rw [hc, u64_or_nat xn _ (by omega) hm, Nat.or_comm, nat_join (8 * i) _ xn (by simp) hxn]
  omega
/-- A number's value, from its lowest byte on. -/
def leV : List Int → Int
  | [] => 0
  | b :: bs => b + 256 * leV bs
theorem leV_range : ∀ (bs : List Int), (∀ b ∈ bs, 0 ≤ b ∧ b < 256) → 0 ≤ leV bs ∧ leV bs < 2 ^ (8 * bs.length)
  | [], _ => by simp [leV]
  | b :: bs, h => by
    have h1 := leV_range bs fun c hc => h c (List.mem_cons_of_mem _ hc)
    have h2 := h b (List.mem_cons_self ..)
    have e : (2 : Int) ^ (8 * (b :: bs).length) = 256 * 2 ^ (8 * bs.length) := by
      rw [List.length_cons, Nat.mul_add, Int.pow_add]; simp [Int.mul_comm]
    rw [e, leV]
    omega
theorem leV_snoc : ∀ (bs : List Int) (b : Int), leV (bs ++ [b]) = leV bs + b * 2 ^ (8 * bs.length)
  | [], b => by simp [leV]
  | c :: bs, b => by
    rw [List.cons_append, leV, leV, leV_snoc bs b]
    have e : (2 : Int) ^ (8 * (c :: bs).length) = 256 * 2 ^ (8 * bs.length) := by
      rw [List.length_cons, Nat.mul_add, Int.pow_add]; simp [Int.mul_comm]
    rw [e, Int.mul_add, ← Int.mul_assoc, ← Int.mul_assoc, Int.mul_comm 256 b]
    omega
theorem number_at {s : ByteArray} (hs : s.size ≤ 9223372036854775807) (m : Nat) (hm : m ≤ 8) : ∀ (todo done : List Int) (k : Nat) (a : Int) (e : Bool), done.length + todo.length = m → todo.length < k → (∀ b ∈ done, 0 ≤ b ∧ b < 256) → ∀ rest, At s a (todo ++ rest) →
    x86_reader_number.l0 k (leV done) m done.length s a e = some (leV (done ++ todo), s, a + todo.length, e) ∧ At s (a + todo.length) rest := by
  intro todo
  induction todo with
  | nil =>
    intro done k a e h1 h2 h3 rest h4
    obtain ⟨k, rfl⟩ : ∃ q, k = q + 1 := ⟨k - 1, by omega⟩
    have := number_done s m (leV done) a e k done.length (by simpa using h1)
    simp only [List.append_nil, List.length_nil, Int.natCast_zero, Int.add_zero]
    exact ⟨this, by simpa using h4⟩
  | cons b todo ih =>
    intro done k a e h1 h2 h3 rest h4
    obtain ⟨k, rfl⟩ : ∃ q, k = q + 1 := ⟨k - 1, by omega⟩
    rw [List.cons_append] at h4
    obtain ⟨hn, hat⟩ := next_at hs h4 e
    have hb := h4.byte
    have hl : done.length ≤ 7 := by simp at h1; omega
    have hst := number_step s m (leV done) a (a + 1) e e k done.length b hn (by simp at h1; omega) hm
    rw [or_shl _ _ _ hl (leV_range done h3) hb, ← leV_snoc] at hst
    obtain ⟨g1, g2⟩ := ih (done ++ [b]) k (a + 1) e (by simp at h1 ⊢; omega) (by simpa using h2) (fun c hc => by
      rcases List.mem_append.1 hc with h | h
      · exact h3 c h
      · simp at h; subst h; exact hb) rest hat
    rw [List.length_append, List.length_singleton] at g1
    have e1 : a + 1 + (todo.length : Int) = a + ((b :: todo).length : Nat) := by simp; omega
    rw [e1] at g1 g2
    refine ⟨hst.trans (g1.trans ?_), g2⟩
    simp
theorem number_f {s : ByteArray} (hs : s.size ≤ 9223372036854775807) {a : Int} {bs rest : List Int} {m : Nat} (h : At s a (bs ++ rest)) (hm : bs.length = m) (h8 : m ≤ 8) (k : Nat) (hk : 8 < k) (e : Bool) :
    x86_reader_number.f k s a e m = some (leV bs, s, a + m, e) ∧ At s (a + m) rest := by
  have := number_at hs m h8 bs [] k a e (by simpa using hm) (by omega) (by simp) rest h
  subst hm
  unfold x86_reader_number.f
  simpa [leV] using this
/-- Four bytes as a number. -/
theorem leV_b4 (n : Int) : wrap64 (wrap32 (leV (b4 n))) = wrap32 n := by
  have e : leV (b4 n) = n % 4294967296 := by
    simp only [b4, leV]
    omega
  rw [e]
  unfold wrap64 wrap32
  omega
theorem fits32_eq {n : Int} (h : fits32 n = true) : wrap32 n = n := by
  simp [fits32] at h
  unfold wrap32
  omega
theorem imm_at {s : ByteArray} (hs : s.size ≤ 9223372036854775807) {a n : Int} {rest : List Int} (h : At s a (b4 n ++ rest)) (hf : fits32 n = true) (k : Nat) (hk : 8 < k) (e : Bool) :
    x86_reader_imm.f k s a e = some (n, s, a + 4, e) ∧ At s (a + 4) rest := by
  obtain ⟨h1, h2⟩ := number_f (m := 4) hs h rfl (by omega) k hk e
  refine ⟨?_, by simpa using h2⟩
  unfold x86_reader_imm.f
  have h1' : x86_reader_number.f k s a e 4 = some (leV (b4 n), s, a + 4, e) := by simpa using h1
  rw [h1', Option.bind_some, leV_b4, fits32_eq hf]
theorem leV_leB (N : Nat) : ∀ m, leV (leB (N : Int) m) = ((N % 2 ^ (8 * m) : Nat) : Int)
  | 0 => by simp [leB, leV, Nat.mod_one]
  | m + 1 => by
    have hl : (leB (N : Int) m).length = m := by simp [leB]
    rw [leB_succ, leV_snoc, leV_leB N m, hl]
    have e : (2 : Nat) ^ (8 * (m + 1)) = 2 ^ (8 * m) * 256 := by rw [Nat.mul_add, Nat.pow_add]
    rw [e, Nat.mod_mul]
    simp [Int.mul_comm]
def regB (rex b : Int) : Int := b / 8 % 8 + rex / 4 % 2 * 8
def rmB (rex b : Int) : Int := b % 8 + rex % 2 * 8
theorem fields_eq (s : ByteArray) (a : Int) (e : Bool) (rex b : Int) (a' : Int) (e' : Bool) (hr : 0 ≤ rex ∧ rex < 256) (hn : x86_reader_next.f s a e = some (b, s, a', e')) :
    x86_reader_fields.f s a e rex = if b / 64 = 2 then (if b % 8 = 4 then (x86_reader_next.f s a' e').bind fun q => some (true, regB rex b, rmB rex b, q.2.1, q.2.2.1, q.2.2.2) else some (true, regB rex b, rmB rex b, s, a', e')) else some (false, regB rex b, rmB rex b, s, a', e') := by
  have hb := next_byte hn
  have e1 : Go.bits .and .u8 b 7 = b % 8 := u8_7 b hb.1 hb.2
  have e2 : Go.bits .and .u8 (b / 8) 7 = b / 8 % 8 := u8_7 _ (by omega) (by omega)
  have e3 : Go.bits .and .u8 rex 1 = rex % 2 := u8_1 rex hr.1 hr.2
  have e4 : Go.bits .and .u8 (rex / 4) 1 = rex / 4 % 2 := u8_1 _ (by omega) (by omega)
  have w : ∀ x : Int, 0 ≤ x → x < 256 → wrap64 x = x := fun x h0 h1 => by unfold wrap64; omega
  have o1 : Go.bits .or .i64 (b % 8) (rex % 2 * 8) = rmB rex b := i64_or3 _ _ (by omega) (by omega)
  have o2 : Go.bits .or .i64 (b / 8 % 8) (rex / 4 % 2 * 8) = regB rex b := i64_or3 _ _ (by omega) (by omega)
  have o3 : Go.bits .and .i64 (rmB rex b) 7 = b % 8 := by
    have := and7 (rmB rex b)
    unfold rmB at *
    rw [this]
    omega
  unfold x86_reader_fields.f
  rw [hn, Option.bind_some]
  simp only [e1, e2, e3, e4]
  rw [w (b % 8) (by omega) (by omega), w (b / 8 % 8) (by omega) (by omega), w (rex % 2) (by omega) (by omega), w (rex / 4 % 2) (by omega) (by omega), w (rex % 2 * 8) (by omega) (by omega), w (rex / 4 % 2 * 8) (by omega) (by omega), o1, o2, o3]
  by_cases c : b / 64 = 2
  · rw [if_pos c, if_pos c]; simp [c]
  · rw [if_neg c, if_neg c]; simp [c]
end Go.Proofs.Ytpahjllcomejbaa
set_option linter.unusedVariables false
set_option linter.unusedSimpArgs false
set_option linter.unusedSectionVars false
namespace Go.Proofs.Ytpahjllcomejbaa
open Go.RowKit Go.MapKept
open Go.Proofs.YtpahjllcomejbaaW.PrintWords Go.Proofs.YtpahjllcomejbaaW.PrintLast Go.Proofs.YtpahjllcomejbaaW.PrintMore
open PX86Encodes

def RR (n : Int) : Prop := 0 ≤ n ∧ n ≤ 15
theorem rex_range (w : Bool) (p q : Int) (h1 : RR p) (h2 : RR q) : 64 ≤ rexB w p q ∧ rexB w p q < 80 ∧ rexB w p q % 2 = q / 8 ∧ rexB w p q / 4 % 2 = p / 8 ∧ wideB (rexB w p q) = w := by
  unfold RR at *
  have e : rexB w p q = (if w = true then 72 else 64) + p / 8 * 4 + q / 8 := by unfold rexB; omega
  have hp : p / 8 = 0 ∨ p / 8 = 1 := by omega
  have hq : q / 8 = 0 ∨ q / 8 = 1 := by omega
  rw [e]
  cases w <;> rcases hp with hp | hp <;> rcases hq with hq | hq <;> rw [hp, hq] <;> decide
theorem dir_range (p q : Int) : dirB p q / 64 = 3 ∧ dirB p q % 8 = q % 8 ∧ dirB p q / 8 % 8 = p % 8 ∧ 0 ≤ dirB p q ∧ dirB p q < 256 := by unfold dirB; omega
theorem fields_dir {s : ByteArray} (hs : s.size ≤ 9223372036854775807) {a p q : Int} {rest : List Int} (w : Bool) (h1 : RR p) (h2 : RR q) (h : At s a (dirB p q :: rest)) (e : Bool) :
    x86_reader_fields.f s a e (rexB w p q) = some (false, p, q, s, a + 1, e) ∧ At s (a + 1) rest := by
  obtain ⟨hn, hat⟩ := next_at hs h e
  obtain ⟨r1, r2, r3, r4, r5⟩ := rex_range w p q h1 h2
  obtain ⟨d1, d2, d3, d4, d5⟩ := dir_range p q
  refine ⟨?_, hat⟩
  rw [fields_eq s a e _ _ _ _ ⟨by omega, by omega⟩ hn, if_neg (by omega)]
  unfold regB rmB RR at *
  rw [d3, d2, r3, r4, show p % 8 + p / 8 * 8 = p by omega, show q % 8 + q / 8 * 8 = q by omega]
/-- The bytes of a place, ahead of its number. -/
def memP (p q : Int) : List Int := [128 + p % 8 * 8 + q % 8] ++ (if q % 8 = 4 then [36] else [])
theorem memB_eq (p q n : Int) : memB p q n = memP p q ++ b4 n := rfl
theorem fields_mem {s : ByteArray} (hs : s.size ≤ 9223372036854775807) {a p q : Int} {rest : List Int} (w : Bool) (h1 : RR p) (h2 : RR q) (h : At s a (memP p q ++ rest)) (e : Bool) :
    x86_reader_fields.f s a e (rexB w p q) = some (true, p, q, s, a + (memP p q).length, e) ∧ At s (a + (memP p q).length) rest := by
  obtain ⟨r1, r2, r3, r4, r5⟩ := rex_range w p q h1 h2
  unfold memP at h ⊢
  by_cases c : q % 8 = 4
  · simp only [c, if_true, List.cons_append, List.nil_append, List.length_cons, List.length_nil] at h ⊢
    obtain ⟨hn, hat⟩ := next_at hs h e
    obtain ⟨hn2, hat2⟩ := next_at hs hat e
    have e2 : a + ((0 + 1 + 1 : Nat) : Int) = a + 1 + 1 := by omega
    rw [e2]
    refine ⟨?_, hat2⟩
    rw [fields_eq s a e _ _ _ _ ⟨by omega, by omega⟩ hn, if_pos (by omega), if_pos (by omega), hn2, Option.bind_some]
    unfold regB rmB RR at *
    rw [r3, r4, show (128 + p % 8 * 8 + 4) / 8 % 8 + p / 8 * 8 = p by omega, show (128 + p % 8 * 8 + 4) % 8 + q / 8 * 8 = q by omega]
  · simp only [c, if_false, List.cons_append, List.nil_append, List.length_cons, List.length_nil] at h ⊢
    obtain ⟨hn, hat⟩ := next_at hs h e
    have e2 : a + ((0 + 1 : Nat) : Int) = a + 1 := by omega
    rw [e2]
    refine ⟨?_, hat⟩
    rw [fields_eq s a e _ _ _ _ ⟨by omega, by omega⟩ hn, if_pos (by omega), if_neg (by omega)]
    unfold regB rmB RR at *
    rw [r3, r4, show (128 + p % 8 * 8 + q % 8) / 8 % 8 + p / 8 * 8 = p by omega, show (128 + p % 8 * 8 + q % 8) % 8 + q / 8 * 8 = q by omega]
theorem lowB_eq (w : Bool) (d c : Int) (h : RR d) (hc : c % 8 = 0) : lowB (rexB w 0 d) (c + d % 8) = d := by
  obtain ⟨_, _, r3, _⟩ := rex_range w 0 d ⟨by omega, by omega⟩ h
  unfold lowB RR at *
  rw [r3]
  omega
theorem u8_240 (op : Int) (h : 0 ≤ op ∧ op < 256) : Go.bits .and .u8 op 240 = op / 16 * 16 := by
  have key : ∀ n : Fin 256, bits BinOp.and IntKind.u8 (n.val : Int) 240 = (n.val : Int) / 16 * 16 := by decide +kernel
  obtain ⟨m, rfl⟩ := Int.eq_ofNat_of_zero_le h.1
  exact key ⟨m, by omega⟩
section
variable {s : ByteArray} (hs : s.size ≤ 9223372036854775807) (k : Nat) (hk : 8 < k)
include hs hk
theorem load_dir {a p q : Int} {rest : List Int} (w : Bool) (h1 : RR p) (h2 : RR q) (h : At s a (dirB p q :: rest)) (e : Bool) (m : Int) (g : Bool) :
    x86_reader_load.f k s a e (rexB w p q) m g = some (if g = true then 27 else 26, p, q, m, 0, 0, s, a + 1, e) := by
  obtain ⟨hf, _⟩ := fields_dir hs w h1 h2 h e
  unfold x86_reader_load.f
  rw [hf, Option.bind_some]
  cases g <;> simp
theorem load_mem {a p q i : Int} {rest : List Int} (w : Bool) (h1 : RR p) (h2 : RR q) (h : At s a (memB p q i ++ rest)) (e : Bool) (m : Int) (g : Bool) (hi : fits32 i = true) :
    x86_reader_load.f k s a e (rexB w p q) m g = some (if g = true then 19 else 18, p, q, m, i, 0, s, a + (memB p q i).length, e) := by
  rw [memB_eq, List.append_assoc] at h
  obtain ⟨hf, hat⟩ := fields_mem hs w h1 h2 h e
  obtain ⟨hi1, _⟩ := imm_at hs hat hi k hk e
  have hl : a + ((memB p q i).length : Int) = a + ((memP p q).length : Int) + 4 := by rw [memB_eq, List.length_append]; simp [b4]; omega
  rw [hl]
  unfold x86_reader_load.f
  rw [hf, Option.bind_some]
  cases g
  · simp only [Bool.false_eq_true, if_false, if_true]
    rw [hi1]; rfl
  · simp only [if_true]
    rw [hi1]; rfl
theorem store_dir {a p q : Int} {rest : List Int} (w : Bool) (h1 : RR p) (h2 : RR q) (h : At s a (dirB p q :: rest)) (e : Bool) (m : Int) :
    x86_reader_store.f k s a e (rexB w p q) m = some (1, q, p, 0, 0, 0, s, a + 1, e) := by
  obtain ⟨hf, _⟩ := fields_dir hs w h1 h2 h e
  unfold x86_reader_store.f
  rw [hf, Option.bind_some]
  simp
theorem store_mem {a p q i : Int} {rest : List Int} (w : Bool) (h1 : RR p) (h2 : RR q) (h : At s a (memB p q i ++ rest)) (e : Bool) (m : Int) (hi : fits32 i = true) :
    x86_reader_store.f k s a e (rexB w p q) m = some (20, q, p, m, i, 0, s, a + (memB p q i).length, e) := by
  rw [memB_eq, List.append_assoc] at h
  obtain ⟨hf, hat⟩ := fields_mem hs w h1 h2 h e
  obtain ⟨hi1, _⟩ := imm_at hs hat hi k hk e
  have hl : a + ((memB p q i).length : Int) = a + ((memP p q).length : Int) + 4 := by rw [memB_eq, List.length_append]; simp [b4]; omega
  rw [hl]
  unfold x86_reader_store.f
  rw [hf, Option.bind_some]
  simp only [if_true]
  rw [hi1]; rfl
omit hk in
theorem read_rex {a p q : Int} {rest : List Int} (w : Bool) (h1 : RR p) (h2 : RR q) (h : At s a (rexB w p q :: rest)) : readX k s a = shortF k s (a + 1) false (rexB w p q) false ∧ At s (a + 1) rest := by
  obtain ⟨hn, hat⟩ := next_at hs h false
  obtain ⟨r1, r2, _⟩ := rex_range w p q h1 h2
  refine ⟨?_, hat⟩
  unfold readX
  rw [hn, Option.bind_some]
  simp only
  rw [if_neg (by omega), if_neg (by omega), if_neg (by omega), if_neg (by omega), if_pos ⟨r1, r2⟩]
omit hk in
theorem short_at {a op : Int} {rest : List Int} (h : At s a (op :: rest)) (e : Bool) (rex : Int) (half : Bool) : shortF k s a e rex half = shortT k op s (a + 1) e rex half ∧ At s (a + 1) rest := by
  obtain ⟨hn, hat⟩ := next_at hs h e
  refine ⟨?_, hat⟩
  unfold shortF
  rw [hn, Option.bind_some]
omit hk in
theorem rex_op {a p q op : Int} {rest : List Int} (w : Bool) (h1 : RR p) (h2 : RR q) (h : At s a (rexB w p q :: op :: rest)) : readX k s a = shortT k op s (a + 2) false (rexB w p q) false ∧ At s (a + 2) rest := by
  obtain ⟨e1, h'⟩ := read_rex hs k w h1 h2 h
  obtain ⟨e2, h''⟩ := short_at hs k h' false (rexB w p q) false
  rw [show a + 1 + 1 = a + 2 by omega] at e2 h''
  exact ⟨e1.trans e2, h''⟩
theorem read_two {a d t op kd : Int} {rest : List Int} (h1 : RR d) (h2 : RR t) (hop : (op = 1 ∧ kd = 3) ∨ (op = 41 ∧ kd = 4) ∨ (op = 33 ∧ kd = 5) ∨ (op = 9 ∧ kd = 6) ∨ (op = 49 ∧ kd = 7) ∨ (op = 57 ∧ kd = 8) ∨ (op = 133 ∧ kd = 9)) (h : At s a ([rexB true t d, op, dirB t d] ++ rest)) :
    readX k s a = some (kd, d, t, 0, 0, 0, s, a + 3, false) := by
  obtain ⟨e1, h'⟩ := rex_op hs k true h2 h1 h
  obtain ⟨hf, _⟩ := fields_dir hs true h2 h1 h' false
  rw [e1]
  have e3 : a + 2 + 1 = a + 3 := by omega
  rw [e3] at hf
  rcases hop with ⟨rfl, rfl⟩ | ⟨rfl, rfl⟩ | ⟨rfl, rfl⟩ | ⟨rfl, rfl⟩ | ⟨rfl, rfl⟩ | ⟨rfl, rfl⟩ | ⟨rfl, rfl⟩ <;>
  · unfold shortT
    rw [if_neg (by decide), if_neg (by decide), if_neg (by decide), if_neg (by decide), if_neg (by decide), if_neg (by decide), if_neg (by decide), if_neg (by decide), if_neg (by decide), if_neg (by decide), hf]
    rfl
theorem read_one {a d op v kd : Int} {rest : List Int} (h1 : RR d) (hop : (op = 211 ∧ v = 4 ∧ kd = 11) ∨ (op = 211 ∧ v = 5 ∧ kd = 12) ∨ (op = 211 ∧ v = 7 ∧ kd = 13) ∨ (op = 247 ∧ v = 3 ∧ kd = 14) ∨ (op = 247 ∧ v = 6 ∧ kd = 15) ∨ (op = 247 ∧ v = 7 ∧ kd = 16)) (h : At s a ([rexB true 0 d, op, dirB v d] ++ rest)) :
    readX k s a = some (kd, d, 0, 0, 0, 0, s, a + 3, false) := by
  have hr : rexB true 0 d = rexB true v d := by
    unfold rexB
    rcases hop with h | h | h | h | h | h <;> rw [h.2.1] <;> rfl
  have hv : RR v := by unfold RR; omega
  rw [hr] at h
  obtain ⟨e1, h'⟩ := rex_op hs k true hv h1 h
  obtain ⟨hf, _⟩ := fields_dir hs true hv h1 h' false
  rw [e1]
  have e3 : a + 2 + 1 = a + 3 := by omega
  rw [e3] at hf
  rcases hop with ⟨rfl, rfl, rfl⟩ | ⟨rfl, rfl, rfl⟩ | ⟨rfl, rfl, rfl⟩ | ⟨rfl, rfl, rfl⟩ | ⟨rfl, rfl, rfl⟩ | ⟨rfl, rfl, rfl⟩ <;>
  · unfold shortT
    rw [if_neg (by decide), if_neg (by decide), if_neg (by decide), if_neg (by decide), if_neg (by decide), if_neg (by decide), if_neg (by decide), if_neg (by decide), if_neg (by decide), if_pos (by decide), hf]
    rfl
theorem read_2 {a d wd : Int} {rest : List Int} (h1 : RR d) (hw : 0 ≤ wd ∧ wd < 18446744073709551616) (h : At s a ([rexB true 0 d, 184 + d % 8] ++ leB wd 8 ++ rest)) : readX k s a = some (2, d, 0, 0, 0, wd, s, a + 10, false) := by
  rw [List.append_assoc] at h
  obtain ⟨e1, h'⟩ := rex_op hs k true ⟨by omega, by omega⟩ h1 h
  obtain ⟨hf, _⟩ := number_f (bs := leB wd 8) (rest := rest) (m := 8) hs h' (by simp [leB]) (by omega) k hk false
  rw [e1]
  unfold shortT
  rw [if_neg (by omega), if_pos (by omega), lowB_eq true d 184 h1 (by decide)]
  have hv : leV (leB wd 8) = wd := by
    obtain ⟨Nw, rfl⟩ := Int.eq_ofNat_of_zero_le hw.1
    rw [leV_leB Nw 8]
    have : Nw % 2 ^ (8 * 8) = Nw := Nat.mod_eq_of_lt (by have := hw.2; omega)
    rw [this]
  rw [hv] at hf
  have hf' : x86_reader_number.f k s (a + 2) false 8 = some (wd, s, a + 2 + 8, false) := by simpa using hf
  rw [hf', Option.bind_some]
  have : a + 2 + 8 = a + 10 := by omega
  simp [this]
theorem read_push {a d : Int} {rest : List Int} (kd c : Int) (hc : (kd = 23 ∧ c = 80) ∨ (kd = 24 ∧ c = 88)) (h1 : RR d) (h : At s a ([rexB false 0 d, c + d % 8] ++ rest)) : readX k s a = some (kd, d, 0, 0, 0, 0, s, a + 2, false) := by
  obtain ⟨e1, h'⟩ := rex_op hs k false ⟨by omega, by omega⟩ h1 h
  rw [e1]
  unfold shortT
  rcases hc with ⟨rfl, rfl⟩ | ⟨rfl, rfl⟩
  · rw [if_neg (by omega), if_neg (by omega), if_pos (by omega), lowB_eq false d 80 h1 (by decide)]
  · rw [if_neg (by omega), if_neg (by omega), if_neg (by omega), if_pos (by omega), lowB_eq false d 88 h1 (by decide)]
omit hk in
/-- Behind a prefix, and 0x0F. -/
theorem rex_long {a p q : Int} {rest : List Int} (w : Bool) (h1 : RR p) (h2 : RR q) (h : At s a (rexB w p q :: 15 :: rest)) : readX k s a = x86_reader_long.f k s (a + 2) false (rexB w p q) ∧ At s (a + 2) rest := by
  obtain ⟨e1, h'⟩ := rex_op hs k w h1 h2 h
  refine ⟨?_, h'⟩
  rw [e1]
  unfold shortT
  rw [if_pos rfl]
theorem long_load {a op p q rex m i : Int} {g : Bool} {rest : List Int} (hop : (op = 182 ∧ m = 1 ∧ g = false) ∨ (op = 183 ∧ m = 2 ∧ g = false) ∨ (op = 190 ∧ m = 1 ∧ g = true) ∨ (op = 191 ∧ m = 2 ∧ g = true)) (e : Bool) (h : At s a (op :: rest)) :
    x86_reader_long.f k s a e rex = x86_reader_load.f k s (a + 1) e rex m g := by
  obtain ⟨hn, hat⟩ := next_at hs h e
  unfold x86_reader_long.f
  rw [hn, Option.bind_some]
  have nb : ∀ o : Option X9, (o.bind fun b => some (b.1, b.2.1, b.2.2.1, b.2.2.2.1, b.2.2.2.2.1, b.2.2.2.2.2.1, b.2.2.2.2.2.2.1, b.2.2.2.2.2.2.2.1, b.2.2.2.2.2.2.2.2)) = o := fun o => by cases o <;> rfl
  dsimp only
  rcases hop with ⟨rfl, rfl, rfl⟩ | ⟨rfl, rfl, rfl⟩ | ⟨rfl, rfl, rfl⟩ | ⟨rfl, rfl, rfl⟩
  · have q1 : wrap64 (wrap64 (Go.bits .and .u8 182 1) + 1) = 1 := by rw [show Go.bits .and .u8 (182 : Int) 1 = 1 - 1 by decide]; unfold wrap64; omega
    have q2 : decide ((182 : Int) ≥ 190) = false := by decide
    rw [if_neg (by decide), if_neg (by decide), if_neg (by decide), if_neg (by decide), if_pos (by decide), q1, q2]
    exact nb _
  · have q1 : wrap64 (wrap64 (Go.bits .and .u8 183 1) + 1) = 2 := by rw [show Go.bits .and .u8 (183 : Int) 1 = 2 - 1 by decide]; unfold wrap64; omega
    have q2 : decide ((183 : Int) ≥ 190) = false := by decide
    rw [if_neg (by decide), if_neg (by decide), if_neg (by decide), if_neg (by decide), if_neg (by decide), if_pos (by decide), q1, q2]
    exact nb _
  · have q1 : wrap64 (wrap64 (Go.bits .and .u8 190 1) + 1) = 1 := by rw [show Go.bits .and .u8 (190 : Int) 1 = 1 - 1 by decide]; unfold wrap64; omega
    have q2 : decide ((190 : Int) ≥ 190) = true := by decide
    rw [if_neg (by decide), if_neg (by decide), if_neg (by decide), if_neg (by decide), if_neg (by decide), if_neg (by decide), if_pos (by decide), q1, q2]
    exact nb _
  · have q1 : wrap64 (wrap64 (Go.bits .and .u8 191 1) + 1) = 2 := by rw [show Go.bits .and .u8 (191 : Int) 1 = 2 - 1 by decide]; unfold wrap64; omega
    have q2 : decide ((191 : Int) ≥ 190) = true := by decide
    rw [if_neg (by decide), if_neg (by decide), if_neg (by decide), if_neg (by decide), if_neg (by decide), if_neg (by decide), if_neg (by decide), if_pos (by decide), q1, q2]
    exact nb _
theorem read_10 {a d t : Int} {rest : List Int} (h1 : RR d) (h2 : RR t) (h : At s a ([rexB true d t, 15, 175, dirB d t] ++ rest)) : readX k s a = some (10, d, t, 0, 0, 0, s, a + 4, false) := by
  obtain ⟨e1, h'⟩ := rex_long hs k true h1 h2 h
  obtain ⟨hn, hat⟩ := next_at hs h' false
  obtain ⟨hf, _⟩ := fields_dir hs true h1 h2 hat false
  rw [e1]
  unfold x86_reader_long.f
  rw [hn, Option.bind_some]
  dsimp only
  rw [if_neg (by decide), if_neg (by decide), if_neg (by decide), if_pos (by decide), hf, Option.bind_some]
  have : a + 2 + 1 + 1 = a + 4 := by omega
  simp [this]
theorem read_25 {a d : Int} {rest : List Int} (h1 : RR d) (h : At s a ([rexB true 0 d, 15, 200 + d % 8] ++ rest)) : readX k s a = some (25, d, 0, 0, 0, 0, s, a + 3, false) := by
  obtain ⟨e1, h'⟩ := rex_long hs k true ⟨by omega, by omega⟩ h1 h
  obtain ⟨hn, hat⟩ := next_at hs h' false
  have hb := next_byte hn
  have h240 := u8_240 _ hb
  have h248 : Go.bits .and .u8 (200 + d % 8) 248 = (200 + d % 8) / 8 * 8 := u8_248 _ hb
  have h7 : Go.bits .and .u8 (200 + d % 8) 7 = (200 + d % 8) % 8 := u8_7 _ hb.1 hb.2
  obtain ⟨r1, r2, r3, r4, r5⟩ := rex_range true 0 d ⟨by omega, by omega⟩ h1
  have h1' : Go.bits .and .u8 (rexB true 0 d) 1 = rexB true 0 d % 2 := u8_1 _ (by omega) (by omega)
  have w : ∀ x : Int, 0 ≤ x → x < 256 → wrap64 x = x := fun x h0 h1 => by unfold wrap64; omega
  rw [e1]
  unfold x86_reader_long.f
  unfold RR at h1
  rw [hn, Option.bind_some]
  simp only [h240, h248, h7, h1', r3]
  rw [if_neg (by omega), if_neg (by omega), if_pos (by omega), w _ (by omega) (by omega), w (d / 8) (by omega) (by omega), w (d / 8 * 8) (by omega) (by omega)]
  have o1 : Go.bits .or .i64 ((200 + d % 8) % 8) (d / 8 * 8) = (200 + d % 8) % 8 + d / 8 * 8 := i64_or3 _ _ (by omega) (by omega)
  rw [o1, show (200 + d % 8) % 8 + d / 8 * 8 = d by omega, show a + 2 + 1 = a + 3 by omega]
theorem read_17 {a : Int} {rest : List Int} (h : At s a ([72, 153] ++ rest)) : readX k s a = some (17, 0, 0, 0, 0, 0, s, a + 2, false) := by
  obtain ⟨e1, h'⟩ := rex_op hs k (p := 0) (q := 0) (op := 153) (rest := rest) true ⟨by omega, by omega⟩ ⟨by omega, by omega⟩ h
  rw [e1]
  unfold shortT
  rw [if_neg (by decide), if_neg (by decide), if_neg (by decide), if_neg (by decide), if_pos rfl]
theorem read_28 {a : Int} {rest : List Int} (h : At s a ([15, 5] ++ rest)) : readX k s a = some (28, 0, 0, 0, 0, 0, s, a + 2, false) := by
  obtain ⟨hn, hat⟩ := next_at hs h false
  obtain ⟨hn2, hat2⟩ := next_at hs hat false
  unfold readX
  rw [hn, Option.bind_some]
  simp only
  rw [if_neg (by decide), if_neg (by decide), if_pos trivial]
  unfold x86_reader_long.f
  rw [hn2, Option.bind_some, if_pos rfl, show a + 1 + 1 = a + 2 by omega]
theorem read_29 {a : Int} {rest : List Int} (h : At s a ([195] ++ rest)) : readX k s a = some (29, 0, 0, 0, 0, 0, s, a + 1, false) := by
  obtain ⟨hn, hat⟩ := next_at hs h false
  unfold readX
  rw [hn, Option.bind_some]
  simp only
  rw [if_pos trivial]
theorem read_21 {a i : Int} {rest : List Int} (hi : fits32 i = true) (h : At s a ([233] ++ b4 i ++ rest)) : readX k s a = some (21, 0, 0, 0, i, 0, s, a + 5, false) := by
  rw [List.append_assoc] at h
  obtain ⟨hn, hat⟩ := next_at hs h false
  obtain ⟨hi1, _⟩ := imm_at hs hat hi k hk false
  unfold readX
  rw [hn, Option.bind_some]
  simp only
  rw [if_neg (by decide), if_pos trivial, hi1, Option.bind_some, show a + 1 + 4 = a + 5 by omega]
theorem read_22 {a d i : Int} {rest : List Int} (hd : okCond d = true) (hi : fits32 i = true) (h : At s a ([15, 128 + d % 16] ++ b4 i ++ rest)) : readX k s a = some (22, d, 0, 0, i, 0, s, a + 6, false) := by
  have hd' : 2 ≤ d ∧ d ≤ 15 := by simp [okCond] at hd; omega
  rw [List.append_assoc] at h
  obtain ⟨hn, hat⟩ := next_at hs h false
  obtain ⟨hn2, hat2⟩ := next_at hs hat false
  obtain ⟨hi1, _⟩ := imm_at hs hat2 hi k hk false
  have hb := next_byte hn2
  have h240 := u8_240 _ hb
  have h15 : Go.bits .and .u8 (128 + d % 16) 15 = (128 + d % 16) % 16 := u8_and15 _ hb.1 hb.2
  have w : ∀ x : Int, 0 ≤ x → x < 256 → wrap64 x = x := fun x h0 h1 => by unfold wrap64; omega
  unfold readX
  rw [hn, Option.bind_some]
  simp only
  rw [if_neg (by decide), if_neg (by decide), if_pos trivial]
  unfold x86_reader_long.f
  rw [hn2, Option.bind_some]
  simp only [h240, h15]
  rw [if_neg (by omega), if_pos (by omega), hi1, Option.bind_some, w _ (by omega) (by omega), show (128 + d % 16) % 16 = d by omega, show a + 1 + 1 + 4 = a + 6 by omega]
end
end Go.Proofs.Ytpahjllcomejbaa
set_option linter.unusedVariables false
set_option linter.unusedSimpArgs false
set_option linter.unusedSectionVars false
namespace Go.Proofs.Ytpahjllcomejbaa
open Go.RowKit Go.MapKept
open Go.Proofs.YtpahjllcomejbaaW.PrintWords Go.Proofs.YtpahjllcomejbaaW.PrintLast Go.Proofs.YtpahjllcomejbaaW.PrintMore
open PX86Encodes

theorem rr_of {d : Int} (h : outReg d = false) : RR d := by simp [outReg] at h; unfold RR; omega
theorem rr_of2 {d t : Int} (h : out2 d t = false) : RR d ∧ RR t := by simp [out2] at h; exact ⟨rr_of h.1, rr_of h.2⟩
section
variable {s : ByteArray} (hs : s.size ≤ 9223372036854775807) (k : Nat) (hk : 8 < k)
include hs hk
theorem read_139 {a p q : Int} {l rest : List Int} (w : Bool) (h1 : RR p) (h2 : RR q) (h : At s a (rexB w p q :: 139 :: (l ++ rest))) : readX k s a = x86_reader_load.f k s (a + 2) false (rexB w p q) (if w = true then 8 else 4) false ∧ At s (a + 2) (l ++ rest) := by
  obtain ⟨e1, h'⟩ := rex_op hs k w h1 h2 h
  obtain ⟨_, _, _, _, r5⟩ := rex_range w p q h1 h2
  refine ⟨?_, h'⟩
  rw [e1]
  unfold shortT
  rw [if_neg (by decide), if_neg (by decide), if_neg (by decide), if_neg (by decide), if_neg (by decide), if_neg (by decide), if_pos rfl, r5]
  cases w <;> rfl
theorem read_99 {a p q : Int} {l rest : List Int} (w : Bool) (h1 : RR p) (h2 : RR q) (h : At s a (rexB w p q :: 99 :: (l ++ rest))) : readX k s a = x86_reader_load.f k s (a + 2) false (rexB w p q) 4 true ∧ At s (a + 2) (l ++ rest) := by
  obtain ⟨e1, h'⟩ := rex_op hs k w h1 h2 h
  refine ⟨?_, h'⟩
  rw [e1]
  unfold shortT
  rw [if_neg (by decide), if_neg (by decide), if_neg (by decide), if_neg (by decide), if_neg (by decide), if_pos rfl]
theorem read_15 {a p q op m : Int} {g : Bool} {l rest : List Int} (hop : (op = 182 ∧ m = 1 ∧ g = false) ∨ (op = 183 ∧ m = 2 ∧ g = false) ∨ (op = 190 ∧ m = 1 ∧ g = true) ∨ (op = 191 ∧ m = 2 ∧ g = true)) (w : Bool) (h1 : RR p) (h2 : RR q) (h : At s a (rexB w p q :: 15 :: op :: (l ++ rest))) :
    readX k s a = x86_reader_load.f k s (a + 3) false (rexB w p q) m g ∧ At s (a + 3) (l ++ rest) := by
  obtain ⟨e1, h'⟩ := rex_long hs k w h1 h2 h
  have e2 := long_load hs k hk (p := p) (q := q) (i := 0) (rex := rexB w p q) hop false h'
  obtain ⟨_, _, _, h''⟩ := h'.cons
  have e3 : a + 2 + 1 = a + 3 := by omega
  rw [e3] at e2 h''
  exact ⟨e1.trans e2, h''⟩
theorem read_13x {a p q op : Int} {l rest : List Int} (w : Bool) (hop : (op = 136 ∧ w = false) ∨ op = 137) (h1 : RR p) (h2 : RR q) (h : At s a (rexB w p q :: op :: (l ++ rest))) :
    readX k s a = x86_reader_store.f k s (a + 2) false (rexB w p q) (if op = 136 then 1 else if w = true then 8 else 4) ∧ At s (a + 2) (l ++ rest) := by
  obtain ⟨e1, h'⟩ := rex_op hs k w h1 h2 h
  obtain ⟨_, _, _, _, r5⟩ := rex_range w p q h1 h2
  refine ⟨?_, h'⟩
  rw [e1]
  unfold shortT
  rcases hop with ⟨rfl, rfl⟩ | rfl
  · rw [if_neg (by decide), if_neg (by decide), if_neg (by decide), if_neg (by decide), if_neg (by decide), if_neg (by decide), if_neg (by decide), if_pos rfl, if_pos rfl]
  · rw [if_neg (by decide), if_neg (by decide), if_neg (by decide), if_neg (by decide), if_neg (by decide), if_neg (by decide), if_neg (by decide), if_neg (by decide), if_pos rfl, r5]
    cases w <;> simp
theorem read_half {a p q : Int} {l rest : List Int} (h1 : RR p) (h2 : RR q) (h : At s a (102 :: rexB false p q :: 137 :: (l ++ rest))) :
    readX k s a = x86_reader_store.f k s (a + 3) false (rexB false p q) 2 ∧ At s (a + 3) (l ++ rest) := by
  obtain ⟨hn, hat⟩ := next_at hs h false
  obtain ⟨hn2, hat2⟩ := next_at hs hat false
  obtain ⟨e2, h''⟩ := short_at hs k hat2 false (rexB false p q) true
  have e3 : a + 1 + 1 + 1 = a + 3 := by omega
  rw [e3] at e2 h''
  refine ⟨?_, h''⟩
  unfold readX
  rw [hn, Option.bind_some]
  dsimp only
  rw [if_neg (by decide), if_neg (by decide), if_neg (by decide), if_pos rfl, hn2, Option.bind_some]
  dsimp only
  rw [e2]
  unfold shortT
  rw [if_neg (by decide), if_neg (by decide), if_neg (by decide), if_neg (by decide), if_neg (by decide), if_neg (by decide), if_neg (by decide), if_neg (by decide), if_pos rfl, if_pos rfl]
/-- All that a kind may say of its bytes. -/
def Reads (kd d t n i wd : Int) : Prop := ∀ (a : Int) (rest : List Int), At s a ((layS kd d t n i wd).1 ++ rest) → readX k s a = some (kd, d, t, n, i, wd, s, a + ((layS kd d t n i wd).1.length : Nat), false)
theorem reads_of {kd d t n i wd : Int} {bs : List Int} (e : (layS kd d t n i wd).1 = bs) (m : Int) (hm : (bs.length : Int) = m) (h : ∀ (a : Int) (rest : List Int), At s a (bs ++ rest) → readX k s a = some (kd, d, t, n, i, wd, s, a + m, false)) : Reads (s := s) k kd d t n i wd := by
  intro a rest hat
  rw [e] at hat ⊢
  rw [hm]
  exact h a rest hat
set_option maxHeartbeats 4000000 in
theorem read_all (kd d t n i wd : Int) (hb : bareS kd d t n i wd = (kd, d, t, n, i, wd)) (hq : (layS kd d t n i wd).2 = false) (hw : 0 ≤ wd ∧ wd < 18446744073709551616) : Reads (s := s) k kd d t n i wd := by
  have two : ∀ op, op ≠ 0 → twoB kd = op → RR d ∧ RR t := fun op h0 h => rr_of2 (by
    unfold layS at hq
    rw [if_pos (by rw [h]; exact h0)] at hq
    exact hq)
  by_cases c1 : kd = 1
  · subst c1
    obtain ⟨h1, h2⟩ := two 137 (by decide) (by decide)
    simp [bareS] at hb
    obtain ⟨rfl, rfl, rfl⟩ := hb
    refine reads_of hs k hk (bs := [rexB true t d, 137, dirB t d]) (by simp [layS, twoB]) 3 rfl fun a rest h => ?_
    obtain ⟨e1, h'⟩ := read_13x hs k hk (l := [dirB t d]) true (.inr rfl) h2 h1 h
    rw [e1, store_dir hs k hk true h2 h1 h', show a + 2 + 1 = a + 3 by omega]
  by_cases cT : kd = 3 ∨ kd = 4 ∨ kd = 5 ∨ kd = 6 ∨ kd = 7 ∨ kd = 8 ∨ kd = 9
  · have ht : twoB kd ≠ 0 := by rcases cT with rfl | rfl | rfl | rfl | rfl | rfl | rfl <;> decide
    obtain ⟨h1, h2⟩ := two _ ht rfl
    have hbb : n = 0 ∧ i = 0 ∧ wd = 0 := by
      rcases cT with rfl | rfl | rfl | rfl | rfl | rfl | rfl <;> (simp [bareS] at hb; obtain ⟨rfl, rfl, rfl⟩ := hb; exact ⟨rfl, rfl, rfl⟩)
    obtain ⟨rfl, rfl, rfl⟩ := hbb
    refine reads_of hs k hk (bs := [rexB true t d, twoB kd, dirB t d]) (by unfold layS; rw [if_pos ht]) 3 rfl fun a rest h => ?_
    refine read_two hs k hk h1 h2 (op := twoB kd) ?_ h
    rcases cT with rfl | rfl | rfl | rfl | rfl | rfl | rfl <;> decide
  by_cases cO : kd = 11 ∨ kd = 12 ∨ kd = 13 ∨ kd = 14 ∨ kd = 15 ∨ kd = 16
  · have ht : twoB kd = 0 := by rcases cO with rfl | rfl | rfl | rfl | rfl | rfl <;> decide
    have ho : (oneB kd).1 ≠ 0 := oneB_ne kd (by omega)
    have hbb : t = 0 ∧ n = 0 ∧ i = 0 ∧ wd = 0 := by
      rcases cO with rfl | rfl | rfl | rfl | rfl | rfl <;> (simp [bareS] at hb; obtain ⟨rfl, rfl, rfl, rfl⟩ := hb; exact ⟨rfl, rfl, rfl, rfl⟩)
    obtain ⟨rfl, rfl, rfl, rfl⟩ := hbb
    have e : layS kd d 0 0 0 0 = ([rexB true 0 d, (oneB kd).1, dirB (oneB kd).2 d], outReg d) := by unfold layS; rw [if_neg (by simp [ht]), if_pos ho]
    have h1 : RR d := rr_of (by rw [e] at hq; exact hq)
    refine reads_of hs k hk (congrArg Prod.fst e) 3 rfl fun a rest h => ?_
    refine read_one hs k hk h1 (op := (oneB kd).1) (v := (oneB kd).2) ?_ h
    rcases cO with rfl | rfl | rfl | rfl | rfl | rfl <;> decide
  by_cases c18 : kd = 18
  · subst c18
    simp [bareS] at hb
    subst hb
    have e : layS 18 d t n i 0 = ([rexB (readsB n false).1 d t] ++ (readsB n false).2 ++ memB d t i, out2 d t || ((readsB n false).2 == []) || !fits32 i) := by simp [layS, twoB, oneB]
    rw [e] at hq
    simp only [Bool.or_eq_false_iff, Bool.not_eq_false'] at hq
    obtain ⟨⟨q1, q2⟩, q3⟩ := hq
    obtain ⟨h1, h2⟩ := rr_of2 q1
    by_cases n8 : n = 8
    · subst n8
      refine reads_of hs k hk (bs := [rexB true d t, 139] ++ memB d t i) (by rw [e]; simp [readsB]) (2 + (memB d t i).length) (by simp; omega) fun a rest h => ?_
      obtain ⟨e1, h'⟩ := read_139 hs k hk (l := memB d t i) true h1 h2 (by simpa using h)
      rw [e1, if_pos rfl, load_mem hs k hk true h1 h2 h' false 8 false q3, Int.add_assoc]; rfl
    by_cases n4 : n = 4
    · subst n4
      refine reads_of hs k hk (bs := [rexB false d t, 139] ++ memB d t i) (by rw [e]; simp [readsB]) (2 + (memB d t i).length) (by simp; omega) fun a rest h => ?_
      obtain ⟨e1, h'⟩ := read_139 hs k hk (l := memB d t i) false h1 h2 (by simpa using h)
      rw [e1, if_neg (by simp), load_mem hs k hk false h1 h2 h' false 4 false q3, Int.add_assoc]; rfl
    by_cases n2 : n = 2
    · subst n2
      refine reads_of hs k hk (bs := [rexB true d t, 15, 183] ++ memB d t i) (by rw [e]; simp [readsB]) (3 + (memB d t i).length) (by simp; omega) fun a rest h => ?_
      obtain ⟨e1, h'⟩ := read_15 hs k hk (l := memB d t i) (op := 183) (m := 2) (g := false) (by decide) true h1 h2 (by simpa using h)
      rw [e1, load_mem hs k hk true h1 h2 h' false 2 false q3, Int.add_assoc]; rfl
    by_cases n1 : n = 1
    · subst n1
      refine reads_of hs k hk (bs := [rexB true d t, 15, 182] ++ memB d t i) (by rw [e]; simp [readsB]) (3 + (memB d t i).length) (by simp; omega) fun a rest h => ?_
      obtain ⟨e1, h'⟩ := read_15 hs k hk (l := memB d t i) (op := 182) (m := 1) (g := false) (by decide) true h1 h2 (by simpa using h)
      rw [e1, load_mem hs k hk true h1 h2 h' false 1 false q3, Int.add_assoc]; rfl
    simp [readsB, n8, n4, n2, n1] at q2
  by_cases c19 : kd = 19
  · subst c19
    simp [bareS] at hb
    subst hb
    have e : layS 19 d t n i 0 = ([rexB (readsB n true).1 d t] ++ (readsB n true).2 ++ memB d t i, out2 d t || ((readsB n true).2 == []) || !fits32 i) := by simp [layS, twoB, oneB]
    rw [e] at hq
    simp only [Bool.or_eq_false_iff, Bool.not_eq_false'] at hq
    obtain ⟨⟨q1, q2⟩, q3⟩ := hq
    obtain ⟨h1, h2⟩ := rr_of2 q1
    by_cases n4 : n = 4
    · subst n4
      refine reads_of hs k hk (bs := [rexB true d t, 99] ++ memB d t i) (by rw [e]; simp [readsB]) (2 + (memB d t i).length) (by simp; omega) fun a rest h => ?_
      obtain ⟨e1, h'⟩ := read_99 hs k hk (l := memB d t i) true h1 h2 (by simpa using h)
      rw [e1, load_mem hs k hk true h1 h2 h' false 4 true q3, Int.add_assoc]; rfl
    by_cases n2 : n = 2
    · subst n2
      refine reads_of hs k hk (bs := [rexB true d t, 15, 191] ++ memB d t i) (by rw [e]; simp [readsB]) (3 + (memB d t i).length) (by simp; omega) fun a rest h => ?_
      obtain ⟨e1, h'⟩ := read_15 hs k hk (l := memB d t i) (op := 191) (m := 2) (g := true) (by decide) true h1 h2 (by simpa using h)
      rw [e1, load_mem hs k hk true h1 h2 h' false 2 true q3, Int.add_assoc]; rfl
    by_cases n1 : n = 1
    · subst n1
      refine reads_of hs k hk (bs := [rexB true d t, 15, 190] ++ memB d t i) (by rw [e]; simp [readsB]) (3 + (memB d t i).length) (by simp; omega) fun a rest h => ?_
      obtain ⟨e1, h'⟩ := read_15 hs k hk (l := memB d t i) (op := 190) (m := 1) (g := true) (by decide) true h1 h2 (by simpa using h)
      rw [e1, load_mem hs k hk true h1 h2 h' false 1 true q3, Int.add_assoc]; rfl
    simp [readsB, n4, n2, n1] at q2
  by_cases c26 : kd = 26
  · subst c26
    simp [bareS] at hb
    obtain ⟨rfl, rfl⟩ := hb
    have e : layS 26 d t n 0 0 = ([rexB (readsB n false).1 d t] ++ (readsB n false).2 ++ [dirB d t], out2 d t || ((readsB n false).2 == []) || (decide (n ≠ 2) && decide (n ≠ 4))) := by simp [layS, twoB, oneB]
    rw [e] at hq
    simp only [Bool.or_eq_false_iff] at hq
    obtain ⟨⟨q1, q2⟩, q3⟩ := hq
    obtain ⟨h1, h2⟩ := rr_of2 q1
    by_cases n4 : n = 4
    · subst n4
      refine reads_of hs k hk (bs := [rexB false d t, 139] ++ [dirB d t]) (by rw [e]; simp [readsB]) 3 (by simp) fun a rest h => ?_
      obtain ⟨e1, h'⟩ := read_139 hs k hk (l := [dirB d t]) false h1 h2 (by simpa using h)
      rw [e1, if_neg (by simp), load_dir hs k hk false h1 h2 h' false 4 false, Int.add_assoc]; rfl
    by_cases n2 : n = 2
    · subst n2
      refine reads_of hs k hk (bs := [rexB true d t, 15, 183] ++ [dirB d t]) (by rw [e]; simp [readsB]) 4 (by simp) fun a rest h => ?_
      obtain ⟨e1, h'⟩ := read_15 hs k hk (l := [dirB d t]) (op := 183) (m := 2) (g := false) (by decide) true h1 h2 (by simpa using h)
      rw [e1, load_dir hs k hk true h1 h2 h' false 2 false, Int.add_assoc]; rfl
    simp [n4, n2] at q3
  by_cases c27 : kd = 27
  · subst c27
    simp [bareS] at hb
    obtain ⟨rfl, rfl⟩ := hb
    have e : layS 27 d t n 0 0 = ([rexB (readsB n true).1 d t] ++ (readsB n true).2 ++ [dirB d t], out2 d t || ((readsB n true).2 == [])) := by simp [layS, twoB, oneB]
    rw [e] at hq
    simp only [Bool.or_eq_false_iff] at hq
    obtain ⟨q1, q2⟩ := hq
    obtain ⟨h1, h2⟩ := rr_of2 q1
    by_cases n4 : n = 4
    · subst n4
      refine reads_of hs k hk (bs := [rexB true d t, 99] ++ [dirB d t]) (by rw [e]; simp [readsB]) 3 (by simp) fun a rest h => ?_
      obtain ⟨e1, h'⟩ := read_99 hs k hk (l := [dirB d t]) true h1 h2 (by simpa using h)
      rw [e1, load_dir hs k hk true h1 h2 h' false 4 true, Int.add_assoc]; rfl
    by_cases n2 : n = 2
    · subst n2
      refine reads_of hs k hk (bs := [rexB true d t, 15, 191] ++ [dirB d t]) (by rw [e]; simp [readsB]) 4 (by simp) fun a rest h => ?_
      obtain ⟨e1, h'⟩ := read_15 hs k hk (l := [dirB d t]) (op := 191) (m := 2) (g := true) (by decide) true h1 h2 (by simpa using h)
      rw [e1, load_dir hs k hk true h1 h2 h' false 2 true, Int.add_assoc]; rfl
    by_cases n1 : n = 1
    · subst n1
      refine reads_of hs k hk (bs := [rexB true d t, 15, 190] ++ [dirB d t]) (by rw [e]; simp [readsB]) 4 (by simp) fun a rest h => ?_
      obtain ⟨e1, h'⟩ := read_15 hs k hk (l := [dirB d t]) (op := 190) (m := 1) (g := true) (by decide) true h1 h2 (by simpa using h)
      rw [e1, load_dir hs k hk true h1 h2 h' false 1 true, Int.add_assoc]; rfl
    simp [readsB, n4, n2, n1] at q2
  by_cases c20 : kd = 20
  · subst c20
    simp [bareS] at hb
    subst hb
    have e : layS 20 d t n i 0 = (storeB d t n i, out2 d t || !okSize n || !fits32 i) := by simp [layS, twoB, oneB]
    rw [e] at hq
    simp only [Bool.or_eq_false_iff, Bool.not_eq_false'] at hq
    obtain ⟨⟨q1, q2⟩, q3⟩ := hq
    obtain ⟨h1, h2⟩ := rr_of2 q1
    by_cases n8 : n = 8
    · subst n8
      refine reads_of hs k hk (bs := [rexB true t d, 137] ++ memB t d i) (by rw [e]; simp [storeB]) (2 + (memB t d i).length) (by simp; omega) fun a rest h => ?_
      obtain ⟨e1, h'⟩ := read_13x hs k hk (l := memB t d i) true (.inr rfl) h2 h1 (by simpa using h)
      rw [e1, store_mem hs k hk true h2 h1 h' false _ q3, Int.add_assoc]; rfl
    by_cases n4 : n = 4
    · subst n4
      refine reads_of hs k hk (bs := [rexB false t d, 137] ++ memB t d i) (by rw [e]; simp [storeB]) (2 + (memB t d i).length) (by simp; omega) fun a rest h => ?_
      obtain ⟨e1, h'⟩ := read_13x hs k hk (l := memB t d i) false (.inr rfl) h2 h1 (by simpa using h)
      rw [e1, store_mem hs k hk false h2 h1 h' false _ q3, Int.add_assoc]; rfl
    by_cases n1 : n = 1
    · subst n1
      refine reads_of hs k hk (bs := [rexB false t d, 136] ++ memB t d i) (by rw [e]; simp [storeB]) (2 + (memB t d i).length) (by simp; omega) fun a rest h => ?_
      obtain ⟨e1, h'⟩ := read_13x hs k hk (l := memB t d i) false (.inl ⟨rfl, rfl⟩) h2 h1 (by simpa using h)
      rw [e1, store_mem hs k hk false h2 h1 h' false _ q3, Int.add_assoc]; rfl
    by_cases n2 : n = 2
    · subst n2
      refine reads_of hs k hk (bs := [102, rexB false t d, 137] ++ memB t d i) (by rw [e]; simp [storeB]) (3 + (memB t d i).length) (by simp; omega) fun a rest h => ?_
      obtain ⟨e1, h'⟩ := read_half hs k hk (l := memB t d i) h2 h1 (by simpa using h)
      rw [e1, store_mem hs k hk false h2 h1 h' false _ q3, Int.add_assoc]
    simp [okSize, n8, n4, n2, n1] at q2
  by_cases c2 : kd = 2
  · subst c2
    simp [bareS] at hb
    obtain ⟨rfl, rfl, rfl⟩ := hb
    have e : layS 2 d 0 0 0 wd = ([rexB true 0 d, 184 + d % 8] ++ leB wd 8, outReg d) := by simp [layS, twoB, oneB]
    rw [e] at hq
    exact reads_of hs k hk (congrArg Prod.fst e) 10 (by simp [leB]) fun a rest h => read_2 hs k hk (rr_of hq) hw h
  by_cases c10 : kd = 10
  · subst c10
    simp [bareS] at hb
    obtain ⟨rfl, rfl, rfl⟩ := hb
    have e : layS 10 d t 0 0 0 = ([rexB true d t, 15, 175, dirB d t], out2 d t) := by simp [layS, twoB, oneB]
    rw [e] at hq
    obtain ⟨h1, h2⟩ := rr_of2 hq
    exact reads_of hs k hk (congrArg Prod.fst e) 4 rfl fun a rest h => read_10 hs k hk h1 h2 h
  by_cases c17 : kd = 17
  · subst c17
    simp [bareS] at hb
    obtain ⟨rfl, rfl, rfl, rfl, rfl⟩ := hb
    exact reads_of hs k hk (bs := [72, 153]) (by simp [layS, twoB, oneB]) 2 rfl fun a rest h => read_17 hs k hk h
  by_cases c21 : kd = 21
  · subst c21
    simp [bareS] at hb
    obtain ⟨rfl, rfl, rfl, rfl⟩ := hb
    have e : layS 21 0 0 0 i 0 = ([233] ++ b4 i, !fits32 i) := by simp [layS, twoB, oneB]
    rw [e] at hq
    exact reads_of hs k hk (congrArg Prod.fst e) 5 rfl fun a rest h => read_21 hs k hk (by simpa using hq) h
  by_cases c22 : kd = 22
  · subst c22
    simp [bareS] at hb
    obtain ⟨rfl, rfl, rfl⟩ := hb
    have e : layS 22 d 0 0 i 0 = ([15, 128 + d % 16] ++ b4 i, !okCond d || !fits32 i) := by simp [layS, twoB, oneB]
    rw [e] at hq
    simp only [Bool.or_eq_false_iff, Bool.not_eq_false'] at hq
    exact reads_of hs k hk (congrArg Prod.fst e) 6 rfl fun a rest h => read_22 hs k hk hq.1 hq.2 h
  by_cases c23 : kd = 23
  · subst c23
    simp [bareS] at hb
    obtain ⟨rfl, rfl, rfl, rfl⟩ := hb
    have e : layS 23 d 0 0 0 0 = ([rexB false 0 d, 80 + d % 8], outReg d) := by simp [layS, twoB, oneB]
    rw [e] at hq
    exact reads_of hs k hk (congrArg Prod.fst e) 2 rfl fun a rest h => read_push hs k hk 23 80 (by decide) (rr_of hq) h
  by_cases c24 : kd = 24
  · subst c24
    simp [bareS] at hb
    obtain ⟨rfl, rfl, rfl, rfl⟩ := hb
    have e : layS 24 d 0 0 0 0 = ([rexB false 0 d, 88 + d % 8], outReg d) := by simp [layS, twoB, oneB]
    rw [e] at hq
    exact reads_of hs k hk (congrArg Prod.fst e) 2 rfl fun a rest h => read_push hs k hk 24 88 (by decide) (rr_of hq) h
  by_cases c25 : kd = 25
  · subst c25
    simp [bareS] at hb
    obtain ⟨rfl, rfl, rfl, rfl⟩ := hb
    have e : layS 25 d 0 0 0 0 = ([rexB true 0 d, 15, 200 + d % 8], outReg d) := by simp [layS, twoB, oneB]
    rw [e] at hq
    exact reads_of hs k hk (congrArg Prod.fst e) 3 rfl fun a rest h => read_25 hs k hk (rr_of hq) h
  by_cases c28 : kd = 28
  · subst c28
    simp [bareS] at hb
    obtain ⟨rfl, rfl, rfl, rfl, rfl⟩ := hb
    exact reads_of hs k hk (bs := [15, 5]) (by simp [layS, twoB, oneB]) 2 rfl fun a rest h => read_28 hs k hk h
  by_cases c29 : kd = 29
  · subst c29
    simp [bareS] at hb
    obtain ⟨rfl, rfl, rfl, rfl, rfl⟩ := hb
    exact reads_of hs k hk (bs := [195]) (by simp [layS, twoB, oneB]) 1 rfl fun a rest h => read_29 hs k hk h
  exfalso
  have ht : twoB kd = 0 := twoB_zero kd (by omega)
  have ho : oneB kd = (0, 0) := oneB_zero kd (by omega)
  simp [layS, ht, ho, *] at hq
end
end Go.Proofs.Ytpahjllcomejbaa
set_option linter.unusedVariables false
set_option linter.unusedSimpArgs false
namespace Go.Proofs.Ytpahjllcomejbaa
open Go.RowKit Go.MapKept
open Go.Proofs.YtpahjllcomejbaaW.PrintWords Go.Proofs.YtpahjllcomejbaaW.PrintLast Go.Proofs.YtpahjllcomejbaaW.PrintMore
open PX86Encodes (S32)

def ByteL (l : List Int) : Prop := ∀ b ∈ l, 0 ≤ b ∧ b < 256
theorem ByteL.append {a b : List Int} (h1 : ByteL a) (h2 : ByteL b) : ByteL (a ++ b) := fun c hc => (List.mem_append.1 hc).elim (h1 c) (h2 c)
theorem ByteL.cons {a : Int} {b : List Int} (h1 : 0 ≤ a ∧ a < 256) (h2 : ByteL b) : ByteL (a :: b) := fun c hc => by
  rcases List.mem_cons.1 hc with rfl | hc
  · exact h1
  · exact h2 c hc
theorem ByteL.nil : ByteL [] := fun c hc => by simp at hc
theorem b_rex (w : Bool) (p q : Int) : 0 ≤ rexB w p q ∧ rexB w p q < 256 := by unfold rexB; cases w <;> simp <;> omega
theorem b_dir (p q : Int) : 0 ≤ dirB p q ∧ dirB p q < 256 := by unfold dirB; omega
theorem b_b4 (n : Int) : ByteL (b4 n) := .cons (by omega) (.cons (by omega) (.cons (by omega) (.cons (by omega) .nil)))
theorem b_leB (n : Int) (m : Nat) : ByteL (leB n m) := fun c hc => by
  obtain ⟨j, _, rfl⟩ := List.mem_map.1 hc
  omega
theorem b_mem (p q n : Int) : ByteL (memB p q n) := by
  unfold memB
  refine ((ByteL.cons (by omega) .nil).append ?_).append (b_b4 n)
  split
  · exact .cons (by decide) .nil
  · exact .nil
theorem b_two (kd : Int) : 0 ≤ twoB kd ∧ twoB kd < 256 := by unfold twoB; (repeat' split) <;> decide
theorem b_one (kd : Int) : 0 ≤ (oneB kd).1 ∧ (oneB kd).1 < 256 := by unfold oneB; (repeat' split) <;> decide
theorem b_reads (n : Int) (g : Bool) : ByteL (readsB n g).2 := by
  unfold readsB
  (repeat' split) <;> first | exact .nil | exact .cons (by decide) .nil | exact .cons (by decide) (.cons (by decide) .nil)
theorem b_store (d t n i : Int) : ByteL (storeB d t n i) := by
  unfold storeB
  refine (((ByteL.append ?_ (.cons (b_rex _ _ _) .nil)).append ?_).append (b_mem _ _ _))
  · split
    · exact .cons (by decide) .nil
    · exact .nil
  · split
    · exact .cons (by decide) .nil
    · exact .cons (by decide) .nil
theorem ite_b {c : Prop} [Decidable c] {a b : List Int × Bool} (ha : ByteL a.1) (hb : ByteL b.1) : ByteL (if c then a else b).1 := by split <;> assumption
theorem layS_bytes (kd d s n i wd : Int) : ByteL (layS kd d s n i wd).1 := by
  unfold layS
  refine ite_b (.cons (b_rex _ _ _) (.cons (b_two _) (.cons (b_dir _ _) .nil))) ?_
  refine ite_b (.cons (b_rex _ _ _) (.cons (b_one _) (.cons (b_dir _ _) .nil))) ?_
  refine ite_b (((ByteL.cons (b_rex _ _ _) .nil).append (b_reads _ _)).append (b_mem _ _ _)) ?_
  refine ite_b (((ByteL.cons (b_rex _ _ _) .nil).append (b_reads _ _)).append (b_mem _ _ _)) ?_
  refine ite_b (((ByteL.cons (b_rex _ _ _) .nil).append (b_reads _ _)).append (.cons (b_dir _ _) .nil)) ?_
  refine ite_b (((ByteL.cons (b_rex _ _ _) .nil).append (b_reads _ _)).append (.cons (b_dir _ _) .nil)) ?_
  refine ite_b (b_store _ _ _ _) ?_
  refine ite_b ((ByteL.cons (b_rex _ _ _) (.cons (by omega) .nil)).append (b_leB _ _)) ?_
  refine ite_b (.cons (b_rex _ _ _) (.cons (by decide) (.cons (by decide) (.cons (b_dir _ _) .nil)))) ?_
  refine ite_b (.cons (by decide) (.cons (by decide) .nil)) ?_
  refine ite_b ((ByteL.cons (by decide) .nil).append (b_b4 _)) ?_
  refine ite_b ((ByteL.cons (by decide) (.cons (by omega) .nil)).append (b_b4 _)) ?_
  refine ite_b (.cons (b_rex _ _ _) (.cons (by omega) .nil)) ?_
  refine ite_b (.cons (b_rex _ _ _) (.cons (by omega) .nil)) ?_
  refine ite_b (.cons (b_rex _ _ _) (.cons (by decide) (.cons (by omega) .nil))) ?_
  refine ite_b (.cons (by decide) (.cons (by decide) .nil)) ?_
  exact ite_b (.cons (by decide) .nil) .nil
theorem ite_ne {c : Prop} [Decidable c] {a b : List Int × Bool} (ha : a.2 = false → a.1 ≠ []) (hb : b.2 = false → b.1 ≠ []) : (if c then a else b).2 = false → (if c then a else b).1 ≠ [] := by split <;> assumption
theorem layS_ne (kd d s n i wd : Int) : (layS kd d s n i wd).2 = false → (layS kd d s n i wd).1 ≠ [] := by
  unfold layS
  repeat' (refine ite_ne ?_ ?_)
  all_goals first
    | (intro _; simp; done)
    | (intro _; simp [storeB]; done)
    | (intro h; simp at h; done)
theorem bt_str (l : List Int) (hl : ByteL l) (i : Nat) (hi : i < l.length) : bt (strOfNums l) i = l.getD i 0 := by
  have h1 : ((i : Int)).toNat < (strOfNums l).size := by rw [strOfNums_size]; simpa using hi
  have hb := hl l[i] (List.getElem_mem hi)
  unfold bt
  rw [dif_pos h1]
  have e : (strOfNums l)[((i : Int)).toNat]'h1 = UInt8.ofNat (l[i]).toNat := by
    simp [strOfNums, ByteArray.getElem_eq_getElem_data]
  rw [e, List.getD_eq_getElem?_getD, List.getElem?_eq_getElem hi]
  simp
  omega
theorem at_str (pre bs rest : List Int) (hl : ByteL (pre ++ bs ++ rest)) : At (strOfNums (pre ++ bs ++ rest)) pre.length bs := by
  refine ⟨by omega, by rw [strOfNums_size]; simp; omega, fun i hi => ?_⟩
  have := bt_str _ hl (pre.length + i) (by simp; omega)
  rw [show ((pre.length : Int) + (i : Int)) = ((pre.length + i : Nat) : Int) by omega, this]
  simp only [List.getD_eq_getElem?_getD]
  rw [List.append_assoc, List.getElem?_append_right (by omega), Nat.add_sub_cancel_left, List.getElem?_append_left hi]
theorem ext_str (pre bs rest : List Int) : (strOfNums (pre ++ bs ++ rest)).extract pre.length (pre.length + bs.length) = strOfNums bs := by
  apply ByteArray.ext
  simp only [strOfNums, ByteArray.data_extract]
  apply Array.ext'
  simp
theorem encX_split : ∀ (xs : List S32) (bs : List Int), encX xs = some bs → ∀ (i : Nat) (hi : i < xs.length), ∃ pre rest, encX (xs.take i) = some pre ∧ encX (xs.drop (i + 1)) = some rest ∧ goodX xs[i] = true ∧ bs = pre ++ (layX xs[i]).1 ++ rest
  | x :: xs, bs, h, 0, hi => by
    rw [encX] at h
    by_cases g : goodX x = true
    · rw [if_pos g] at h
      obtain ⟨r, h1, rfl⟩ := Option.map_eq_some_iff.1 h
      exact ⟨[], r, rfl, by simpa using h1, g, by simp⟩
    · rw [if_neg g] at h; cases h
  | x :: xs, bs, h, i + 1, hi => by
    rw [encX] at h
    by_cases g : goodX x = true
    · rw [if_pos g] at h
      obtain ⟨r, h1, rfl⟩ := Option.map_eq_some_iff.1 h
      obtain ⟨pre, rest, a1, a2, a3, a4⟩ := encX_split xs r h1 i (by simpa using hi)
      refine ⟨(layX x).1 ++ pre, rest, ?_, by simpa using a2, by simpa using a3, by rw [a4]; simp⟩
      rw [List.take_succ_cons, encX, if_pos g, a1]; rfl
    · rw [if_neg g] at h; cases h
theorem encX_bytes : ∀ (xs : List S32) (bs : List Int), encX xs = some bs → ByteL bs
  | [], bs, h => by cases h; exact .nil
  | x :: xs, bs, h => by
    rw [encX] at h
    by_cases g : goodX x = true
    · rw [if_pos g] at h
      obtain ⟨r, h1, rfl⟩ := Option.map_eq_some_iff.1 h
      exact (layS_bytes _ _ _ _ _ _).append (encX_bytes xs r h1)
    · rw [if_neg g] at h; cases h
theorem encX_one (x : S32) (h : goodX x = true) : encX [x] = some (layX x).1 := by
  rw [encX, if_pos h]; simp [encX]
theorem good_bare (x : S32) (h : goodX x = true) : (layX x).2 = false ∧ bareS x.f0 x.f1 x.f2 x.f3 x.f4 x.f5 = (x.f0, x.f1, x.f2, x.f3, x.f4, x.f5) := by
  unfold goodX at h
  simp only [Bool.and_eq_true, Bool.not_eq_true'] at h
  exact ⟨h.1, ((sameX_iff _ _).1 h.2).symm⟩
/-- Decode at an instruction's place. -/
theorem dec_good (x : S32) (hg : goodX x = true) (h5 : 0 ≤ x.f5 ∧ x.f5 < 18446744073709551616) (pre rest : List Int) (hl : ByteL (pre ++ (layX x).1 ++ rest)) (hn : (layX x).1 ≠ []) (hs : (pre ++ (layX x).1 ++ rest).length ≤ 9223372036854775807) (w : World) :
    Calls Try.prog 9 #[.string (strOfNums (pre ++ (layX x).1 ++ rest)), .int .i64 pre.length] w (DecPost w (sx x, (((layX x).1.length : Nat) : Int), 0)) := by
  have hsz : (strOfNums (pre ++ (layX x).1 ++ rest)).size = (pre ++ (layX x).1 ++ rest).length := strOfNums_size _
  have hpos : 0 < (layX x).1.length := List.length_pos_iff.2 hn
  obtain ⟨g1, g2⟩ := good_bare x hg
  have hat := at_str pre ((layX x).1 ++ rest) [] (by simpa using hl)
  rw [List.append_nil, ← List.append_assoc] at hat
  have hr := read_all (s := strOfNums (pre ++ (layX x).1 ++ rest)) (by rw [hsz]; exact hs) 20 (by omega) x.f0 x.f1 x.f2 x.f3 x.f4 x.f5 g2 g1 h5 pre.length rest hat
  have hd := decode_calls 20 (strOfNums (pre ++ (layX x).1 ++ rest)) pre.length (pre.length + ((layX x).1.length : Nat)) false x.f0 x.f1 x.f2 x.f3 x.f4 x.f5 w (by rw [hsz]; exact hs) ⟨by omega, by rw [hsz]; simp; omega⟩ hr (fun _ => ⟨by omega, by rw [hsz]; simp; omega⟩) h5
  have he : decE (strOfNums (pre ++ (layX x).1 ++ rest)) pre.length x (pre.length + ((layX x).1.length : Nat)) false = (sx x, (((layX x).1.length : Nat) : Int), 0) := by
    unfold decE
    have e1 : encR (encX [x]) = (strOfNums (layX x).1, 0) := by rw [encX_one x hg]; rfl
    have e2 : ((pre.length : Int) + ((layX x).1.length : Nat)).toNat = pre.length + (layX x).1.length := by omega
    have e3 : ((pre.length : Int)).toNat = pre.length := by omega
    rw [e1, e2, e3, ext_str, if_pos ⟨rfl, rfl, rfl⟩, Nat.add_sub_cancel_left]
  rw [← he]
  exact hd
end Go.Proofs.Ytpahjllcomejbaa
set_option linter.unusedVariables false
set_option linter.unusedSimpArgs false
namespace Go.Proofs.Ytpahjllcomejbaa
open Go.RowKit Go.MapKept
open Go.Proofs.YtpahjllcomejbaaW.PrintWords Go.Proofs.YtpahjllcomejbaaW.PrintLast Go.Proofs.YtpahjllcomejbaaW.PrintMore
open PX86Encodes (S32 k32 x86_reader_next.f)
attribute [local go_sem high] eqX

def cellsX (x : S32) : List Value := [.int .i64 x.f0, .int .i64 x.f1, .int .i64 x.f2, .int .i64 x.f3, .int .i64 x.f4, .int .u64 x.f5]
def flatX : List S32 → List Value
  | [] => []
  | x :: l => cellsX x ++ flatX l
theorem flat_get : ∀ (l : List S32) (j i : Nat) (p : S32), l[j]? = some p → i < 6 → (flatX l)[j * 6 + i]? = (cellsX p)[i]?
  | x :: l, 0, i, p, hp, hi => by
    cases hp
    rw [flatX, List.getElem?_append_left (by simp [cellsX]; omega)]
    simp
  | x :: l, j + 1, i, p, hp, hi => by
    rw [flatX, List.getElem?_append_right (by simp [cellsX]; omega)]
    have : (j + 1) * 6 + i - (cellsX x).length = j * 6 + i := by simp [cellsX]; omega
    rw [this]
    exact flat_get l j i p (by simpa using hp) hi
theorem enc_lits (xs : List S32) (n : Nat) (hn : xs.length = n) (C : Array Value) (hC : (flatX xs).toArray = C) (h5 : ∀ x ∈ xs, 0 ≤ x.f5 ∧ x.f5 < 18446744073709551616) (hl : xs.length ≤ 1000) (r : ByteArray × Int) (hr : encR (encX xs) = r) (W : World) (B : Nat) (hB : W.heap.size = B) :
    Calls Try.prog 6 #[.slice (some ⟨B, 0, none⟩) n n] (W.alloc (.cells C 32)) fun e W' => e = .returned (.tuple #[.string r.1, .int .i64 r.2]) ∧ Fr [] [] W W' := by
  subst hn hC hB hr
  have hb := heap_alloc_new W (.cells (flatX xs).toArray 32)
  have add : ∀ m, (⟨W.heap.size, 0, none⟩ : Addr).add m = ⟨W.heap.size, m, none⟩ := fun m => by unfold Addr.add; split <;> simp_all
  have hK : Kd.C k32 (W.alloc (.cells (flatX xs).toArray 32)) (some ⟨W.heap.size, 0, none⟩) xs.length xs := by
    refine ⟨rfl, by omega, fun _ => ⟨_, rfl, fun j p hp => ⟨cellsX p, rfl, ?_, fun i u hu => ?_⟩⟩⟩
    · exact ⟨[_], [_, _, _, _, _], rfl, rfl, [_], [_, _, _, _], rfl, rfl, [_], [_, _, _], rfl, rfl, [_], [_, _], rfl, rfl, [_], [_], rfl, rfl, rfl⟩
    · have hi : i < 6 := by
        have := (List.getElem?_eq_some_iff.1 hu).1
        simpa [cellsX] using this
      rw [add, cell_at hb]
      have := flat_get xs j i p hp hi
      rw [hu] at this
      show ((flatX xs).toArray)[j * 6 + i]? = some u
      simpa using this
  have := xenc_calls (some ⟨W.heap.size, 0, none⟩) xs.length xs _ hK (Nat.le_refl _) (fun b o _ e => by cases e; simp) h5 (by omega)
  refine this.mono ?_
  rintro e W' ⟨rfl, hbl⟩
  exact ⟨rfl, ((Fr.refl [] W).alloc' _).trans (below_fr hbl)⟩
def DecFr (w0 : World) (x : X6) (n e : Int) (en : Ending) (W : World) : Prop :=
  en = .returned (.tuple #[.agg #[.int .i64 x.1, .int .i64 x.2.1, .int .i64 x.2.2.1, .int .i64 x.2.2.2.1, .int .i64 x.2.2.2.2.1, .int .u64 x.2.2.2.2.2], .int .i64 n, .int .i64 e]) ∧ Fr [] [] w0 W
theorem DecPost.fr {w : World} {x : X6} {n e : Int} {en : Ending} {W : World} (h : DecPost w (x, n, e) en W) : DecFr w x n e en W := ⟨h.1, below_fr h.2⟩
theorem aw_text : strOfNums [72, 137, 248, 76, 15, 182, 135, 4, 0, 0, 0, 195] = ⟨#[72, 137, 248, 76, 15, 182, 135, 4, 0, 0, 0, 195]⟩ := rfl
theorem aw_enc : encR (encX [⟨1, 0, 7, 0, 0, 0⟩, ⟨18, 8, 7, 1, 4, 0⟩, ⟨29, 0, 0, 0, 0, 0⟩]) = (⟨#[72, 137, 248, 76, 15, 182, 135, 4, 0, 0, 0, 195]⟩, 0) := by
  have : encX [⟨1, 0, 7, 0, 0, 0⟩, ⟨18, 8, 7, 1, 4, 0⟩, ⟨29, 0, 0, 0, 0, 0⟩] = some [72, 137, 248, 76, 15, 182, 135, 4, 0, 0, 0, 195] := by decide +kernel
  rw [this]; rfl
theorem aw_bad : encR (encX [⟨1, 16, 0, 0, 0, 0⟩]) = (⟨#[]⟩, 30) := by
  have : encX [⟨1, 16, 0, 0, 0, 0⟩] = none := by decide +kernel
  rw [this]; rfl
theorem aw_dec (w : World) : Calls Try.prog 9 #[.string ⟨#[72, 137, 248, 76, 15, 182, 135, 4, 0, 0, 0, 195]⟩, .int .i64 3] w (DecFr w (18, 8, 7, 1, 4, 0) 8 0) := by
  have hlay : (layX ⟨18, 8, 7, 1, 4, 0⟩).1 = [76, 15, 182, 135, 4, 0, 0, 0] := by decide +kernel
  have hg : goodX ⟨18, 8, 7, 1, 4, 0⟩ = true := by decide +kernel
  have hb : ByteL ([72, 137, 248] ++ [76, 15, 182, 135, 4, 0, 0, 0] ++ [195]) := by
    intro c hc
    simp at hc
    omega
  have := dec_good ⟨18, 8, 7, 1, 4, 0⟩ hg (by decide) [72, 137, 248] [195] (by rw [hlay]; exact hb) (by rw [hlay]; simp) (by rw [hlay]; decide) w
  rw [hlay] at this
  exact this.mono fun e W h => h.fr
theorem aw_zero (w : World) : Calls Try.prog 9 #[.string ⟨#[0]⟩, .int .i64 0] w (DecFr w (0, 0, 0, 0, 0, 0) 0 30) := by
  have hn : x86_reader_next.f ⟨#[0]⟩ 0 false = some (0, ⟨#[0]⟩, 1, false) := next_in ⟨#[0]⟩ (by decide) 0 false ⟨by decide, by decide⟩
  have hr : readX 20 ⟨#[0]⟩ 0 = some (0, 0, 0, 0, 0, 0, ⟨#[0]⟩, 1, false) := by
    unfold readX
    rw [hn, Option.bind_some]
    rfl
  have hd := decode_calls 20 ⟨#[0]⟩ 0 1 false 0 0 0 0 0 0 w (by decide) ⟨by decide, by decide⟩ hr (fun _ => ⟨by decide, by decide⟩) (by decide)
  have he : decE ⟨#[0]⟩ 0 ⟨0, 0, 0, 0, 0, 0⟩ 1 false = ((0, 0, 0, 0, 0, 0), 0, 30) := by
    have hx : encX [⟨0, 0, 0, 0, 0, 0⟩] = none := by decide +kernel
    unfold decE
    rw [hx, if_neg (fun c => absurd c.2.1 (by decide))]
  rw [he] at hd
  exact hd.mono fun e W h => h.fr
theorem aw_none (w : World) : Calls Try.prog 9 #[.string ⟨#[]⟩, .int .i64 0] w (DecFr w (0, 0, 0, 0, 0, 0) 0 1) :=
  (dec_arg2 ⟨#[]⟩ 0 w (by decide) (by decide) (by decide)).mono fun e W h => ⟨h.1, below_fr h.2⟩
set_option maxRecDepth 100000 in
set_option maxHeartbeats 4000000 in
theorem awake_calls (w : World) : Calls Try.prog 8 #[] w fun e W => e = .returned (.bool true) ∧ Fr [] [] w W := by
  have hu := Try.underlying22
  have hu3 := Try.underlying32
  have HE3 := hide (enc_lits [⟨1, 0, 7, 0, 0, 0⟩, ⟨18, 8, 7, 1, 4, 0⟩, ⟨29, 0, 0, 0, 0, 0⟩] 3 rfl _ rfl (by intro x hx; simp at hx; rcases hx with rfl | rfl | rfl <;> decide) (by decide) _ aw_enc w _ rfl)
  have HE1 := hide (enc_lits [⟨1, 16, 0, 0, 0, 0⟩] 1 rfl #[.int .i64 1, .int .i64 16, .int .i64 0, .int .i64 0, .int .i64 0, .int .u64 0] rfl (by intro x hx; simp at hx; subst hx; decide) (by decide) _ aw_bad)
  go_enter Try.func8, Try.ntmps8
  go_wp2_with fail
  refine HE3.out.mono ?_
  rintro e W1 ⟨rfl, f1⟩
  have F1 := hide f1
  clear f1
  go_wp2_with fail
  refine (aw_dec W1).mono ?_
  rintro e W2 ⟨rfl, f2⟩
  have F2 := hide (F1.out.trans f2)
  clear f2
  have HX2 := hide (heap_alloc_new W2 (boxed 18 8 7 1 4 0))
  clear HE3
  go_wp2_with fail
  refine (aw_zero _).mono ?_
  rintro e W3 ⟨rfl, f3⟩
  have HX3 := hide (f3.keep HX2.out (by simp))
  have F3 := hide ((F2.out.alloc' _).trans f3)
  clear f3
  go_wp2_with fail
  refine (aw_none _).mono ?_
  rintro e W4 ⟨rfl, f4⟩
  have HX4 := hide (f4.keep (heap_alloc_some HX3.out) (by simp))
  have F4 := hide ((F3.out.alloc' _).trans f4)
  clear f4
  go_wp2_with fail
  (with_reducible refine (HE1.out _ _ ?_).mono ?_)
  simp
  rintro e W5 ⟨rfl, f5⟩
  obtain ⟨c0, c1, c2, c3, c4, c5⟩ := box_at (f5.keep (heap_alloc_some HX4.out) (by simp))
  have F5 := hide ((F4.out.alloc' _).trans f5)
  clear f5
  go_wp2
  go_ret
  exact ⟨rfl, F5.out⟩
end Go.Proofs.Ytpahjllcomejbaa
set_option linter.unusedVariables false
set_option linter.unusedSimpArgs false
namespace Go.Proofs.Ytpahjllcomejbaa
open Go.RowKit Go.MapKept
open Go.Proofs.YtpahjllcomejbaaW.PrintWords Go.Proofs.YtpahjllcomejbaaW.PrintLast Go.Proofs.YtpahjllcomejbaaW.PrintMore
open PX86Encodes (S32 k32 x86_reader_next.f)
attribute [local go_sem high] eqX

def BackRel (w : World) (xs : List S32) (v5 v6 : Value) (wr : World) : Prop := ∃ (i p : Nat), i ≤ xs.length ∧ v6 = .int .i64 (i : Int) ∧ v5 = .int .i64 (p : Int) ∧ (∃ pre, encX (xs.take i) = some pre ∧ pre.length = p) ∧ Fr [] [] w wr
def BoxAt' (W : World) (b o : Nat) (kd d s n i wd : Int) : Prop := W.cell? ⟨b, o, none⟩ = some (.int .i64 kd) ∧ W.cell? ⟨b, o + 1, none⟩ = some (.int .i64 d) ∧ W.cell? ⟨b, o + 2, none⟩ = some (.int .i64 s) ∧ W.cell? ⟨b, o + 3, none⟩ = some (.int .i64 n) ∧ W.cell? ⟨b, o + 4, none⟩ = some (.int .i64 i) ∧ W.cell? ⟨b, o + 5, none⟩ = some (.int .u64 wd)
theorem encX_len (xs : List S32) (bs : List Int) (h : encX xs = some bs) : bs.length ≤ 20 * xs.length := by
  induction xs generalizing bs with
  | nil => cases h; simp
  | cons x xs ih =>
    rw [encX] at h
    by_cases g : goodX x = true
    · rw [if_pos g] at h
      obtain ⟨r, h1, rfl⟩ := Option.map_eq_some_iff.1 h
      have := ih r h1
      have h2 : (layX x).1.length ≤ 20 := layS_len _ _ _ _ _ _
      simp
      omega
    · rw [if_neg g] at h; cases h
set_option maxRecDepth 100000 in
set_option maxHeartbeats 8000000 in
theorem back_none (A : Option Addr) (cap : Nat) (xs : List S32) (w : World) (hc : Kd.C k32 w A xs.length xs) (hcap : xs.length ≤ cap) (hA : ∀ b o, 0 < xs.length → A = some ⟨b, o, none⟩ → b < w.heap.size)
    (hw : ∀ x ∈ xs, 0 ≤ x.f5 ∧ x.f5 < 18446744073709551616) (hl : xs.length * 48 ≤ 140737488355328) (hn : encX xs = none) :
    Calls Try.prog 5 #[.slice A xs.length cap] w fun e W => e = .returned (.bool true) ∧ Below w.heap.size w W := by
  have HE := hide (xenc_calls A cap xs w hc hcap hA hw hl)
  rw [hn] at HE
  clear hc hcap hA hw hl hn
  generalize xs.length = n at *
  go_enter Try.func5, Try.ntmps5
  go_wp2_with fail
  refine HE.out.mono ?_
  rintro e W1 ⟨rfl, b1⟩
  have B1 := hide b1
  clear b1
  unfold encR
  go_wp2_with fail
  refine (awake_calls _).mono ?_
  rintro e W2 ⟨rfl, f2⟩
  have B2 := hide (B1.out.trans ((f2.below (B := w.heap.size) B1.out.size (by simp))))
  clear f2
  go_wp2
  go_ret
  exact ⟨rfl, B2.out⟩
set_option maxRecDepth 100000 in
set_option maxHeartbeats 8000000 in
theorem back_some (A : Option Addr) (cap : Nat) (xs : List S32) (w : World) (hc : Kd.C k32 w A xs.length xs) (hcap : xs.length ≤ cap) (hA : ∀ b o, 0 < xs.length → A = some ⟨b, o, none⟩ → b < w.heap.size)
    (hw : ∀ x ∈ xs, 0 ≤ x.f5 ∧ x.f5 < 18446744073709551616) (hl : xs.length * 48 ≤ 140737488355328) (bs : List Int) (hn : encX xs = some bs) :
    Calls Try.prog 5 #[.slice A xs.length cap] w fun e W => e = .returned (.bool true) ∧ Below w.heap.size w W := by
  have hu := Try.underlying22
  have hu3 := Try.underlying32
  have HE := hide (xenc_calls A cap xs w hc hcap hA hw hl)
  rw [hn, show encR (some bs) = (strOfNums bs, 0) from rfl] at HE
  have hbl := encX_len xs bs hn
  have HC := hide hc
  have HA := hide hA
  have HW := hide hw
  have HN := hide hn
  have hn0 : xs.length ≤ 2932031007403 := by omega
  have HBY := hide (encX_bytes xs bs hn)
  have hsz : (strOfNums bs).size = bs.length := strOfNums_size _
  have hq : (strOfNums bs).size ≤ 100000000000000 := by omega
  have HSZ := hide hsz
  have HS := hide (show BackRel w xs (.int .i64 0) (.int .i64 0) w from ⟨0, 0, Nat.zero_le _, rfl, rfl, ⟨[], rfl, rfl⟩, Fr.refl _ _⟩)
  clear hc hcap hA hw hl hn hbl hsz
  have HD : Hid (∀ (i p : Nat) (x : S32) (W : World), xs[i]? = some x → (∃ pre, encX (xs.take i) = some pre ∧ pre.length = p) →
      Calls Try.prog 9 #[.string (strOfNums bs), .int .i64 p] W (DecFr W (sx x) (((layX x).1.length : Nat) : Int) 0) ∧ goodX x = true ∧ p + (layX x).1.length ≤ (strOfNums bs).size ∧ (strOfNums bs).extract p (p + (layX x).1.length) = strOfNums (layX x).1 ∧ (∃ pre, encX (xs.take (i + 1)) = some pre ∧ pre.length = p + (layX x).1.length)) := hide fun i p x W hx ⟨pre, hp, hpl⟩ => by
    obtain ⟨hi, rfl⟩ := List.getElem?_eq_some_iff.1 hx
    obtain ⟨pre', rest, a1, a2, a3, a4⟩ := encX_split xs bs HN.out i hi
    rw [a1] at hp
    cases hp
    subst hpl
    have hb := HBY.out
    have hz := HSZ.out
    rw [a4] at hb hz ⊢
    have h1 := dec_good xs[i] a3 (HW.out _ (List.getElem_mem hi)) pre rest hb (layS_ne _ _ _ _ _ _ (good_bare _ a3).1) (by rw [← hz, ← a4]; omega) W
    refine ⟨h1.mono fun e W h => h.fr, a3, ?_, ext_str _ _ _, ⟨pre ++ (layX xs[i]).1, ?_, ?_⟩⟩
    · rw [hz]; simp
    · rw [List.take_succ_eq_append_getElem hi, encX_snoc, a1, Option.bind_some, if_pos a3]
    · simp
  have HEND : Hid (∀ p, (∃ pre, encX (xs.take xs.length) = some pre ∧ pre.length = p) → p = (strOfNums bs).size) := hide fun p ⟨pre, h1, h2⟩ => by
    rw [List.take_length, HN.out] at h1
    cases h1
    rw [HSZ.out, h2]
  generalize strOfNums bs = S at *
  generalize hnn : xs.length = n at *
  have HNN := hide hnn
  clear hnn
  go_enter Try.func5, Try.ntmps5
  go_wp2_with fail
  refine HE.out.mono ?_
  rintro e W1 ⟨rfl, b1⟩
  have HS1 := hide (show BackRel w xs (.int .i64 0) (.int .i64 0) W1 from ⟨0, 0, Nat.zero_le _, rfl, rfl, ⟨[], rfl, rfl⟩, below_fr b1⟩)
  clear b1
  go_wp2_with fail
  go_loopw [5, 6] (fun v5 v6 wr => BackRel w xs v5 v6 wr) (fun _ v _ => n - (intOf v).toNat)
  case atStart => exact HS1.out
  case round =>
    obtain ⟨i, p, hi, rfl, rfl, hpre, hfr⟩ := hrel
    rw [HNN.out] at hi
    clear HS HS1
    by_cases hlt : i < n
    · have hbel : Below w.heap.size w wr := hfr.below (Nat.le_refl _) (by simp)
      obtain ⟨b, o, k, d, s, m, j, u, hAe, hX, _⟩ := x86_elem' (Kd.C_below HC.out hbel) i hlt HNN.out
      obtain ⟨hD, hG, hle, hex, hnx⟩ := HD.out i p _ wr hX hpre
      have HCE : Hid (∀ W, Fr [] [] wr W → ∃ b o, A = some ⟨b, o, none⟩ ∧ BoxAt' W b (o + i * 6) k d s m j u) := hide fun W hf => by
        obtain ⟨b', o', k', d', s', m', j', u', e1, e2, e3⟩ := x86_elem' (Kd.C_below HC.out (hbel.trans ((hf.below (Nat.le_refl _) (by simp)).mono hbel.size))) i hlt HNN.out
        rw [hX] at e2
        cases e2
        exact ⟨b', o', e1, e3⟩
      have HDE := hide hD
      have HG := hide hG
      have HEX := hide hex
      have HNX := hide hnx
      have HFR := hide hfr
      have HBL := hide hbel
      have hbw := HA.out b o (by omega) hAe
      have HXX := hide hX
      have HE1 := hide (enc_lits [⟨k, d, s, m, j, u⟩] 1 rfl #[.int .i64 k, .int .i64 d, .int .i64 s, .int .i64 m, .int .i64 j, .int .u64 u] rfl (by intro x hx; simp at hx; subst hx; exact HW.out _ (List.mem_of_getElem? HXX.out)) (by simp) (strOfNums (layX ⟨k, d, s, m, j, u⟩).1, 0) (by rw [encX_one _ HG.out]; rfl))
      have hi0 : 0 ≤ (i : Int) := by omega
      have hil : (i : Int) < n := by omega
      obtain ⟨b', o', hAe', _⟩ := HCE.out wr (Fr.refl _ _)
      rw [hAe] at hAe'
      cases hAe'
      have HCE2 : Hid (∀ W, Fr [] [] wr W → BoxAt' W b (o + i * 6) k d s m j u) := hide fun W hf => by
        obtain ⟨b', o', e1, e2⟩ := HCE.out W hf
        rw [hAe] at e1
        cases e1
        exact e2
      subst hAe
      clear hD hG hex hnx hfr hbel hX hpre
      generalize hlen : (layX ⟨k, d, s, m, j, u⟩).1.length = q at *
      have HLEN := hide hlen
      clear hlen
      generalize strOfNums (layX ⟨k, d, s, m, j, u⟩).1 = T at *
      have HT := HEX.out
      have hsx : sx ⟨k, d, s, m, j, u⟩ = (k, d, s, m, j, u) := rfl
      rw [hsx] at HDE
      clear hsx
      have hp0 : 0 ≤ (p : Int) := by omega
      have hq0 : 0 ≤ (q : Int) := by omega
      have hpq : (p : Int) + q ≤ S.size := by omega
      have hpm : (p : Int) + q ≤ 9223372036854775807 := by omega
      clear HT
      go_wp2_with fail
      refine HDE.out.mono ?_
      rintro e W2 ⟨rfl, f2⟩
      have HBX := hide (heap_alloc_new W2 (boxed k d s m j u))
      obtain ⟨c0, c1, c2, c3, c4, c5⟩ := HCE2.out (W2.alloc (boxed k d s m j u)) (f2.alloc' _)
      obtain ⟨x0, x1, x2, x3, x4, x5⟩ := box_at HBX.out
      have F2 := hide (HFR.out.trans (f2.alloc' (boxed k d s m j u)))
      unfold boxed at *
      clear f2
      go_wp2_with fail
      go_quiet (fail)
      go_wp2_with fail
      (with_reducible refine (HE1.out _ _ ?_).mono ?_)
      simp
      rintro e W3 ⟨rfl, f3⟩
      have F3 := hide ((F2.out.drewN' _).trans f3)
      clear f3
      have hte : (T.toList == (S.extract p (p + q)).toList) = true := by rw [HEX.out]; simp
      go_wp2
      exact ⟨⟨i + 1, p + q, by rw [HNN.out]; omega, by simp, by simp, HNX.out, F3.out⟩, by simp [intOf]; omega⟩
    · obtain rfl : i = n := by omega
      have hpe : ((p : Int) == (S.size : Int)) = true := by
        rw [beq_iff_eq]
        have := HEND.out p hpre
        omega
      have HFR := hide hfr
      clear hpre hfr hi HD
      go_wp2_with fail
      refine (awake_calls _).mono ?_
      rintro e W2 ⟨rfl, f2⟩
      have B2 := hide ((HFR.out.trans f2).below (B := w.heap.size) (Nat.le_refl _) (by simp))
      clear f2
      go_wp2
      go_ret
      exact ⟨rfl, B2.out⟩
theorem back_calls (A : Option Addr) (cap : Nat) (xs : List S32) (w : World) (hc : Kd.C k32 w A xs.length xs) (hcap : xs.length ≤ cap) (hA : ∀ b o, 0 < xs.length → A = some ⟨b, o, none⟩ → b < w.heap.size)
    (hw : ∀ x ∈ xs, 0 ≤ x.f5 ∧ x.f5 < 18446744073709551616) (hl : xs.length * 48 ≤ 140737488355328) :
    Calls Try.prog 5 #[.slice A xs.length cap] w fun e W => e = .returned (.bool true) ∧ Below w.heap.size w W := by
  cases h : encX xs with
  | none => exact back_none A cap xs w hc hcap hA hw hl h
  | some bs => exact back_some A cap xs w hc hcap hA hw hl bs h
end Go.Proofs.Ytpahjllcomejbaa
set_option linter.unusedVariables false
namespace Go.Proofs.Ytpahjllcomejbaa
open Go.ChangeShapes Go.WideShapes Go.ChangeAt Go.RowKit Go.Deep
theorem sized_row {H : Type} {enc : TypeId × Value → H} {P : Program} {W : World} {base : Nat} {spare : Nat → Bool} {held : Bool} {t e : TypeId} {a : Option Addr} {len cap : Nat} {d : DataW H} {ps : List MemPlace} {ts : List TypeId} {ds : List (DataW H)} {j : Nat}
    (hsz : (DataW.weightsEach P ts ds).all (· ≤ reachBytes) = true) (ht : ts[j]? = some t) (hd : ds[j]? = some d) (hu : P.underlying t = some (.slice e)) {B : Nat} (hB : P.bytesOf e = B)
    (h : DataW.Trod enc P W base spare held t (.slice a len cap) d ps) : len * B ≤ 140737488351232 := by
  obtain ⟨fuel, hf⟩ := h
  rcases open_slice hu hf with ⟨hcs, _⟩ | ⟨x, l, c, m, n, D, Pl, hcs, hb, hl, hm, hmm, hx, hi⟩
  · simp [Value.cells] at hcs
    obtain ⟨rfl, rfl, rfl⟩ := hcs
    simp
  · simp [Value.cells] at hcs
    obtain ⟨rfl, rfl, rfl⟩ := hcs
    obtain ⟨hx, _⟩ := Prod.mk.inj hx
    subst hx
    have z := sized_slice hsz ht hd hu
    rw [hB] at z
    simp only [List.length_map, List.length_range] at z
    have hlm : len ≤ len + (m - len) := by omega
    exact Nat.le_trans (Nat.mul_le_mul_right _ hlm) z
/-- .. and a string. -/
theorem sized_str {H : Type} {P : Program} {ts : List TypeId} {ds : List (DataW H)} {j : Nat} {t : TypeId} {b : List UInt8}
    (hsz : (DataW.weightsEach P ts ds).all (· ≤ reachBytes) = true) (ht : ts[j]? = some t) (hd : ds[j]? = some (.lit (.string b))) : b.length ≤ 140737488351232 := sized_string hsz ht hd
theorem RowF.block {w : World} {a : Option Addr} {len cap : Nat} {ks : List FK} (h : RowF w a len cap ks) (hpos : 0 < ks.length) (h0 : 0 < len) : ∃ b o, a = some ⟨b, o, none⟩ ∧ b < w.heap.size := by
  rcases h with h | ⟨b, o, rfl, h1, h2, h3⟩
  · omega
  · obtain ⟨v, hv, _⟩ := h3 0 h0 0 ks[0] (List.getElem?_eq_getElem hpos)
    exact ⟨b, o, rfl, World.block_lt_of_cell? _ _ hv⟩
end Go.Proofs.Ytpahjllcomejbaa
set_option linter.unusedVariables false
set_option linter.unusedSimpArgs false
namespace Go.Proofs.Ytpahjllcomejbaa
open Go.RowKit
open Go.Proofs.YtpahjllcomejbaaW.PrintWords Go.Proofs.YtpahjllcomejbaaW.PrintLast Go.Proofs.YtpahjllcomejbaaW.PrintMore
open PX86Encodes (S32 k32)
abbrev x86Fs : List FK := [.int .i64, .int .i64, .int .i64, .int .i64, .int .i64, .int .u64]
theorem row_x86 {w : World} {a : Option Addr} {len cap : Nat} (h : RowF w a len cap x86Fs) (hl : len ≤ 9223372036854775807) :
    ∃ xs : List S32, xs.length = len ∧ Kd.C k32 w a len xs ∧ ∀ x ∈ xs, 0 ≤ x.f5 ∧ x.f5 < 18446744073709551616 := by
  rcases h with rfl | ⟨b, o, rfl, h1, h2, h3⟩
  · exact ⟨[], rfl, ⟨rfl, by omega, fun h => by omega⟩, fun x hx => by simp at hx⟩
  · have key : ∀ i, i < len → ∃ x : S32, (w.cell? ⟨b, o + (i * 6), none⟩ = some (.int .i64 x.f0) ∧ w.cell? ⟨b, o + (i * 6 + 1), none⟩ = some (.int .i64 x.f1) ∧ w.cell? ⟨b, o + (i * 6 + 2), none⟩ = some (.int .i64 x.f2) ∧
        w.cell? ⟨b, o + (i * 6 + 3), none⟩ = some (.int .i64 x.f3) ∧ w.cell? ⟨b, o + (i * 6 + 4), none⟩ = some (.int .i64 x.f4) ∧ w.cell? ⟨b, o + (i * 6 + 5), none⟩ = some (.int .u64 x.f5)) ∧ 0 ≤ x.f5 ∧ x.f5 < 18446744073709551616 := by
      intro i hi
      obtain ⟨v0, c0, n0, rfl, _⟩ := h3 i hi 0 _ rfl
      obtain ⟨v1, c1, n1, rfl, _⟩ := h3 i hi 1 _ rfl
      obtain ⟨v2, c2, n2, rfl, _⟩ := h3 i hi 2 _ rfl
      obtain ⟨v3, c3, n3, rfl, _⟩ := h3 i hi 3 _ rfl
      obtain ⟨v4, c4, n4, rfl, _⟩ := h3 i hi 4 _ rfl
      obtain ⟨v5, c5, n5, rfl, h5⟩ := h3 i hi 5 _ rfl
      refine ⟨⟨n0, n1, n2, n3, n4, n5⟩, ⟨c0, c1, c2, c3, c4, c5⟩, ?_⟩
      simp [Lit.wf, IntKind.min, IntKind.max, IntKind.signed, IntKind.bits] at h5
      show 0 ≤ n5 ∧ n5 < 18446744073709551616
      omega
    have list : ∀ n, n ≤ len → ∃ xs : List S32, xs.length = n ∧ (∀ x ∈ xs, 0 ≤ x.f5 ∧ x.f5 < 18446744073709551616) ∧ ∀ (i : Nat) (hi : i < xs.length), w.cell? ⟨b, o + (i * 6), none⟩ = some (.int .i64 xs[i].f0) ∧ w.cell? ⟨b, o + (i * 6 + 1), none⟩ = some (.int .i64 xs[i].f1) ∧
        w.cell? ⟨b, o + (i * 6 + 2), none⟩ = some (.int .i64 xs[i].f2) ∧ w.cell? ⟨b, o + (i * 6 + 3), none⟩ = some (.int .i64 xs[i].f3) ∧ w.cell? ⟨b, o + (i * 6 + 4), none⟩ = some (.int .i64 xs[i].f4) ∧ w.cell? ⟨b, o + (i * 6 + 5), none⟩ = some (.int .u64 xs[i].f5) := by
      intro n
      induction n with
      | zero => exact fun _ => ⟨[], rfl, fun x hx => by simp at hx, fun i hi => by simp at hi⟩
      | succ n ih =>
        intro hn
        obtain ⟨xs, hxl, hw, hx⟩ := ih (by omega)
        obtain ⟨x, hx', hx5⟩ := key n (by omega)
        refine ⟨xs ++ [x], by simp [hxl], fun y hy => ?_, fun i hi => ?_⟩
        · rcases List.mem_append.1 hy with h | h
          · exact hw y h
          · simp at h; subst h; exact hx5
        by_cases c : i < xs.length
        · rw [List.getElem_append_left c]; exact hx i c
        · obtain rfl : i = xs.length := by simp at hi; omega
          rw [List.getElem_append_right (Nat.le_refl _)]
          simp only [Nat.sub_self, List.getElem_cons_zero]
          rw [hxl]; exact hx'
    obtain ⟨xs, hxl, hw, hx⟩ := list len (Nat.le_refl _)
    refine ⟨xs, hxl, ⟨hxl, hl, fun _ => ⟨_, rfl, fun j p hp => ?_⟩⟩, hw⟩
    obtain ⟨hj, rfl⟩ := List.getElem?_eq_some_iff.1 hp
    obtain ⟨c0, c1, c2, c3, c4, c5⟩ := hx j hj
    have add : ∀ m, (⟨b, o, none⟩ : Addr).add m = ⟨b, o + m, none⟩ := fun m => addr_add b o m
    refine ⟨cellsX xs[j], rfl, ?_, fun i u hu => ?_⟩
    · exact ⟨[_], [_, _, _, _, _], rfl, rfl, [_], [_, _, _, _], rfl, rfl, [_], [_, _, _], rfl, rfl, [_], [_, _], rfl, rfl, [_], [_], rfl, rfl, rfl⟩
    · rw [add]
      match i, hu with
      | 0, hu => cases hu; exact c0
      | 1, hu => cases hu; exact c1
      | 2, hu => cases hu; exact c2
      | 3, hu => cases hu; exact c3
      | 4, hu => cases hu; exact c4
      | 5, hu => cases hu; exact c5
theorem back_row {w : World} {a : Option Addr} {len cap : Nat} (h : RowF w a len cap x86Fs) (hy : len * 48 ≤ 140737488351232) :
    Calls Try.prog 5 #[.slice a len cap] w fun e w' => e = .returned (.bool true) ∧ Below w.heap.size w w' := by
  have hcap : len ≤ cap := by
    rcases h with h | ⟨b, o, rfl, h1, h2, h3⟩ <;> omega
  obtain ⟨xs, rfl, hC, hw⟩ := row_x86 h (by omega)
  refine back_calls _ _ _ _ hC hcap (fun b' o' h0 e => ?_) hw (by omega)
  obtain ⟨b, o, e', hb⟩ := h.block (by decide) h0
  rw [e'] at e
  cases e
  exact hb
end Go.Proofs.Ytpahjllcomejbaa
