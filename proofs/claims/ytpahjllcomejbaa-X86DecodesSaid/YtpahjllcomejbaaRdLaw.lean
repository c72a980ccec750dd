/- Several texts of this claim in one: each is told where it begins. -/
import Derived.Test.YtpahjllcomejbaaDec1
import Derived.Test.YtpahjllcomejbaaDec2
import Derived.Test.YtpahjllcomejbaaDec3
import Derived.Test.YtpahjllcomejbaaDec4
import Derived.Laws.Strings
import Derived.Test.YtpahjllcomejbaaShort6
import Derived.Test.YtpahjllcomejbaaX86Bits
import Derived.Laws.BitsAllLaws
/- x86's Decode, whole: what it tells, as a function; condition: the text is no longer than a string may be. -/
set_option linter.unusedVariables false
set_option linter.unusedSimpArgs false
namespace Go.Proofs.Ytpahjllcomejbaa
open Go.RowKit Go.MapKept
open Go.Proofs.YtpahjllcomejbaaW.PrintWords Go.Proofs.YtpahjllcomejbaaW.PrintLast Go.Proofs.YtpahjllcomejbaaW.PrintMore
open PX86Encodes

/-- What is read at a place, before it is looked at again. -/
def readX (k : Nat) (s : ByteArray) (a : Int) : Option X9 :=
  (x86_reader_next.f s a false).bind fun p =>
    if p.1 = 195 then some (29, 0, 0, 0, 0, 0, p.2.1, p.2.2.1, p.2.2.2)
    else if p.1 = 233 then (x86_reader_imm.f k p.2.1 p.2.2.1 p.2.2.2).bind fun q => some (21, 0, 0, 0, q.1, 0, q.2.1, q.2.2.1, q.2.2.2)
    else if p.1 = 15 then x86_reader_long.f k p.2.1 p.2.2.1 p.2.2.2 0
    else if p.1 = 102 then (x86_reader_next.f p.2.1 p.2.2.1 p.2.2.2).bind fun q => shortF k q.2.1 q.2.2.1 q.2.2.2 q.1 true
    else if 64 ≤ p.1 ∧ p.1 < 80 then shortF k p.2.1 p.2.2.1 p.2.2.2 p.1 false
    else some (0, 0, 0, 0, 0, 0, p.2.1, p.2.2.1, p.2.2.2)
theorem next_same {s : ByteArray} {a : Int} {e : Bool} {r : Int} {s' : ByteArray} {a' : Int} {e' : Bool} (h : x86_reader_next.f s a e = some (r, s', a', e')) : s' = s := by
  unfold x86_reader_next.f at h
  split at h
  · simp only [Option.some.injEq, Prod.mk.injEq] at h; exact h.2.1.symm
  · split at h
    · split at h
      · simp only [Option.some.injEq, Prod.mk.injEq] at h; exact h.2.1.symm
      · cases h
    · cases h
theorem toList_inj {a b : ByteArray} (h : a.toList = b.toList) : a = b := by
  have h' : a.data.toList = b.data.toList := by
    rw [← ByteArray.toList_eq, ← ByteArray.toList_eq, h]
  cases a; cases b
  simp at h'
  cases h'
  rfl
/-- The instruction at a place and its bytes, or the error: x is what was read there, up to a2. -/
def decE (s : ByteArray) (a : Int) (x : PX86Encodes.S32) (a2 : Int) (e2 : Bool) : X6 × Int × Int :=
  if e2 = false ∧ (encR (encX [x])).2 = 0 ∧ (encR (encX [x])).1 = s.extract a.toNat a2.toNat then (sx x, ((a2.toNat - a.toNat : Nat) : Int), 0) else ((0, 0, 0, 0, 0, 0), 0, 30)
def DecPost (w : World) (r : X6 × Int × Int) (e : Ending) (W : World) : Prop :=
  e = .returned (.tuple #[.agg #[.int .i64 r.1.1, .int .i64 r.1.2.1, .int .i64 r.1.2.2.1, .int .i64 r.1.2.2.2.1, .int .i64 r.1.2.2.2.2.1, .int .u64 r.1.2.2.2.2.2], .int .i64 r.2.1, .int .i64 r.2.2]) ∧ Below w.heap.size w W
theorem dec_pick {s : ByteArray} {a a2 : Int} {e2 : Bool} {x : PX86Encodes.S32} {w : World} {f : Nat} {args : Array Value} (hs2 : e2 = false → a ≤ a2 ∧ a2 ≤ s.size)
    (hend : e2 = true → Calls Try.prog f args w (DecPost w ((0, 0, 0, 0, 0, 0), 0, 30)))
    (hbad : e2 = false → (encR (encX [x])).2 ≠ 0 → Calls Try.prog f args w (DecPost w ((0, 0, 0, 0, 0, 0), 0, 30)))
    (hdif : e2 = false → (encR (encX [x])).2 = 0 → (encR (encX [x])).1.toList ≠ (s.extract a.toNat a2.toNat).toList → a ≤ a2 ∧ a2 ≤ s.size → Calls Try.prog f args w (DecPost w ((0, 0, 0, 0, 0, 0), 0, 30)))
    (hsame : e2 = false → (encR (encX [x])).2 = 0 → (encR (encX [x])).1 = s.extract a.toNat a2.toNat → a ≤ a2 ∧ a2 ≤ s.size → Calls Try.prog f args w (DecPost w (sx x, ((a2.toNat - a.toNat : Nat) : Int), 0))) :
    Calls Try.prog f args w (DecPost w (decE s a x a2 e2)) := by
  unfold decE
  cases e2 with
  | true => rw [if_neg (by simp)]; exact hend rfl
  | false =>
    by_cases h1 : (encR (encX [x])).2 = 0
    · by_cases h2 : (encR (encX [x])).1 = s.extract a.toNat a2.toNat
      · rw [if_pos ⟨rfl, h1, h2⟩]; exact hsame rfl h1 h2 (hs2 rfl)
      · rw [if_neg (fun c => h2 c.2.2)]; exact hdif rfl h1 (fun c => h2 (toList_inj c)) (hs2 rfl)
    · rw [if_neg (fun c => h1 c.2.1)]; exact hbad rfl h1
set_option maxHeartbeats 1000000 in
theorem decode_calls (k : Nat) (s : ByteArray) (a a2 : Int) (e2 : Bool) (r1 r2 r3 r4 r5 r6 : Int) (w : World) (hlen : s.size ≤ 9223372036854775807) (ha : 0 ≤ a ∧ a < s.size)
    (h : readX k s a = some (r1, r2, r3, r4, r5, r6, s, a2, e2)) (hs2 : e2 = false → a ≤ a2 ∧ a2 ≤ s.size) (h5 : 0 ≤ r6 ∧ r6 < 18446744073709551616) :
    Calls Try.prog 9 #[.string s, .int .i64 a] w (DecPost w (decE s a ⟨r1, r2, r3, r4, r5, r6⟩ a2 e2)) := by
  unfold readX at h
  obtain ⟨⟨b, s1, a1, e1⟩, hn, h⟩ := Option.bind_eq_some_iff.1 h
  obtain rfl := next_same hn
  simp only at h
  have hb := next_byte hn
  by_cases c195 : b = 195
  · subst c195
    rw [if_pos rfl] at h
    simp only [Option.some.injEq, Prod.mk.injEq] at h
    obtain ⟨rfl, rfl, rfl, rfl, rfl, rfl, _, rfl, rfl⟩ := h
    exact dec_pick hs2 (fun h1 => dec_195_end k s1 a a1 a1 e1 e1 0 0 0 0 0 0 w hlen ha hn ⟨rfl, rfl⟩ h5 h1) (fun h1 h2 => dec_195_bad k s1 a a1 a1 e1 e1 0 0 0 0 0 0 w hlen ha hn ⟨rfl, rfl⟩ h5 h1 h2)
      (fun h1 h2 h3 h4 => dec_195_differ k s1 a a1 a1 e1 e1 0 0 0 0 0 0 w hlen ha hn ⟨rfl, rfl⟩ h5 h1 h2 h3 h4) (fun h1 h2 h3 h4 => dec_195_same k s1 a a1 a1 e1 e1 0 0 0 0 0 0 w hlen ha hn ⟨rfl, rfl⟩ h5 h1 h2 h3 h4)
  rw [if_neg c195] at h
  by_cases c233 : b = 233
  · subst c233
    rw [if_pos rfl] at h
    obtain ⟨⟨n, s2, a3, e3⟩, hc, h⟩ := Option.bind_eq_some_iff.1 h
    simp only [Option.some.injEq, Prod.mk.injEq] at h
    obtain ⟨rfl, rfl, rfl, rfl, rfl, rfl, rfl, rfl, rfl⟩ := h
    exact dec_pick hs2 (fun h1 => dec_233_end k s2 a a1 a3 e1 e3 0 0 0 0 n 0 w hlen ha hn hc h5 h1) (fun h1 h2 => dec_233_bad k s2 a a1 a3 e1 e3 0 0 0 0 n 0 w hlen ha hn hc h5 h1 h2)
      (fun h1 h2 h3 h4 => dec_233_differ k s2 a a1 a3 e1 e3 0 0 0 0 n 0 w hlen ha hn hc h5 h1 h2 h3 h4) (fun h1 h2 h3 h4 => dec_233_same k s2 a a1 a3 e1 e3 0 0 0 0 n 0 w hlen ha hn hc h5 h1 h2 h3 h4)
  rw [if_neg c233] at h
  by_cases c15 : b = 15
  · subst c15
    rw [if_pos rfl] at h
    exact dec_pick hs2 (fun h1 => dec_15_end k s1 a a1 a2 e1 e2 r1 r2 r3 r4 r5 r6 w hlen ha hn h h5 h1) (fun h1 h2 => dec_15_bad k s1 a a1 a2 e1 e2 r1 r2 r3 r4 r5 r6 w hlen ha hn h h5 h1 h2)
      (fun h1 h2 h3 h4 => dec_15_differ k s1 a a1 a2 e1 e2 r1 r2 r3 r4 r5 r6 w hlen ha hn h h5 h1 h2 h3 h4) (fun h1 h2 h3 h4 => dec_15_same k s1 a a1 a2 e1 e2 r1 r2 r3 r4 r5 r6 w hlen ha hn h h5 h1 h2 h3 h4)
  rw [if_neg c15] at h
  by_cases c102 : b = 102
  · subst c102
    rw [if_pos rfl] at h
    obtain ⟨⟨b2, s2, a3, e3⟩, hc2, h⟩ := Option.bind_eq_some_iff.1 h
    obtain rfl := next_same hc2
    exact dec_pick hs2 (fun h1 => dec_102_end k s2 a a1 a2 e1 e2 r1 r2 r3 r4 r5 r6 w hlen ha hn b2 a3 e3 hc2 h h5 h1) (fun h1 h2 => dec_102_bad k s2 a a1 a2 e1 e2 r1 r2 r3 r4 r5 r6 w hlen ha hn b2 a3 e3 hc2 h h5 h1 h2)
      (fun h1 h2 h3 h4 => dec_102_differ k s2 a a1 a2 e1 e2 r1 r2 r3 r4 r5 r6 w hlen ha hn b2 a3 e3 hc2 h h5 h1 h2 h3 h4) (fun h1 h2 h3 h4 => dec_102_same k s2 a a1 a2 e1 e2 r1 r2 r3 r4 r5 r6 w hlen ha hn b2 a3 e3 hc2 h h5 h1 h2 h3 h4)
  rw [if_neg c102] at h
  by_cases c4 : 64 ≤ b ∧ b < 80
  · rw [if_pos c4] at h
    exact dec_pick hs2 (fun h1 => dec_4_end k s1 a a1 a2 e1 e2 r1 r2 r3 r4 r5 r6 b w hlen ha hn c4 h h5 h1) (fun h1 h2 => dec_4_bad k s1 a a1 a2 e1 e2 r1 r2 r3 r4 r5 r6 b w hlen ha hn c4 h h5 h1 h2)
      (fun h1 h2 h3 h4 => dec_4_differ k s1 a a1 a2 e1 e2 r1 r2 r3 r4 r5 r6 b w hlen ha hn c4 h h5 h1 h2 h3 h4) (fun h1 h2 h3 h4 => dec_4_same k s1 a a1 a2 e1 e2 r1 r2 r3 r4 r5 r6 b w hlen ha hn c4 h h5 h1 h2 h3 h4)
  rw [if_neg c4] at h
  simp only [Option.some.injEq, Prod.mk.injEq] at h
  obtain ⟨rfl, rfl, rfl, rfl, rfl, rfl, _, rfl, rfl⟩ := h
  have hno : b ≠ 195 ∧ b ≠ 233 ∧ b ≠ 15 ∧ b ≠ 102 ∧ b / 16 ≠ 4 ∧ 0 ≤ b ∧ b < 256 := ⟨c195, c233, c15, c102, by omega, hb⟩
  exact dec_pick hs2 (fun h1 => dec_no_end k s1 a a1 a1 e1 e1 0 0 0 0 0 0 b w hlen ha hn ⟨rfl, rfl⟩ hno h5 h1) (fun h1 h2 => dec_no_bad k s1 a a1 a1 e1 e1 0 0 0 0 0 0 b w hlen ha hn ⟨rfl, rfl⟩ hno h5 h1 h2)
    (fun h1 h2 h3 h4 => dec_no_differ k s1 a a1 a1 e1 e1 0 0 0 0 0 0 b w hlen ha hn ⟨rfl, rfl⟩ hno h5 h1 h2 h3 h4) (fun h1 h2 h3 h4 => dec_no_same k s1 a a1 a1 e1 e1 0 0 0 0 0 0 b w hlen ha hn ⟨rfl, rfl⟩ hno h5 h1 h2 h3 h4)
end Go.Proofs.Ytpahjllcomejbaa

/- What the reader reads, in numbers; condition: the place lies in the text. -/
set_option linter.unusedVariables false
set_option linter.unusedSimpArgs false
namespace Go.Proofs.Ytpahjllcomejbaa
open Go.RowKit Go.MapKept
open Go.Proofs.YtpahjllcomejbaaW.PrintWords Go.Proofs.YtpahjllcomejbaaW.PrintLast Go.Proofs.YtpahjllcomejbaaW.PrintMore
open PX86Encodes

theorem next_in (s : ByteArray) (hs : s.size ≤ 9223372036854775807) (a : Int) (e : Bool) (h : 0 ≤ a ∧ a < s.size) : x86_reader_next.f s a e = some (bt s a, s, a + 1, e) := by
  unfold x86_reader_next.f
  have w1 : wrap64 (a + 1) = a + 1 := by unfold wrap64; omega
  have w2 : wrap64 (a + 1 - 1) = a := by unfold wrap64; omega
  rw [if_neg (by omega), w1, w2, if_pos h.1, if_pos h.2]
theorem next_end (s : ByteArray) (a : Int) (e : Bool) (h : (s.size : Int) ≤ a) : x86_reader_next.f s a e = some (0, s, a, true) := by
  unfold x86_reader_next.f
  rw [if_pos (by omega)]
/-- A byte is read, or the end is told. -/
theorem next_some (s : ByteArray) (hs : s.size ≤ 9223372036854775807) (a : Int) (e : Bool) (h : 0 ≤ a ∧ a ≤ s.size) : ∃ r a' e', x86_reader_next.f s a e = some (r, s, a', e') ∧ a ≤ a' ∧ a' ≤ s.size ∧ 0 ≤ r ∧ r < 256 := by
  by_cases c : a < s.size
  · exact ⟨_, _, _, next_in s hs a e ⟨h.1, c⟩, by omega, by omega, (bt_range s a).1, by have := (bt_range s a).2; omega⟩
  · exact ⟨_, _, _, next_end s a e (by omega), by omega, by omega, by omega, by omega⟩
theorem u64_range (x y : Int) : 0 ≤ bits BinOp.or IntKind.u64 x y ∧ bits BinOp.or IntKind.u64 x y < 18446744073709551616 := by
  have e : bits BinOp.or IntKind.u64 x y = IntKind.u64.wrap (((BitVec.ofInt 64 x) ||| (BitVec.ofInt 64 y)).toNat : Int) := rfl
  rw [e]
  have : ∀ z : Int, IntKind.u64.wrap z = z % 18446744073709551616 := fun z => by simp [IntKind.wrap, IntKind.bits, IntKind.signed]
  rw [this]
  omega
theorem number_done (s : ByteArray) (m : Nat) (x a : Int) (e : Bool) (k i : Nat) (h1 : i = m) : x86_reader_number.l0 (k + 1) x m i s a e = some (x, s, a, e) := by
  rw [x86_reader_number.l0, if_neg (by omega)]
theorem number_step (s : ByteArray) (m : Nat) (x a a' : Int) (e e' : Bool) (k i : Nat) (r : Int) (hn : x86_reader_next.f s a e = some (r, s, a', e')) (h1 : i < m) (hm : m ≤ 8) : x86_reader_number.l0 (k + 1) x m i s a e = x86_reader_number.l0 k (Go.bits .or .u64 x (shl .u64 (IntKind.u64.wrap r) (8 * (i : Int)))) m ((i + 1 : Nat) : Int) s a' e' := by
  have w1 : wrap64 (8 * (i : Int)) = 8 * i := by unfold wrap64; omega
  have w2 : wrap64 ((i : Int) + 1) = ((i + 1 : Nat) : Int) := by unfold wrap64; omega
  rw [x86_reader_number.l0, if_pos (by omega), hn, Option.bind_some, w1, w2, if_pos (by omega)]
def U64 (x : Int) : Prop := 0 ≤ x ∧ x < 18446744073709551616
def Place (s : ByteArray) (a : Int) : Prop := 0 ≤ a ∧ a ≤ s.size
theorem number_some (s : ByteArray) (hs : s.size ≤ 9223372036854775807) : ∀ (n k i m : Nat) (x a : Int) (e : Bool), i + n = m → m ≤ 8 → n < k → Place s a → U64 x →
    ∃ r a' e', x86_reader_number.l0 k x m i s a e = some (r, s, a', e') ∧ a ≤ a' ∧ Place s a' ∧ U64 r := by
  intro n
  induction n with
  | zero =>
    intro k i m x a e h1 h2 h3 h4 h5
    obtain ⟨k, rfl⟩ : ∃ q, k = q + 1 := ⟨k - 1, by omega⟩
    exact ⟨x, a, e, number_done s m x a e k i (by omega), Int.le_refl _, h4, h5⟩
  | succ n ih =>
    intro k i m x a e h1 h2 h3 h4 h5
    obtain ⟨k, rfl⟩ : ∃ q, k = q + 1 := ⟨k - 1, by omega⟩
    obtain ⟨r, a', e', hn, b1, b2, b3, b4⟩ := next_some s hs a e h4
    have hp : Place s a' := ⟨Int.le_trans h4.1 b1, b2⟩
    have hu : U64 (Go.bits .or .u64 x (shl .u64 (IntKind.u64.wrap r) (8 * (i : Int)))) := u64_range _ _
    obtain ⟨r2, a2, e2, g1, g2, g3, g4⟩ := ih k (i + 1) m _ a' e' (by omega) h2 (by omega) hp hu
    exact ⟨r2, a2, e2, (number_step s m x a a' e e' k i r hn (by omega) h2).trans g1, Int.le_trans b1 g2, g3, g4⟩
/-- Bytes lie in a text at a place. -/
def At (s : ByteArray) (a : Int) (bs : List Int) : Prop := 0 ≤ a ∧ a + bs.length ≤ s.size ∧ ∀ i : Nat, i < bs.length → bt s (a + i) = bs.getD i 0
theorem At.cons {s : ByteArray} {a b : Int} {bs : List Int} (h : At s a (b :: bs)) : 0 ≤ a ∧ a < s.size ∧ bt s a = b ∧ At s (a + 1) bs := by
  obtain ⟨h0, h1, h2⟩ := h
  simp at h1
  refine ⟨h0, by omega, by simpa using h2 0 (by simp), by omega, by omega, fun i hi => ?_⟩
  have := h2 (i + 1) (by simpa using hi)
  simpa [show a + ((i : Int) + 1) = a + 1 + i by omega] using this
theorem next_at {s : ByteArray} (hs : s.size ≤ 9223372036854775807) {a b : Int} {bs : List Int} (h : At s a (b :: bs)) (e : Bool) : x86_reader_next.f s a e = some (b, s, a + 1, e) ∧ At s (a + 1) bs := by
  obtain ⟨h0, h1, h2, h3⟩ := h.cons
  exact ⟨by rw [next_in s hs a e ⟨h0, h1⟩, h2], h3⟩
theorem At.byte {s : ByteArray} {a b : Int} {bs : List Int} (h : At s a (b :: bs)) : 0 ≤ b ∧ b < 256 := by
  obtain ⟨_, _, h2, _⟩ := h.cons
  have := bt_range s a
  omega
theorem or_shl (x b : Int) (i : Nat) (hi : i ≤ 7) (hx : 0 ≤ x ∧ x < 2 ^ (8 * i)) (hb : 0 ≤ b ∧ b < 256) : bits BinOp.or IntKind.u64 x (shl .u64 (IntKind.u64.wrap b) (8 * (i : Int))) = x + b * 2 ^ (8 * i) := by
  have hw : ∀ z : Int, IntKind.u64.wrap z = z % 18446744073709551616 := fun z => by simp [IntKind.wrap, IntKind.bits, IntKind.signed]
  have hi' : i = 0 ∨ i = 1 ∨ i = 2 ∨ i = 3 ∨ i = 4 ∨ i = 5 ∨ i = 6 ∨ i = 7 := by omega
  have hsh : shl .u64 (IntKind.u64.wrap b) (8 * (i : Int)) = b * 2 ^ (8 * i) := by
    unfold shl
    rw [show min (8 * (i : Int)).toNat IntKind.u64.bits = 8 * i by simp [IntKind.bits]; omega, hw, hw]
    rcases hi' with rfl | rfl | rfl | rfl | rfl | rfl | rfl | rfl <;> simp <;> omega
  rw [hsh]
  obtain ⟨xn, rfl⟩ := Int.eq_ofNat_of_zero_le hx.1
  obtain ⟨bn, rfl⟩ := Int.eq_ofNat_of_zero_le hb.1
  have hp : (2 : Nat) ^ (8 * i) ≤ 2 ^ 56 := Nat.pow_le_pow_right (by omega) (by omega)
  have hpos : 0 < 2 ^ (8 * i) := Nat.two_pow_pos _
  have hxn : xn < 2 ^ (8 * i) := by have := hx.2; exact_mod_cast this
  have hbn : bn < 256 := by omega
  have hm : bn * 2 ^ (8 * i) < 18446744073709551616 := by
    calc bn * 2 ^ (8 * i) < 256 * 2 ^ (8 * i) := Nat.mul_lt_mul_of_pos_right hbn hpos
      _ ≤ 256 * 2 ^ 56 := Nat.mul_le_mul_left _ hp
      _ = 18446744073709551616 := by decide
  have hc : ((bn : Int) * 2 ^ (8 * i)) = ((bn * 2 ^ (8 * i) : Nat) : Int) := by simp
  rw [hc, u64_or_nat xn _ (by omega) hm, Nat.or_comm, nat_join (8 * i) _ xn (by simp) hxn]
  omega
/-- A number's value, from its lowest byte on. -/
def leV : List Int → Int
  | [] => 0
  | b :: bs => b + 256 * leV bs
theorem leV_range : ∀ (bs : List Int), (∀ b ∈ bs, 0 ≤ b ∧ b < 256) → 0 ≤ leV bs ∧ leV bs < 2 ^ (8 * bs.length)
  | [], _ => by simp [leV]
  | b :: bs, h => by
    have h1 := leV_range bs fun c hc => h c (List.mem_cons_of_mem _ hc)
    have h2 := h b (List.mem_cons_self ..)
    have e : (2 : Int) ^ (8 * (b :: bs).length) = 256 * 2 ^ (8 * bs.length) := by
      rw [List.length_cons, Nat.mul_add, Int.pow_add]; simp [Int.mul_comm]
    rw [e, leV]
    omega
theorem leV_snoc : ∀ (bs : List Int) (b : Int), leV (bs ++ [b]) = leV bs + b * 2 ^ (8 * bs.length)
  | [], b => by simp [leV]
  | c :: bs, b => by
    rw [List.cons_append, leV, leV, leV_snoc bs b]
    have e : (2 : Int) ^ (8 * (c :: bs).length) = 256 * 2 ^ (8 * bs.length) := by
      rw [List.length_cons, Nat.mul_add, Int.pow_add]; simp [Int.mul_comm]
    rw [e, Int.mul_add, ← Int.mul_assoc, ← Int.mul_assoc, Int.mul_comm 256 b]
    omega
theorem number_at {s : ByteArray} (hs : s.size ≤ 9223372036854775807) (m : Nat) (hm : m ≤ 8) : ∀ (todo done : List Int) (k : Nat) (a : Int) (e : Bool), done.length + todo.length = m → todo.length < k → (∀ b ∈ done, 0 ≤ b ∧ b < 256) → ∀ rest, At s a (todo ++ rest) →
    x86_reader_number.l0 k (leV done) m done.length s a e = some (leV (done ++ todo), s, a + todo.length, e) ∧ At s (a + todo.length) rest := by
  intro todo
  induction todo with
  | nil =>
    intro done k a e h1 h2 h3 rest h4
    obtain ⟨k, rfl⟩ : ∃ q, k = q + 1 := ⟨k - 1, by omega⟩
    have := number_done s m (leV done) a e k done.length (by simpa using h1)
    simp only [List.append_nil, List.length_nil, Int.natCast_zero, Int.add_zero]
    exact ⟨this, by simpa using h4⟩
  | cons b todo ih =>
    intro done k a e h1 h2 h3 rest h4
    obtain ⟨k, rfl⟩ : ∃ q, k = q + 1 := ⟨k - 1, by omega⟩
    rw [List.cons_append] at h4
    obtain ⟨hn, hat⟩ := next_at hs h4 e
    have hb := h4.byte
    have hl : done.length ≤ 7 := by simp at h1; omega
    have hst := number_step s m (leV done) a (a + 1) e e k done.length b hn (by simp at h1; omega) hm
    rw [or_shl _ _ _ hl (leV_range done h3) hb, ← leV_snoc] at hst
    obtain ⟨g1, g2⟩ := ih (done ++ [b]) k (a + 1) e (by simp at h1 ⊢; omega) (by simpa using h2) (fun c hc => by
      rcases List.mem_append.1 hc with h | h
      · exact h3 c h
      · simp at h; subst h; exact hb) rest hat
    rw [List.length_append, List.length_singleton] at g1
    have e1 : a + 1 + (todo.length : Int) = a + ((b :: todo).length : Nat) := by simp; omega
    rw [e1] at g1 g2
    refine ⟨hst.trans (g1.trans ?_), g2⟩
    simp
theorem number_f {s : ByteArray} (hs : s.size ≤ 9223372036854775807) {a : Int} {bs rest : List Int} {m : Nat} (h : At s a (bs ++ rest)) (hm : bs.length = m) (h8 : m ≤ 8) (k : Nat) (hk : 8 < k) (e : Bool) :
    x86_reader_number.f k s a e m = some (leV bs, s, a + m, e) ∧ At s (a + m) rest := by
  have := number_at hs m h8 bs [] k a e (by simpa using hm) (by omega) (by simp) rest h
  subst hm
  unfold x86_reader_number.f
  simpa [leV] using this
/-- Four bytes as a number. -/
theorem leV_b4 (n : Int) : wrap64 (wrap32 (leV (b4 n))) = wrap32 n := by
  have e : leV (b4 n) = n % 4294967296 := by
    simp only [b4, leV]
    omega
  rw [e]
  unfold wrap64 wrap32
  omega
theorem fits32_eq {n : Int} (h : fits32 n = true) : wrap32 n = n := by
  simp [fits32] at h
  unfold wrap32
  omega
theorem imm_at {s : ByteArray} (hs : s.size ≤ 9223372036854775807) {a n : Int} {rest : List Int} (h : At s a (b4 n ++ rest)) (hf : fits32 n = true) (k : Nat) (hk : 8 < k) (e : Bool) :
    x86_reader_imm.f k s a e = some (n, s, a + 4, e) ∧ At s (a + 4) rest := by
  obtain ⟨h1, h2⟩ := number_f (m := 4) hs h rfl (by omega) k hk e
  refine ⟨?_, by simpa using h2⟩
  unfold x86_reader_imm.f
  have h1' : x86_reader_number.f k s a e 4 = some (leV (b4 n), s, a + 4, e) := by simpa using h1
  rw [h1', Option.bind_some, leV_b4, fits32_eq hf]
theorem leV_leB (N : Nat) : ∀ m, leV (leB (N : Int) m) = ((N % 2 ^ (8 * m) : Nat) : Int)
  | 0 => by simp [leB, leV, Nat.mod_one]
  | m + 1 => by
    have hl : (leB (N : Int) m).length = m := by simp [leB]
    rw [leB_succ, leV_snoc, leV_leB N m, hl]
    have e : (2 : Nat) ^ (8 * (m + 1)) = 2 ^ (8 * m) * 256 := by rw [Nat.mul_add, Nat.pow_add]
    rw [e, Nat.mod_mul]
    simp [Int.mul_comm]
def regB (rex b : Int) : Int := b / 8 % 8 + rex / 4 % 2 * 8
def rmB (rex b : Int) : Int := b % 8 + rex % 2 * 8
theorem fields_eq (s : ByteArray) (a : Int) (e : Bool) (rex b : Int) (a' : Int) (e' : Bool) (hr : 0 ≤ rex ∧ rex < 256) (hn : x86_reader_next.f s a e = some (b, s, a', e')) :
    x86_reader_fields.f s a e rex = if b / 64 = 2 then (if b % 8 = 4 then (x86_reader_next.f s a' e').bind fun q => some (true, regB rex b, rmB rex b, q.2.1, q.2.2.1, q.2.2.2) else some (true, regB rex b, rmB rex b, s, a', e')) else some (false, regB rex b, rmB rex b, s, a', e') := by
  have hb := next_byte hn
  have e1 : Go.bits .and .u8 b 7 = b % 8 := u8_7 b hb.1 hb.2
  have e2 : Go.bits .and .u8 (b / 8) 7 = b / 8 % 8 := u8_7 _ (by omega) (by omega)
  have e3 : Go.bits .and .u8 rex 1 = rex % 2 := u8_1 rex hr.1 hr.2
  have e4 : Go.bits .and .u8 (rex / 4) 1 = rex / 4 % 2 := u8_1 _ (by omega) (by omega)
  have w : ∀ x : Int, 0 ≤ x → x < 256 → wrap64 x = x := fun x h0 h1 => by unfold wrap64; omega
  have o1 : Go.bits .or .i64 (b % 8) (rex % 2 * 8) = rmB rex b := i64_or3 _ _ (by omega) (by omega)
  have o2 : Go.bits .or .i64 (b / 8 % 8) (rex / 4 % 2 * 8) = regB rex b := i64_or3 _ _ (by omega) (by omega)
  have o3 : Go.bits .and .i64 (rmB rex b) 7 = b % 8 := by
    have := and7 (rmB rex b)
    unfold rmB at *
    rw [this]
    omega
  unfold x86_reader_fields.f
  rw [hn, Option.bind_some]
  simp only [e1, e2, e3, e4]
  rw [w (b % 8) (by omega) (by omega), w (b / 8 % 8) (by omega) (by omega), w (rex % 2) (by omega) (by omega), w (rex / 4 % 2) (by omega) (by omega), w (rex % 2 * 8) (by omega) (by omega), w (rex / 4 % 2 * 8) (by omega) (by omega), o1, o2, o3]
  by_cases c : b / 64 = 2
  · rw [if_pos c, if_pos c]; simp [c]
  · rw [if_neg c, if_neg c]; simp [c]
end Go.Proofs.Ytpahjllcomejbaa
