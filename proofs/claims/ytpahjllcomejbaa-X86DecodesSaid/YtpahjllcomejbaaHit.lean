/- Several texts of this claim in one: each is told where it begins. -/
import Derived.Test.YtpahjllcomejbaaRLayAll
import Derived.Test.YtpahjllcomejbaaRBareH
import Derived.Test.YtpahjllcomejbaaQRefx1
import Derived.Test.YtpahjllcomejbaaRLay0
/- The reference's bare and lay in the form that printed texts take; no condition beyond each lemma's own. -/
set_option linter.unusedVariables false
set_option linter.unusedSimpArgs false
namespace Go.Proofs.Ytpahjllcomejbaa
open Go.RowKit Go.MapKept
open Go.Proofs.YtpahjllcomejbaaW.PrintWords Go.Proofs.YtpahjllcomejbaaW.PrintLast Go.Proofs.YtpahjllcomejbaaW.PrintMore
theorem rbare_calls (kd d s n i wd : Int) (w : World) : Calls Try.prog 30 #[.agg #[.int .i64 kd, .int .i64 d, .int .i64 s, .int .i64 n, .int .i64 i, .int .u64 wd]] w
    (TwoPost w (.agg #[.int .i64 (bareS kd d s n i wd).1, .int .i64 (bareS kd d s n i wd).2.1, .int .i64 (bareS kd d s n i wd).2.2.1, .int .i64 (bareS kd d s n i wd).2.2.2.1, .int .i64 (bareS kd d s n i wd).2.2.2.2.1, .int .u64 (bareS kd d s n i wd).2.2.2.2.2])) := by
  by_cases c17 : kd = 17
  · subst c17; exact rbare_17 d s n i wd w
  by_cases c28 : kd = 28
  · subst c28; exact rbare_28 d s n i wd w
  by_cases c29 : kd = 29
  · subst c29; exact rbare_29 d s n i wd w
  by_cases c21 : kd = 21
  · subst c21; exact rbare_21 d s n i wd w
  by_cases c22 : kd = 22
  · subst c22; exact rbare_22 d s n i wd w
  by_cases c2 : kd = 2
  · subst c2; exact rbare_2 d s n i wd w
  by_cases c18 : kd = 18
  · subst c18; exact rbare_18 d s n i wd w
  by_cases c19 : kd = 19
  · subst c19; exact rbare_19 d s n i wd w
  by_cases c20 : kd = 20
  · subst c20; exact rbare_20 d s n i wd w
  by_cases c26 : kd = 26
  · subst c26; exact rbare_26 d s n i wd w
  by_cases c27 : kd = 27
  · subst c27; exact rbare_27 d s n i wd w
  by_cases c11 : kd = 11
  · subst c11; exact rbare_11 d s n i wd w
  by_cases c12 : kd = 12
  · subst c12; exact rbare_12 d s n i wd w
  by_cases c13 : kd = 13
  · subst c13; exact rbare_13 d s n i wd w
  by_cases c14 : kd = 14
  · subst c14; exact rbare_14 d s n i wd w
  by_cases c15 : kd = 15
  · subst c15; exact rbare_15 d s n i wd w
  by_cases c16 : kd = 16
  · subst c16; exact rbare_16 d s n i wd w
  by_cases c23 : kd = 23
  · subst c23; exact rbare_23 d s n i wd w
  by_cases c24 : kd = 24
  · subst c24; exact rbare_24 d s n i wd w
  by_cases c25 : kd = 25
  · subst c25; exact rbare_25 d s n i wd w
  have e : bareS kd d s n i wd = (kd, d, s, 0, 0, 0) := by simp [bareS, c17, c28, c29, c21, c22, c2, c18, c19, c20, c26, c27, c11, c12, c13, c14, c15, c16, c23, c24, c25]
  rw [e]
  exact rbare_x kd d s n i wd ⟨c17, c28, c29, c21, c22, c2, c18, c19, c20, c26, c27, c11, c12, c13, c14, c15, c16, c23, c24, c25⟩ w
def rbare.f (kd d s n i wd : Int) : Option X6 := some (bareS kd d s n i wd)
theorem rbare.calls (kd d s n i wd r1 r2 r3 r4 r5 r6 : Int) (w : World) (h : rbare.f kd d s n i wd = some (r1, r2, r3, r4, r5, r6)) :
    Calls Try.prog 30 #[.agg #[.int .i64 kd, .int .i64 d, .int .i64 s, .int .i64 n, .int .i64 i, .int .u64 wd]] w fun e w' => e = .returned (.agg #[.int .i64 r1, .int .i64 r2, .int .i64 r3, .int .i64 r4, .int .i64 r5, .int .u64 r6]) ∧ Below w.heap.size w w' :=
  by
  have e : bareS kd d s n i wd = (r1, r2, r3, r4, r5, r6) := Option.some.inj h
  have := rbare_calls kd d s n i wd w
  rw [e] at this
  exact this.mono fun e W ⟨a, b⟩ => ⟨a, b.below (Nat.le_refl _) (by simp)⟩
def rtail.f (s : ByteArray) (n : Int) : Option Int := QRef.portcullisref24_tail.f 20 s n
theorem rtail.calls (s : ByteArray) (n : Int) (r : Int) (w : World) (h : rtail.f s n = some r) :
    Calls Try.prog 36 #[.string s, .int .i64 n] w fun e w' => e = .returned (.int .u64 r) ∧ Below w.heap.size w w' :=
  QRef.portcullisref24_tail.calls 20 s n r w h
end Go.Proofs.Ytpahjllcomejbaa

/- What the reference's guess tries: one pair of registers; no condition beyond each lemma's own. -/
set_option linter.unusedVariables false
set_option linter.unusedSimpArgs false
namespace Go.Proofs.Ytpahjllcomejbaa
open Go.RowKit Go.MapKept
open Go.Proofs.YtpahjllcomejbaaW.PrintWords Go.Proofs.YtpahjllcomejbaaW.PrintLast Go.Proofs.YtpahjllcomejbaaW.PrintMore

def tailV (l : List Int) (n : Nat) : Int := if l.length < n then 0 else leV (l.drop (l.length - n))
theorem tailV_range (l : List Int) (hl : ByteL l) (n : Nat) (h8 : n ≤ 8) : 0 ≤ tailV l n ∧ tailV l n < 18446744073709551616 := by
  unfold tailV
  split
  · omega
  · have hr := leV_range (l.drop (l.length - n)) (fun b hb => hl b (List.mem_of_mem_drop hb))
    have hp : (2 : Int) ^ (8 * (l.drop (l.length - n)).length) ≤ 2 ^ 64 := by
      have : (2 : Nat) ^ (8 * (l.drop (l.length - n)).length) ≤ 2 ^ 64 := Nat.pow_le_pow_right (by omega) (by simp; omega)
      exact_mod_cast this
    omega
theorem rtail_any (l : List Int) (hl : ByteL l) (n : Nat) (h8 : n ≤ 8) (hs : l.length ≤ 1000) : rtail.f (strOfNums l) n = some (tailV l n) := by
  unfold rtail.f tailV
  split
  · unfold QRef.portcullisref24_tail.f
    rw [if_pos (by rw [strOfNums_size]; omega)]
  · exact tail_eq l hl n h8 (by omega) hs
theorem rtail_calls (l : List Int) (hl : ByteL l) (n : Nat) (h8 : n ≤ 8) (hs : l.length ≤ 1000) (S : ByteArray) (hS : S = strOfNums l) (m : Int) (hm : m = n) (w : World) :
    Calls Try.prog 36 #[.string S, .int .i64 m] w (TwoPost w (.int .u64 (tailV l n))) := by
  subst hS hm
  exact (rtail.calls _ _ _ w (rtail_any l hl n h8 hs)).mono fun e W ⟨a, b⟩ => ⟨a, below_fr b⟩
/-- Those kinds whose four last bytes are a number. -/
def immK (k : Int) : Prop := k = 21 ∨ k = 22 ∨ k = 18 ∨ k = 19 ∨ k = 20
instance (k : Int) : Decidable (immK k) := by unfold immK; infer_instance
def fillS (y : X6) (l : List Int) : X6 :=
  if y.1 = 2 then (y.1, y.2.1, y.2.2.1, y.2.2.2.1, y.2.2.2.2.1, tailV l 8)
  else if immK y.1 then (y.1, y.2.1, y.2.2.1, y.2.2.2.1, wrap64 (wrap32 (tailV l 4)), y.2.2.2.2.2)
  else y
def okX (y : X6) : List Int := okB y.1 y.2.1 y.2.2.1 y.2.2.2.1 y.2.2.2.2.1 y.2.2.2.2.2
def hit (k0 k1 : Int) (sb : List Int) (d r : Int) : Option X6 :=
  if okX (bareS k0 d r k1 0 0) = [] ∨ sb.length < (okX (bareS k0 d r k1 0 0)).length then none
  else if okX (fillS (bareS k0 d r k1 0 0) (sb.take (okX (bareS k0 d r k1 0 0)).length)) = sb.take (okX (bareS k0 d r k1 0 0)).length then some (fillS (bareS k0 d r k1 0 0) (sb.take (okX (bareS k0 d r k1 0 0)).length)) else none
theorem str_inj (a b : List Int) (ha : ByteL a) (hb : ByteL b) (h : strOfNums a = strOfNums b) : a = b := by
  have hl : a.length = b.length := by rw [← strOfNums_size a, h, strOfNums_size]
  refine List.ext_getElem hl fun i h1 h2 => ?_
  have e1 := bt_str a ha i h1
  have e2 := bt_str b hb i h2
  rw [h, e2] at e1
  rw [List.getD_eq_getElem?_getD, List.getD_eq_getElem?_getD, List.getElem?_eq_getElem h1, List.getElem?_eq_getElem h2] at e1
  exact e1.symm
theorem fits32_of (n : Int) : fits32 (wrap64 (wrap32 n)) = true := by
  unfold fits32 wrap64 wrap32
  simp
  omega
theorem okX_bytes (y : X6) : ByteL (okX y) := by
  unfold okX okB
  split
  · exact .nil
  · exact layS_bytes _ _ _ _ _ _
/-- A thing with its own fields alone. -/
def OwnX (y : X6) : Prop := bareS y.1 y.2.1 y.2.2.1 y.2.2.2.1 y.2.2.2.2.1 y.2.2.2.2.2 = y
theorem own_bare (kd d s n i wd : Int) : OwnX (bareS kd d s n i wd) := by
  unfold OwnX
  by_cases c1 : kd = 17 ∨ kd = 28 ∨ kd = 29
  · rcases c1 with rfl | rfl | rfl <;> simp [bareS]
  by_cases c2 : kd = 21
  · subst c2; simp [bareS]
  by_cases c3 : kd = 22
  · subst c3; simp [bareS]
  by_cases c4 : kd = 2
  · subst c4; simp [bareS]
  by_cases c5 : kd = 18 ∨ kd = 19 ∨ kd = 20
  · rcases c5 with rfl | rfl | rfl <;> simp [bareS]
  by_cases c6 : kd = 26 ∨ kd = 27
  · rcases c6 with rfl | rfl <;> simp [bareS]
  by_cases c7 : kd = 11 ∨ kd = 12 ∨ kd = 13 ∨ kd = 14 ∨ kd = 15 ∨ kd = 16 ∨ kd = 23 ∨ kd = 24 ∨ kd = 25
  · rcases c7 with rfl | rfl | rfl | rfl | rfl | rfl | rfl | rfl | rfl <;> simp [bareS]
  have e : ∀ d s n i wd, bareS kd d s n i wd = (kd, d, s, 0, 0, 0) := fun d s n i wd => by
    unfold bareS
    rw [if_neg c1, if_neg c2, if_neg c3, if_neg c4, if_neg c5, if_neg c6, if_neg c7]
  rw [e]
  exact e _ _ _ _ _
theorem bare_kind (kd d s n i wd : Int) : (bareS kd d s n i wd).1 = kd := by
  unfold bareS
  (repeat' split) <;> rfl
theorem bare_drop (kd d s n i wd s' : Int) (h : (bareS kd d s n i wd).2.2.1 ≠ s) : bareS kd d s' n i wd = bareS kd d s n i wd := by
  unfold bareS at h ⊢
  (repeat' split) <;> simp_all
theorem hit_drop (k0 k1 : Int) (sb : List Int) (d r r' : Int) (h : (bareS k0 d r k1 0 0).2.2.1 ≠ r) : hit k0 k1 sb d r' = hit k0 k1 sb d r := by
  unfold hit
  rw [bare_drop k0 d r k1 0 0 r' h]
theorem own_fill (y : X6) (l : List Int) (h : OwnX y) : OwnX (fillS y l) := by
  obtain ⟨k, d, s, n, i, wd⟩ := y
  unfold fillS
  unfold OwnX at h ⊢
  dsimp only at h ⊢
  by_cases c2 : k = 2
  · subst c2
    rw [if_pos rfl]
    simp [bareS] at h ⊢
    obtain ⟨rfl, rfl, rfl⟩ := h
    simp
  · rw [if_neg c2]
    by_cases ci : immK k
    · rw [if_pos ci]
      unfold immK at ci
      rcases ci with rfl | rfl | rfl | rfl | rfl <;> (simp [bareS] at h ⊢; exact h)
    · rw [if_neg ci]; exact h
end Go.Proofs.Ytpahjllcomejbaa
