/- Plain laws for the longest prefix; no condition. -/
import Derived.Test.YtopdgpmeccdogaaTPure
import Derived.Test.YtopdgpmeccdogaaKMore
set_option linter.unusedVariables false
set_option linter.unusedSimpArgs false
namespace Go.Proofs.Ytopdgpmeccdogaa
open Go.RowKit Go.MapKept

/-- Two texts' first bits are the same. -/
def okB (l r : List Nat) (k : Nat) : Bool := (List.range k).all fun j => sbit l j == sbit r j
theorem okB_succ (l r : List Nat) (k : Nat) : okB l r (k + 1) = (okB l r k && (sbit l k == sbit r k)) := by
  simp [okB, List.range_succ]
theorem sbit_lt (l : List Nat) (i : Nat) : sbit l i < 2 := Nat.mod_lt _ (by decide)
theorem okB_iff (l r : List Nat) (k : Nat) : okB l r k = true ↔ spath k l = spath k r := by
  constructor
  · intro h
    refine spath_congr fun j hj => ?_
    have := List.all_eq_true.1 h j (List.mem_range.2 hj)
    simpa using this
  · intro h
    refine List.all_eq_true.2 fun j hj => ?_
    have hj := List.mem_range.1 hj
    have h1 : (spath k l)[j]? = (spath k r)[j]? := by rw [h]
    have h2 := sbit_lt l j
    have h3 := sbit_lt r j
    simp [spath, hj] at h1
    simp
    by_cases c1 : sbit l j = 1 <;> by_cases c2 : sbit r j = 1 <;> simp [c1, c2] at h1 ⊢ <;> omega
theorem spath_take (n k : Nat) (l : List Nat) (h : k ≤ n) : (spath n l).take k = spath k l := by
  unfold spath
  rw [← List.map_take, List.take_range, Nat.min_eq_left h]
/-- The longest prefix that has a value. -/
def Longest (f : List Bool → Nat) (p : List Bool) (best : Int) : Prop :=
  (best = -1 ∧ ∀ j, j ≤ p.length → f (p.take j) = 0) ∨ (∃ b : Nat, best = b ∧ b ≤ p.length ∧ f (p.take b) ≠ 0 ∧ ∀ j, b < j → j ≤ p.length → f (p.take j) = 0)
theorem lk_none {f : List Bool → Nat} {p : List Bool} (h : ∀ j, j ≤ p.length → f (p.take j) = 0) : lookF f p = 0 := by
  unfold lookF
  have := lk_stuck f p 0 p.length (fun k h1 h2 => h k (by omega))
  rw [Nat.zero_add] at this
  rw [this]
  have := h 0 (Nat.zero_le _)
  simpa [lk] using this
theorem lk_some {f : List Bool → Nat} {p : List Bool} {b : Nat} (hb : b ≤ p.length) (h1 : f (p.take b) ≠ 0) (h : ∀ j, b < j → j ≤ p.length → f (p.take j) = 0) : lookF f p = f (p.take b) := by
  unfold lookF
  have := lk_stuck f p b (p.length - b) (fun k h1 h2 => h k h1 (by omega))
  rw [show b + (p.length - b) = p.length by omega] at this
  rw [this]
  cases b with
  | zero => simp [lk]
  | succ b => rw [lk, if_pos h1]
structure TInv (f : List Bool → Nat) (n i : Nat) (k : KA) : Prop where
  cnt : n ≤ i
  gd : KGood k
  md : k.made ≤ i
  rg : ∀ p, f p ≠ 0 → ∃ j r, f p = j * 4294967296 ∧ 1 ≤ j ∧ j ≤ k.made ∧ k.get j = some r ∧ r.bytes = [p.length] ∧ r.perm = 3
  inj : ∀ p q, f p ≠ 0 → f p = f q → p = q
theorem TInv.start : TInv (fun _ => 0) 0 0 ⟨0, 0, []⟩ := ⟨Nat.le_refl _, ⟨rfl, by simp, by simp⟩, Nat.le_refl _, fun p h => absurd rfl h, fun p q h => absurd rfl h⟩
theorem TInv.update {f : List Bool → Nat} {n i : Nat} {k : KA} (H : TInv f n i k) (hi : i < 60) {N : Nat} (hN : N ≤ 32) {s : ByteArray} (hs : s.size = 4) :
    ∃ f' n' k', tupdate ⟨8, 1, 60⟩ f n k (tkey N s) (bstr (leBytes N 1)) 0 = (0, f', n', k') ∧ TInv f' n' (i + 1) k' ∧ f' (spath N (nats s)) ≠ 0 ∧ ∀ p, p ≠ spath N (nats s) → f' p = f p := by
  have hv : nats (bstr (leBytes N 1)) = [N] := by
    rw [nats_bstr _ (leBytes_lt N 1)]
    simp [leBytes]; omega
  have hvs : (bstr (leBytes N 1)).size = 1 := by rw [size_bstr, length_leBytes]
  have hpl := spath_length N (nats s)
  unfold tupdate
  rw [if_neg (by rw [ok_key 1 60 N hN s hs, hvs]; decide), tpath_key N hN, hv]
  generalize spath N (nats s) = p at *
  have hcn := H.cnt
  have hmd := H.md
  by_cases h0 : f p = 0
  · obtain ⟨a1, a2, a3, a4, a5⟩ := H.gd.alloc 1 (by omega) (by omega) (by omega)
    have hA1 := hi_mul (k.made + 1)
    have hA2 := lo_mul (k.made + 1)
    obtain ⟨A, hA⟩ : ∃ A, (k.made + 1) * 4294967296 = A := ⟨_, rfl⟩
    rw [hA] at a1 hA1 hA2
    have hA0 : A ≠ 0 := by omega
    have hAj : ∀ j, j ≤ k.made → A ≠ j * 4294967296 := fun j hj => by omega
    have hput := KA.put_ok (k := k.allocOk (1 : Nat) 3) (a := A) (v := [N]) hA1 hA2 (by omega) (by omega) a4 (by simp) (by simp)
    rw [if_pos h0]
    unfold tnew
    rw [if_neg (by decide), if_neg (by show ¬ n = 60; omega)]
    unfold tinsert
    rw [hv, show (TSpec.mk 8 1 60).value = 1 from rfl, a1, if_neg (by simp)]
    simp only [hput]
    refine ⟨_, _, _, rfl, ⟨by omega, a2.upd _ _, by show (k.allocOk (1 : Nat) 3).made ≤ _; omega, ?_, ?_⟩, ?_, ?_⟩
    · intro q hq
      unfold tset at hq ⊢
      by_cases hqp : q = p
      · rw [if_pos hqp]
        subst hqp
        refine ⟨k.made + 1, _, hA.symm, by omega, by show _ ≤ (k.allocOk (1 : Nat) 3).made; omega, by rw [KA.get_upd, if_pos rfl, a4]; rfl, ?_, rfl⟩
        rw [hpl]
        exact splice0 _ _ (by simp)
      · rw [if_neg hqp] at hq ⊢
        obtain ⟨j, r, b1, b2, b3, b4, b5, b6⟩ := H.rg q hq
        have b7 : (k.allocOk (1 : Nat) 3).get j = some r := by
          simp only [KA.get, Option.map_eq_some_iff] at b4
          obtain ⟨x, hx, rfl⟩ := b4
          simp only [KA.get, KA.allocOk, List.find?_append, hx, Option.some_or, Option.map_some]
        exact ⟨j, r, b1, b2, by show j ≤ (k.allocOk (1 : Nat) 3).made; omega, by rw [KA.get_upd, if_neg (by omega)]; exact b7, b5, b6⟩
    · intro q1 q2 hq he
      unfold tset at hq he
      by_cases c1 : q1 = p <;> by_cases c2 : q2 = p
      · rw [c1, c2]
      · rw [if_pos c1, if_neg c2] at he
        obtain ⟨j, r, b1, b2, b3, -⟩ := H.rg q2 (by rw [← he]; exact hA0)
        rw [b1] at he
        exact absurd he (hAj j b3)
      · rw [if_neg c1, if_pos c2] at he
        rw [if_neg c1] at hq
        obtain ⟨j, r, b1, b2, b3, -⟩ := H.rg q1 hq
        rw [b1] at he
        exact absurd he.symm (hAj j b3)
      · rw [if_neg c1, if_neg c2] at he
        rw [if_neg c1] at hq
        exact H.inj _ _ hq he
    · unfold tset
      rw [if_pos rfl]
      exact hA0
    · intro q hq
      unfold tset
      rw [if_neg hq]
  · rw [if_neg h0]
    obtain ⟨j, r, b1, b2, b3, b4, b5, b6⟩ := H.rg p h0
    have hput := KA.put_ok (k := k) (a := f p) (v := [N]) (by rw [b1]; exact hi_mul j) (by rw [b1]; exact lo_mul j) b2 b3 b4 (by rw [b5]; rfl) (by simp)
    rw [if_neg (by decide), hput]
    refine ⟨f, n, k.upd j (fun r => { r with bytes := splice r.bytes 0 [N] }), rfl, ⟨by omega, H.gd.upd _ _, by show k.made ≤ _; omega, ?_, H.inj⟩, h0, fun _ _ => rfl⟩
    intro q hq
    obtain ⟨j', r', c1, c2, c3, c4, c5, c6⟩ := H.rg q hq
    by_cases hj : j' = j
    · subst hj
      have hqp : q = p := H.inj q p hq (by rw [c1, b1])
      subst hqp
      refine ⟨j', { r with bytes := splice r.bytes 0 [N] }, c1, c2, c3, by rw [KA.get_upd, if_pos rfl, b4]; rfl, ?_, b6⟩
      rw [hpl]
      show splice r.bytes 0 [N] = [N]
      exact splice0 _ _ (by rw [b5]; rfl)
    · exact ⟨j', r', c1, c2, c3, by rw [KA.get_upd, if_neg hj]; exact c4, c5, c6⟩
theorem Longest.start (p : List Bool) : Longest (fun _ => 0) p (-1) := .inl ⟨rfl, fun _ _ => rfl⟩
theorem Longest.keep {f f' : List Bool → Nat} {p q : List Bool} {best : Int} (H : Longest f p best) (hq : ∀ r, r ≠ q → f' r = f r) (hno : ∀ j, j ≤ p.length → p.take j ≠ q) : Longest f' p best := by
  rcases H with ⟨h1, h2⟩ | ⟨b, h1, h2, h3, h4⟩
  · exact .inl ⟨h1, fun j hj => by rw [hq _ (hno j hj)]; exact h2 j hj⟩
  · exact .inr ⟨b, h1, h2, by rw [hq _ (hno b h2)]; exact h3, fun j h5 h6 => by rw [hq _ (hno j h6)]; exact h4 j h5 h6⟩
theorem Longest.more {f f' : List Bool → Nat} {p : List Bool} {best : Int} {N : Nat} (H : Longest f p best) (hN : N ≤ p.length) (hq : ∀ r, r ≠ p.take N → f' r = f r) (hne : f' (p.take N) ≠ 0) : Longest f' p (max best N) := by
  have hlen : ∀ j, j ≤ p.length → j ≠ N → p.take j ≠ p.take N := fun j hj hjn e => by
    have := congrArg List.length e
    simp only [List.length_take] at this
    omega
  rcases H with ⟨h1, h2⟩ | ⟨b, h1, h2, h3, h4⟩
  · exact .inr ⟨N, by omega, hN, hne, fun j h5 h6 => by rw [hq _ (hlen j h6 (by omega))]; exact h2 j h6⟩
  · by_cases hb : b ≤ N
    · exact .inr ⟨N, by omega, hN, hne, fun j h5 h6 => by rw [hq _ (hlen j h6 (by omega))]; exact h4 j (by omega) h6⟩
    · exact .inr ⟨b, by omega, h2, by rw [hq _ (hlen b h2 (by omega))]; exact h3, fun j h5 h6 => by rw [hq _ (hlen j h6 (by omega))]; exact h4 j h5 h6⟩
theorem Longest.step {f f' : List Bool → Nat} {at_ l : List Nat} {best : Int} {N : Nat} (H : Longest f (spath 32 at_) best) (hN : N ≤ 32) (hq : ∀ r, r ≠ spath N l → f' r = f r) (hne : f' (spath N l) ≠ 0) :
    Longest f' (spath 32 at_) (if okB l at_ N then max best N else best) := by
  by_cases h : okB l at_ N = true
  · rw [if_pos h]
    have e : (spath 32 at_).take N = spath N l := by rw [spath_take 32 N at_ hN]; exact ((okB_iff _ _ _).1 h).symm
    exact H.more (by rw [spath_length]; exact hN) (by rw [e]; exact hq) (by rw [e]; exact hne)
  · rw [if_neg h]
    refine H.keep hq fun j hj e => h ((okB_iff _ _ _).2 ?_)
    rw [spath_length] at hj
    rw [spath_take 32 j at_ hj] at e
    have hjn : j = N := by have := congrArg List.length e; simpa [spath_length] using this
    subst hjn
    exact e.symm
theorem TInv.read {f : List Bool → Nat} {n i : Nat} {k : KA} (H : TInv f n i k) {p : List Bool} (hp : f p ≠ 0) (hl : p.length < 256) : k.read (f p) 1 = (p.length, 0) := by
  obtain ⟨j, r, b1, b2, b3, b4, b5, b6⟩ := H.rg p hp
  have h1 : hi32 (f p) = j := by rw [b1]; exact hi_mul j
  have h2 : lo32 (f p) = 0 := by rw [b1]; exact lo_mul j
  unfold KA.read
  rw [if_pos (by decide)]
  unfold KA.span
  rw [h1, h2, if_neg (by omega), b4]
  simp only
  have e1 : ¬ (r.perm &&& 1 ≠ 1) := by rw [b6]; decide
  rw [if_neg e1, b5, if_neg (by simp)]
  simp [leNum, b5]
end Go.Proofs.Ytopdgpmeccdogaa
