/- Plain laws of kmem's memory: what a step leaves as it was; no condition. -/
import Derived.Test.YtopdgpmeccdogaaKLaw
set_option linter.unusedVariables false
set_option linter.unusedSimpArgs false
namespace Go.Proofs.Ytopdgpmeccdogaa
open Go.RowKit Go.MapKept

/-! ### Memory -/
theorem KA.get_upd (k : KA) (n i : Nat) (f : RA → RA) : (k.upd n f).get i = if i = n then (k.get i).map f else k.get i := by
  unfold KA.get KA.upd
  simp only [List.find?_map]
  have e : ((fun x : Nat × RA => x.1 == i) ∘ fun x => if x.1 = n then (x.1, f x.2) else x) = fun x => x.1 == i := by
    funext x
    simp only [Function.comp_apply]
    split <;> rfl
  rw [e]
  cases hx : k.live.find? (fun x => x.1 == i) with
  | none => simp
  | some x =>
    have h1 := List.find?_some hx
    simp only [beq_iff_eq] at h1
    simp only [Option.map_some]
    rw [h1]
    split <;> rfl
/-- What a memory still holds in another. -/
structure KLe (k k' : KA) : Prop where
  made : k.made ≤ k'.made
  get : ∀ i r, k.get i = some r → ∃ r', k'.get i = some r' ∧ r'.bytes.length = r.bytes.length
theorem KLe.refl (k : KA) : KLe k k := ⟨Nat.le_refl _, fun i r h => ⟨r, h, rfl⟩⟩
theorem KLe.trans {a b c : KA} (h : KLe a b) (g : KLe b c) : KLe a c := ⟨Nat.le_trans h.made g.made, fun i r hr => by
  obtain ⟨r', h1, h2⟩ := h.get i r hr
  obtain ⟨r2, h3, h4⟩ := g.get i r' h1
  exact ⟨r2, h3, h4.trans h2⟩⟩
theorem KLe.upd (k : KA) (n : Nat) (f : RA → RA) (hf : ∀ r, k.get n = some r → (f r).bytes.length = r.bytes.length) : KLe k (k.upd n f) := ⟨Nat.le_refl _, fun i r hr => by
  rw [KA.get_upd]
  by_cases h : i = n
  · subst h
    rw [if_pos rfl, hr]
    exact ⟨_, rfl, hf r hr⟩
  · rw [if_neg h]
    exact ⟨r, hr, rfl⟩⟩
/-- A memory with room, in which nothing fails. -/
structure KGood (k : KA) : Prop where
  til : k.til = 0
  lv : k.live.length ≤ k.made
  nb : ∀ x ∈ k.live, x.1 ≤ k.made
theorem KGood.upd {k : KA} (h : KGood k) (n : Nat) (f : RA → RA) : KGood (k.upd n f) := by
  refine ⟨h.til, by simp [KA.upd]; exact h.lv, ?_⟩
  intro x hx
  simp only [KA.upd, List.mem_map] at hx
  obtain ⟨y, hy, rfl⟩ := hx
  have := h.nb y hy
  split <;> exact this
theorem KGood.alloc {k : KA} (h : KGood k) (n : Nat) (h1 : 1 ≤ n) (h2 : n ≤ 1048576) (hm : k.made < 4096) :
    k.alloc (n : Int) 3 = ((k.made + 1) * 4294967296, 0, k.allocOk n 3) ∧ KGood (k.allocOk n 3) ∧ KLe k (k.allocOk n 3) ∧ (k.allocOk n 3).get (k.made + 1) = some ⟨List.replicate n 0, 3, false⟩ ∧ (k.allocOk n 3).made = k.made + 1 := by
  have hl := h.lv
  refine ⟨?_, ⟨by simp [KA.allocOk, h.til], by simp [KA.allocOk]; exact hl, ?_⟩, ⟨by simp [KA.allocOk], fun i r hr => ?_⟩, ?_, rfl⟩
  · unfold KA.alloc
    rw [if_neg (by omega), if_neg (by rw [h.til]; decide), if_neg (by omega)]
  · intro x hx
    simp only [KA.allocOk, List.mem_append, List.mem_singleton] at hx ⊢
    rcases hx with hx | rfl
    · have := h.nb x hx; omega
    · simp
  · refine ⟨r, ?_, rfl⟩
    simp only [KA.get, Option.map_eq_some_iff] at hr
    obtain ⟨x, hx, rfl⟩ := hr
    simp only [KA.get, KA.allocOk, List.find?_append, hx, Option.some_or, Option.map_some]
  · have hno : k.live.find? (fun x => x.1 == k.made + 1) = none := by
      rw [List.find?_eq_none]
      intro x hx
      have := h.nb x hx
      simp; omega
    simp [KA.get, KA.allocOk, List.find?_append, hno]
theorem hi_mul (i : Nat) : hi32 (i * 4294967296) = i := by unfold hi32; omega
theorem lo_mul (i : Nat) : lo32 (i * 4294967296) = 0 := by unfold lo32; omega
theorem KA.put_ok {k : KA} {a i : Nat} {r : RA} {v : List Nat} (ha : hi32 a = i) (hb : lo32 a = 0) (h1 : 1 ≤ i) (h2 : i ≤ k.made) (hg : k.get i = some r) (hv : v.length = r.bytes.length) (hl : v.length ≤ 1048576) :
    k.put a v = (0, k.upd i fun r => { r with bytes := splice r.bytes 0 v }) := by
  unfold KA.put
  rw [if_neg (by omega)]
  unfold KA.span
  rw [ha, hb, if_neg (by omega), hg]
  simp only [Nat.and_zero, ne_eq, not_true_eq_false, if_false]
  rw [if_neg (by omega)]
theorem splice0 (b v : List Nat) (h : v.length = b.length) : splice b 0 v = v := by simp [splice, h]
theorem KA.retire_le (k : KA) (a : Nat) : KLe k (k.retire a).2 ∧ (KGood k → KGood (k.retire a).2) ∧ (k.retire a).2.made = k.made := by
  unfold KA.retire
  cases k.first a with
  | none => exact ⟨KLe.refl k, id, rfl⟩
  | some r =>
    simp only
    split
    · exact ⟨KLe.refl k, id, rfl⟩
    · refine ⟨?_, fun h => ?_, rfl⟩
      · show KLe k (k.upd (hi32 a) fun r => { r with ret := true })
        exact KLe.upd k _ _ (fun _ _ => rfl)
      show KGood (k.upd (hi32 a) fun r => { r with ret := true })
      exact h.upd _ _

end Go.Proofs.Ytopdgpmeccdogaa
