/- Both memories hold the same, each in blocks of its own; laws of that; conditions at each. -/
import Derived.Test.YtmgocjclopfeeaaRK9
import Derived.Deep.RegionHeld3
set_option linter.unusedVariables false
set_option linter.unusedSimpArgs false
namespace Go.Proofs.Ytmgocjclopfeeaa
open Go.RowKit Go.MapKept

/-- Both hold k, in blocks of their own, all of them made since W0. -/
structure BoW (W0 w : World) (m x : Nat) (k : KA) (F G : List Nat) : Prop where
  a : KS w m k F
  b : RS w x k G
  ap : ∀ b ∈ F, b ∉ G
  nf : ∀ b ∈ F, W0.heap.size ≤ b
  ng : ∀ b ∈ G, W0.heap.size ≤ b
  bl : Below W0.heap.size W0 w
theorem BoW.frame {W0 w w' : World} {m x : Nat} {k : KA} {F G : List Nat} (h : BoW W0 w m x k F G) (hf : Fr [] [] w w') : BoW W0 w' m x k F G :=
  ⟨h.a.frame fun b hb => hf.block b (h.a.lt b hb) (by simp), h.b.frame (fun b hb => hf.block b (h.b.lt b hb) (by simp)) hf.size, h.ap, h.nf, h.ng, h.bl.trans ((hf.below (Nat.le_refl _) (by simp)).mono h.bl.size)⟩
theorem BoW.left {W0 w w1 : World} {m x : Nat} {k k1 : KA} {F F1 G : List Nat} (h : BoW W0 w m x k F G) (h1 : KS w1 m k1 F1) (hf : Fr F F1 w w1) :
    RS w1 x k G ∧ (∀ b ∈ F1, b ∉ G) ∧ (∀ b ∈ F1, W0.heap.size ≤ b) ∧ Below W0.heap.size W0 w1 := by
  have hG : ∀ b ∈ G, b ∉ F := fun b hb hF => h.ap b hF hb
  refine ⟨h.b.frame (fun b hb => hf.block b (h.b.lt b hb) (hG b hb)) hf.size, fun b hb hg => ?_, fun b hb => ?_, h.bl.trans (hf.below h.bl.size (fun b hb => h.nf b hb))⟩
  · rcases hf.foot b hb with h2 | h2
    · exact h.ap b h2 hg
    · have := h.b.lt b hg; omega
  · rcases hf.foot b hb with h2 | h2
    · exact h.nf b h2
    · have := h.bl.size; omega
theorem BoW.both {W0 w w1 w2 : World} {m x : Nat} {k k1 : KA} {F F1 G G1 : List Nat} (h : BoW W0 w m x k F G) (h1 : KS w1 m k1 F1) (hf : Fr F F1 w w1) (h2 : RS w2 x k1 G1) (hg : Fr G G1 w1 w2) : BoW W0 w2 m x k1 F1 G1 := by
  obtain ⟨r1, r2, r3, r4⟩ := h.left h1 hf
  refine ⟨h1.frame fun b hb => hg.block b (h1.lt b hb) (r2 b hb), h2, fun b hb hb2 => ?_, r3, fun b hb => ?_, r4.trans (hg.below r4.size (fun b hb => h.ng b hb))⟩
  · rcases hg.foot b hb2 with h3 | h3
    · exact r2 b hb h3
    · have := h1.lt b hb; omega
  · rcases hg.foot b hb with h3 | h3
    · exact h.ng b h3
    · have := r4.size; omega
theorem fr_drew {F : List Nat} (w : World) : Fr F F w w.drew := ⟨rfl, rfl, rfl, Nat.le_refl _, fun _ _ _ => rfl, fun _ h => .inl h⟩
theorem fr_of_drew {F F' : List Nat} {w w' : World} (h : Fr F F' w.drew w') : Fr F F' w w' := ⟨h.os, h.tape, h.output, h.size, h.block, h.foot⟩
theorem do_keep {W1 W2 : World} {B : Nat} {o : Obj} {G G1 : List Nat} (hb : W1.heap[B]? = some o) (hf : Fr G G1 W1 W2) (hG : ∀ b ∈ G, b < B) : W2.heap[B]? = some o := by
  rw [hf.block B (lt_of_heap hb) (fun h => Nat.lt_irrefl _ (hG _ h))]
  exact hb
end Go.Proofs.Ytmgocjclopfeeaa
