/- Two rows of the same regions are the same for the reference's Same; both memories start alike; condition: each row is held. -/
import Derived.Test.YtmgocjclopfeeaaKRegs
import Derived.Test.YtmgocjclopfeeaaBoW
set_option linter.unusedVariables false
set_option linter.unusedSimpArgs false
namespace Go.Proofs.Ytmgocjclopfeeaa
open Go.RowKit Go.MapKept
attribute [local go_sem high] eqReg

set_option maxRecDepth 100000 in
set_option maxHeartbeats 2000000 in
theorem same_rows {w : World} {v1 v2 : Value} {l : List (Nat × RA)} (h1 : RowIs w v1 l) (h2 : RowIs w v2 l) (hn : l.length < 4294967296) :
    Calls Try.prog 22 #[v1, v2] w fun e W => e = .returned (.bool true) ∧ Fr [] [] w W := by
  have hu := Try.underlying97
  obtain ⟨A1, k1, rfl, g1⟩ := h1
  obtain ⟨A2, k2, rfl, g2⟩ := h2
  have G1 := hide g1
  have G2 := hide g2
  obtain ⟨n, hln⟩ : ∃ n, l.length = n := ⟨_, rfl⟩
  have HL := hide hln
  rw [hln] at hn ⊢
  clear g1 g2 hln
  go_enter Try.func22, Try.ntmps22
  go_wp2_with fail
  go_loopw [5] (fun v wr => ∃ i : Nat, i ≤ n ∧ v = .int .i64 i ∧ Fr [] [] w wr) (fun v _ => n - (intOf v).toNat)
  case atStart => exact ⟨0, by omega, rfl, Fr.refl _ _⟩
  case round =>
    obtain ⟨i, hi, rfl, hf⟩ := hrel
    have HF := hide hf
    by_cases hlt : i < n
    · obtain ⟨y, hy⟩ : ∃ y, l[i]? = some y := ⟨l[i]'(by rw [HL.out]; exact hlt), List.getElem?_eq_getElem _⟩
      have h0 : 0 < l.length := by rw [HL.out]; omega
      obtain ⟨ga, rfl, la, ca⟩ := G1.out h0
      obtain ⟨gb, rfl, lb, cb⟩ := G2.out h0
      have ea : ∀ j, wr.cell? ⟨ga, j, none⟩ = w.cell? ⟨ga, j, none⟩ := fun j => by simp only [World.cell?]; rw [hf.block ga la (by simp)]
      have eb : ∀ j, wr.cell? ⟨gb, j, none⟩ = w.cell? ⟨gb, j, none⟩ := fun j => by simp only [World.cell?]; rw [hf.block gb lb (by simp)]
      obtain ⟨a0, a1, a2⟩ := ca i y hy
      obtain ⟨d0, d1, d2⟩ := cb i y hy
      rw [← ea] at a0 a1 a2
      rw [← eb] at d0 d1 d2
      have hi0 : (0 : Int) ≤ i := by omega
      have hi1 : (i : Int) < n := by omega
      clear ca cb hy hf ea eb la lb h0
      go_wp2_with fail
      go_region
      go_wp2
      exact ⟨⟨i + 1, by omega, by simp, HF.out.trans ⟨rfl, rfl, rfl, Nat.le_refl _, fun _ _ _ => rfl, fun _ h => .inl h⟩⟩, by show n - ((i : Int) + 1).toNat < n - ((i : Int)).toNat; omega⟩
    · obtain rfl : i = n := by omega
      go_wp2
      go_ret
      exact ⟨rfl, HF.out⟩
theorem RS.start (w : World) : RS (w.alloc (memO (.slice none 0 0) 0 0)) w.heap.size ⟨0, 0, []⟩ [w.heap.size] := by
  refine ⟨[], .slice none 0 0, ⟨heap_alloc_new w _, World.ownsRow_nil _ _ _ _, fun e he => by simp at he, fun e he => by simp at he, fun e he => by simp at he, ?_, rfl, rfl⟩, rfl⟩
  simp [rfoot, Value.ownBlock]
theorem bow_start {w w1 : World} {m : Nat} {F : List Nat} (h : KS w1 m ⟨0, 0, []⟩ F) (hf : Fr [] F w w1) : BoW w (w1.alloc (memO (.slice none 0 0) 0 0)) m w1.heap.size ⟨0, 0, []⟩ F [w1.heap.size] := by
  refine ⟨h.alloc _, RS.start w1, fun b hb hb2 => ?_, fun b hb => ?_, fun b hb => ?_, ?_⟩
  · simp at hb2; subst hb2; exact Nat.lt_irrefl _ (h.lt _ hb)
  · rcases hf.foot b hb with h2 | h2
    · simp at h2
    · exact h2
  · simp at hb; subst hb; exact hf.size
  · exact (hf.alloc _).below (Nat.le_refl _) (by simp)
end Go.Proofs.Ytmgocjclopfeeaa
