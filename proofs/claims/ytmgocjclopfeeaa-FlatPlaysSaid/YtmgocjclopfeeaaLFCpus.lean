/- The law FlatCpus computes true for every argument and leaves old memory alone; no condition. -/
import Derived.Test.YtmgocjclopfeeaaFPure3
import Derived.Test.YtmgocjclopfeeaaFWalk8
set_option linter.unusedVariables false
set_option linter.unusedSimpArgs false
namespace Go.Proofs.Ytmgocjclopfeeaa
open Go.RowKit Go.MapKept
open Go.ChangeMaps (setBlock)

theorem update_own_one {w : World} {x m : Nat} {s : FSpec} {k : KA} {F : List Nat} {g cap : Nat} {l : List Nat} (h : FM w x m s (.own g cap l)) (hk : KS w m k F) (hd : x ∉ F) (hdg : g ∉ F) (key value : ByteArray) (fl : Int) (c a i : Nat) (hc : l[c]? = some a)
    (hf : findex key = i) (hi : i < s.max) (hv : value.size = s.value) (h0 : 0 ≤ fl) (h2 : fl ≤ 2) (h1 : fl ≠ 1) :
    Calls Try.prog 13 #[.pointer (some ⟨x, 0, none⟩), .string key, .string value, .int .i64 fl, .int .i64 c] w (FPost m F w (.int .i64 0) (fputs s i (nats value) [a] k)) := by
  refine update_own_go h hk hd hdg key value fl c i w.heap.size 1 [a] (fun w1 hs => ?_) (fun hf => Nat.lt_irrefl _ (hk.lt _ hf)) (fun a' ha' => ?_) (by simp) hf hi hv h0 h2 h1
  · have hcl : c < l.length := by
      rw [List.getElem?_eq_some_iff] at hc
      exact hc.1
    have hsz : w1.heap.size = w.heap.size := by rw [hs.heap]
    refine (own_each_one _ c a true w1 (by omega) (own_base_yes g l.length cap c a w1 hcl ((h.same hs).ownCells c a hc))).mono ?_
    rintro e w' ⟨rfl, rfl⟩
    refine ⟨by rw [hsz]; rfl, (Fr.refl [] w1).alloc _, fun j b hj => ?_⟩
    rw [← hsz]
    cases j with
    | zero =>
      simp at hj
      subst hj
      simp only [World.cell?, heap_alloc_new]; rfl
    | succ j => simp at hj
  · simp at ha'
    subst ha'
    exact h.ad _ (List.mem_of_getElem? hc)
theorem update_own_all {w : World} {x m : Nat} {s : FSpec} {k : KA} {F : List Nat} {g cap : Nat} {l : List Nat} (h : FM w x m s (.own g cap l)) (hk : KS w m k F) (hd : x ∉ F) (hdg : g ∉ F) (key value : ByteArray) (fl : Int) (i : Nat)
    (hf : findex key = i) (hi : i < s.max) (hv : value.size = s.value) (h0 : 0 ≤ fl) (h2 : fl ≤ 2) (h1 : fl ≠ 1) :
    Calls Try.prog 13 #[.pointer (some ⟨x, 0, none⟩), .string key, .string value, .int .i64 fl, .int .i64 (-1)] w (FPost m F w (.int .i64 0) (fputs s i (nats value) l k)) := by
  obtain ⟨-, -, -, hl8, -⟩ := h.own g cap l rfl
  refine update_own_go h hk hd hdg key value fl (-1) i g cap l (fun w1 hs => ?_) hdg h.ad hl8 hf hi hv h0 h2 h1
  refine (own_each_all _ w1).mono ?_
  rintro e w' ⟨rfl, rfl⟩
  exact ⟨rfl, Fr.refl [] w1, fun j b hj => (h.same hs).ownCells j b hj⟩
end Go.Proofs.Ytmgocjclopfeeaa
