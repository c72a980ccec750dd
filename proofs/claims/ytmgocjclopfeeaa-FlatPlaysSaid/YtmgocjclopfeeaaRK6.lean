/- The reference's memory: Grace; condition: the memory is held. -/
import Derived.Test.YtmgocjclopfeeaaRK5
set_option linter.unusedVariables false
set_option linter.unusedSimpArgs false
namespace Go.Proofs.Ytmgocjclopfeeaa
open Go.RowKit Go.MapKept

theorem rk_neqn (W : World) (A : Option Addr) (n c : Nat) : (binOp .neq 39 (.slice A n c) (.slice none 0 0)).run Try.prog W = .ok (.bool (!A.isNone)) W := by
  simp only [binOp]
  simp [Op.equal, Op.maxDepth, Lib.run_equalIn_slice_nil W 9999 39 5 A n c 0 0 Try.underlying39]
def gk (k : KA) (j : Nat) : KA := { k with live := k.live.filter fun y => !(y.2.ret && decide (y.1 ≤ j)) }
theorem gk_succ (k : KA) (j : Nat) : (gk k (j + 1)).live = (gk k j).live.filter fun y => !(y.2.ret && y.1 == j + 1) := by
  unfold gk
  simp only [List.filter_filter]
  refine List.filter_congr fun y _ => ?_
  by_cases c : y.1 = j + 1
  · cases y.2.ret <;> simp [c]
  · have : decide (y.1 ≤ j + 1) = decide (y.1 ≤ j) := by rw [Bool.eq_iff_iff]; simp; omega
    rw [this]
    simp [c]
/-- The entry of a number that is live. -/
theorem RM.at_live {w : World} {x : Nat} {ls : List RE} {sv : Value} {k : KA} (h : RM w x ls sv k) {j : Nat} {ent : RE} (hj : ls[j]? = some ent) {y : Nat × RA} (hy : y ∈ k.live) (e : y.1 = j + 1) : ent.a = some y.2 := by
  rw [h.lv] at hy
  obtain ⟨h1, e', h2, h3⟩ := mem_liveOf ls 1 y hy
  rw [e, Nat.add_sub_cancel, hj] at h2
  cases h2
  exact h3
theorem gk_same {w : World} {x : Nat} {ls : List RE} {sv : Value} {k : KA} {j : Nat} (h : RM w x ls sv (gk k j)) {ent : RE} (hj : ls[j]? = some ent) (ha : ∀ q, ent.a = some q → q.ret = false) : gk k (j + 1) = gk k j := by
  have : (gk k (j + 1)).live = (gk k j).live := by
    rw [gk_succ, List.filter_eq_self.2]
    intro y hy
    by_cases c : y.1 = j + 1
    · rw [ha _ (h.at_live hj hy c)]; simp
    · simp [c]
  show ({ k with live := (gk k (j + 1)).live } : KA) = { k with live := (gk k j).live }
  rw [this]
def GraceRel (w : World) (x : Nat) (sv : Value) (k : KA) (n : Nat) (G : List Nat) (v : Value) (wr : World) : Prop :=
  ∃ (j : Nat) (ls : List RE), j ≤ n ∧ v = .int .i64 j ∧ RM wr x ls sv (gk k j) ∧ ls.length = n ∧ rfoot x sv ls = G ∧ Fr G G w wr
theorem GraceRel.same {w wr : World} {x : Nat} {sv : Value} {k : KA} {n : Nat} {G : List Nat} {j : Nat} {ls : List RE} (hj : j < n) (h : RM wr x ls sv (gk k j)) (hl : ls.length = n) (hG : rfoot x sv ls = G) (hf : Fr G G w wr) {ent : RE} (hli : ls[j]? = some ent) (ha : ∀ q, ent.a = some q → q.ret = false) :
    GraceRel w x sv k n G (.int .i64 ((j : Int) + 1)) wr := ⟨j + 1, ls, by omega, by simp, by rw [gk_same h hli ha]; exact h, hl, hG, hf⟩
end Go.Proofs.Ytmgocjclopfeeaa
