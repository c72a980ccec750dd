/- Contract of kmem's function Grace: it answers as the plain data (KA) say, in whatever order the map is gone over; condition: the world holds the memory (KM). -/
import Derived.Test.YtmgocjclopfeeaaKWalk6
set_option linter.unusedVariables false
set_option linter.unusedSimpArgs false
namespace Go.Proofs.Ytmgocjclopfeeaa
open Go.RowKit Go.MapKept
open Go.ChangeMaps (setBlock)

def graceCs (c : KC) (seen : Array Nat) : List RC := c.cs.filter fun r => !(r.a.ret && seen.contains r.born)
structure GI (w : World) (m : Nat) (c : KC) (wr : World) (seen : Array Nat) : Prop where
  it : wr.heap[w.heap.size]? = some (.mapIter (some c.mb) c.clk seen c.clk)
  mb : wr.heap[c.mb]? = some (.map ((graceCs c seen).map RC.entry).toArray c.clk)
  size : wr.heap.size = w.heap.size + 1
  os : wr.os = w.os
  tape : wr.tape = w.tape
  output : wr.output = w.output
  block : ∀ k, k < w.heap.size → k ≠ c.mb → wr.heap[k]? = w.heap[k]?
def leftCnt (c : KC) (it : Nat) (wr : World) : Nat :=
  match wr.heap[it]? with
  | some (.mapIter _ _ seen _) => (c.cs.filter fun r => !seen.contains r.born).length
  | _ => 0
theorem born_inj {c : KC} (hn : (c.cs.map (·.born)).Nodup) {q r : RC} (hq : q ∈ c.cs) (hr : r ∈ c.cs) (hb : q.born = r.born) : q = r := by
  obtain ⟨i, hi, e1⟩ := List.getElem_of_mem hq
  obtain ⟨j, hj, e2⟩ := List.getElem_of_mem hr
  have hp : c.cs.Pairwise (fun x y => x.born ≠ y.born) := by simpa [List.Nodup, List.pairwise_map] using hn
  have hp := List.pairwise_iff_getElem.1 hp
  rcases Nat.lt_trichotomy i j with hl | hl | hl
  · exact absurd (by rw [e1, e2]; exact hb) (hp i j hi hj hl)
  · subst hl; rw [← e1, e2]
  · exact absurd (by rw [e1, e2]; exact hb.symm) (hp j i hj hi hl)
theorem nodup_of_born {l : List RC} (h : (l.map (·.born)).Nodup) : l.Nodup := by
  have : l.Pairwise (fun x y => x.born ≠ y.born) := by simpa [List.Nodup, List.pairwise_map] using h
  exact this.imp fun h e => h (by rw [e])
theorem filter_less {α : Type} {l : List α} {p q : α → Bool} (hpq : ∀ x ∈ l, q x = true → p x = true) {r : α} (hr : r ∈ l) (hp : p r = true) (hq : q r = false) : (l.filter q).length < (l.filter p).length := by
  induction l with
  | nil => cases hr
  | cons x l ih =>
    have hle : ∀ {l : List α}, (∀ x ∈ l, q x = true → p x = true) → (l.filter q).length ≤ (l.filter p).length := by
      intro l
      induction l with
      | nil => intro _; simp
      | cons y l ih =>
        intro h
        have h1 := ih (fun x hx => h x (List.mem_cons_of_mem _ hx))
        have h2 := h y List.mem_cons_self
        simp only [List.filter_cons]
        cases hqy : q y with
        | false => simp only [Bool.false_eq_true, if_false]; split <;> simp <;> omega
        | true => rw [h2 hqy]; simp; omega
    simp only [List.filter_cons]
    rcases List.mem_cons.1 hr with rfl | hr
    · rw [hp, hq]
      have := hle (fun x hx => hpq x (List.mem_cons_of_mem _ hx))
      simp
      omega
    · have h1 := ih (fun x hx => hpq x (List.mem_cons_of_mem _ hx)) hr
      have h2 := hpq x List.mem_cons_self
      cases hqy : q x with
      | false => simp only [Bool.false_eq_true, if_false]; split <;> simp <;> omega
      | true => rw [h2 hqy]; simp; omega

theorem K.range (w : World) {m : Nat} {c : KC} (h : KM w m c) : (Instr.range 62 (.map (some c.mb))).run Try.prog w = .ok (.pointer (some ⟨w.heap.size, 0, none⟩)) (w.alloc (.mapIter (some c.mb) c.clk #[] c.clk)) := by
  simp [Instr.range, run_underlying K.und, getObj, Sem.run, h.hmb, Result.andThen, newObj]
end Go.Proofs.Ytmgocjclopfeeaa
