/- Going over the hash table's entries in whatever order: one step of a range loop; condition: the table lies in the world. -/
import Derived.Test.YtgkbiknokpmjmaaHWalk3
set_option linter.unusedVariables false
set_option linter.unusedSimpArgs false
namespace Go.Proofs.Ytgkbiknokpmjmaa
open Go.RowKit Go.MapKept
open Go.ChangeMaps (setBlock)

structure HI (w : World) (t : HT) (wr : World) (seen : Array Nat) : Prop where
  it : wr.heap[w.heap.size]? = some (.mapIter (some t.lb) t.clk seen t.clk)
  size : wr.heap.size = w.heap.size + 1
  os : wr.os = w.os
  tape : wr.tape = w.tape
  output : wr.output = w.output
  block : ∀ k, k < w.heap.size → wr.heap[k]? = w.heap[k]?
def hleft (t : HT) (it : Nat) (wr : World) : Nat :=
  match wr.heap[it]? with
  | some (.mapIter _ _ seen _) => (t.es.filter fun r => !seen.contains r.born).length
  | _ => 0
theorem HI.start (w : World) (t : HT) : HI w t (w.alloc (.mapIter (some t.lb) t.clk #[] t.clk)) #[] :=
  ⟨heap_alloc_new _ _, by simp, rfl, rfl, rfl, fun k hk => Below.heap_alloc _ _ _ hk⟩
theorem HI.drew {w : World} {t : HT} {wr : World} {seen : Array Nat} (I : HI w t wr seen) : HI w t wr.drew seen := ⟨I.it, I.size, I.os, I.tape, I.output, I.block⟩
theorem HI.fr {w : World} {t : HT} {wr : World} {seen : Array Nat} (I : HI w t wr seen) : Fr [] [] w wr :=
  ⟨I.os, I.tape, I.output, by rw [I.size]; omega, fun k hk _ => I.block k hk, fun k hk => .inl hk⟩
theorem HI.hm {w : World} {x m : Nat} {s : HSpec} {t : HT} {wr : World} {seen : Array Nat} (I : HI w t wr seen) (h : HM w x m s t) : HM wr x m s t := h.frame fun b hb => I.block b (h.lt b hb)
theorem HK.range {w : World} {x m : Nat} {s : HSpec} {t : HT} (h : HM w x m s t) : (Instr.range 100 (.map (some t.lb))).run Try.prog w = .ok (.pointer (some ⟨w.heap.size, 0, none⟩)) (w.alloc (.mapIter (some t.lb) t.clk #[] t.clk)) := by
  simp [Instr.range, run_underlying HK.und, getObj, Sem.run, h.hl, Result.andThen, newObj]
theorem hfilter_less {α : Type} {l : List α} {p q : α → Bool} (hpq : ∀ x ∈ l, q x = true → p x = true) {r : α} (hr : r ∈ l) (hp : p r = true) (hq : q r = false) : (l.filter q).length < (l.filter p).length := by
  induction l with
  | nil => cases hr
  | cons x l ih =>
    have hle : ∀ {l : List α}, (∀ x ∈ l, q x = true → p x = true) → (l.filter q).length ≤ (l.filter p).length := by
      intro l
      induction l with
      | nil => intro _; simp
      | cons y l ih =>
        intro h
        have h1 := ih (fun x hx => h x (List.mem_cons_of_mem _ hx))
        have h2 := h y List.mem_cons_self
        simp only [List.filter_cons]
        cases hqy : q y with
        | false => simp only [Bool.false_eq_true, if_false]; split <;> simp <;> omega
        | true => rw [h2 hqy]; simp; omega
    simp only [List.filter_cons]
    rcases List.mem_cons.1 hr with rfl | hr
    · rw [hp, hq]
      have := hle (fun x hx => hpq x (List.mem_cons_of_mem _ hx))
      simp
      omega
    · have h1 := ih (fun x hx => hpq x (List.mem_cons_of_mem _ hx)) hr
      have h2 := hpq x List.mem_cons_self
      cases hqy : q x with
      | false => simp only [Bool.false_eq_true, if_false]; split <;> simp <;> omega
      | true => rw [h2 hqy]; simp; omega

theorem HI.next {w : World} {x m : Nat} {s : HSpec} {t : HT} {wr : World} {seen : Array Nat} (I : HI w t wr seen) (h : HM w x m s t) :
    ((∀ r ∈ t.es, seen.contains r.born = true) ∧ ∀ ty, (Instr.next (.pointer (some ⟨w.heap.size, 0, none⟩)) false ty).run Try.prog wr = .ok (.tuple #[.bool false]) wr) ∨
    ∃ r ∈ t.es, seen.contains r.born = false ∧ ∃ W2, HI w t W2 (seen.push r.born) ∧ (∀ ty, (Instr.next (.pointer (some ⟨w.heap.size, 0, none⟩)) false ty).run Try.prog wr = .ok (.tuple #[.bool true, .string r.e.key, .pointer (some ⟨r.b, 0, none⟩)]) W2) ∧
      (Instr.entry (.pointer (some ⟨w.heap.size, 0, none⟩))).run Try.prog W2 = .ok (.tuple #[.string r.e.key, .pointer (some ⟨r.b, 0, none⟩)]) W2 ∧ hleft t w.heap.size W2 < hleft t w.heap.size wr := by
  have hm := I.hm h
  have hold : ∀ x ∈ t.entries.toList, x.born < t.clk := by
    intro e he
    simp only [HT.entries, List.mem_map] at he
    obtain ⟨r, hr, rfl⟩ := he
    exact h.bc r hr
  rcases run_next_at (P := Try.prog) wr 0 w.heap.size t.lb t.clk t.clk seen _ t.clk I.it hm.hl hold (Nat.le_refl _) with ⟨h0, hrun⟩ | ⟨e, he, w1, hw1, hrun⟩
  · refine .inl ⟨fun r hr => ?_, fun _ => hrun⟩
    cases hc : seen.contains r.born with
    | true => rfl
    | false =>
      have : r.entry ∈ (leftOf t.entries seen).toList := by
        simp only [leftOf, Array.toList_filter, List.mem_filter, HT.entries, List.mem_map]
        exact ⟨⟨r, hr, rfl⟩, by simpa [HC.entry] using hc⟩
      rw [← Array.length_toList, List.length_eq_zero_iff] at h0
      rw [h0] at this
      cases this
  · have he2 : ∃ r ∈ t.es, e = r.entry ∧ seen.contains r.born = false := by
      simp only [leftOf, Array.toList_filter, List.mem_filter, HT.entries, List.mem_map] at he
      obtain ⟨⟨r, hr, rfl⟩, hs⟩ := he
      exact ⟨r, hr, rfl, by simpa [HC.entry] using hs⟩
    obtain ⟨r, hr, rfl, hs⟩ := he2
    have hh : w1.heap = wr.heap := by rcases hw1 with rfl | rfl <;> rfl
    have h1 : w1.os = w.os ∧ w1.tape = w.tape ∧ w1.output = w.output := by rcases hw1 with rfl | rfl <;> exact ⟨I.os, I.tape, I.output⟩
    have I2 : HI w t (setBlock w1 w.heap.size (.mapIter (some t.lb) t.clk (seen.push r.born) t.clk)) (seen.push r.born) := by
      refine ⟨heap_setBlock_same (by rw [hh]; exact I.it), by rw [size_setBlock, hh, I.size], h1.1, h1.2.1, h1.2.2, fun k hk => ?_⟩
      rw [← I.block k hk, ← hh]
      have : ¬ w.heap.size = k := by omega
      simp [setBlock, Array.getElem?_setIfInBounds, this]
    refine .inr ⟨r, hr, hs, _, I2, fun _ => hrun, ?_, ?_⟩
    · have hm2 := I2.hm h
      exact run_entry_at (P := Try.prog) _ w.heap.size t.lb t.clk seen _ t.clk r.entry I2.it hm2.hl (by simp only [HT.entries, List.mem_map]; exact ⟨r, hr, rfl⟩) (by simpa [HT.entries, Function.comp_def, HC.entry] using h.bn)
    · simp only [hleft, I2.it, I.it]
      exact hfilter_less (fun x _ hx => by simp at hx ⊢; exact fun e => hx.1 e) hr (by simpa using hs) (by simp)
end Go.Proofs.Ytgkbiknokpmjmaa
