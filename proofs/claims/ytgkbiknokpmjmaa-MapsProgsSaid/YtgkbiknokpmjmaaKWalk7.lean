/- Contract of kmem's function Grace: it answers as the plain data (KA) say, in whatever order the map is gone over; condition: the world holds the memory (KM). -/
import Derived.Test.YtgkbiknokpmjmaaKWalk6
set_option linter.unusedVariables false
set_option linter.unusedSimpArgs false
namespace Go.Proofs.Ytgkbiknokpmjmaa
open Go.RowKit Go.MapKept
open Go.ChangeMaps (setBlock)

def graceCs (c : KC) (seen : Array Nat) : List RC := c.cs.filter fun r => !(r.a.ret && seen.contains r.born)
structure GI (w : World) (m : Nat) (c : KC) (wr : World) (seen : Array Nat) : Prop where
  it : wr.heap[w.heap.size]? = some (.mapIter (some c.mb) c.clk seen c.clk)
  mb : wr.heap[c.mb]? = some (.map ((graceCs c seen).map RC.entry).toArray c.clk)
  size : wr.heap.size = w.heap.size + 1
  os : wr.os = w.os
  tape : wr.tape = w.tape
  output : wr.output = w.output
  block : ∀ k, k < w.heap.size → k ≠ c.mb → wr.heap[k]? = w.heap[k]?
def leftCnt (c : KC) (it : Nat) (wr : World) : Nat :=
  match wr.heap[it]? with
  | some (.mapIter _ _ seen _) => (c.cs.filter fun r => !seen.contains r.born).length
  | _ => 0
theorem mem_leftOf {c : KC} {seen : Array Nat} {e : MapEntry} (h : e ∈ (leftOf ((graceCs c seen).map RC.entry).toArray seen).toList) : ∃ r ∈ c.cs, e = r.entry ∧ seen.contains r.born = false := by
  simp only [leftOf, Array.toList_filter, List.mem_filter, List.mem_map, graceCs] at h
  obtain ⟨⟨r, ⟨hr, _⟩, rfl⟩, hs⟩ := h
  exact ⟨r, hr, rfl, by simpa [RC.entry] using hs⟩
theorem none_left {c : KC} {seen : Array Nat} (h : (leftOf ((graceCs c seen).map RC.entry).toArray seen).size = 0) : graceCs c seen = c.cs.filter fun r => !r.a.ret := by
  have h0 : ∀ r ∈ graceCs c seen, seen.contains r.born = true := by
    intro r hr
    cases hc : seen.contains r.born with
    | true => rfl
    | false =>
      have : r.entry ∈ (leftOf ((graceCs c seen).map RC.entry).toArray seen).toList := by
        simp only [leftOf, Array.toList_filter, List.mem_filter, List.mem_map]
        exact ⟨⟨r, hr, rfl⟩, by simpa [RC.entry] using hc⟩
      rw [← Array.length_toList, List.length_eq_zero_iff] at h
      rw [h] at this
      cases this
  unfold graceCs at h0 ⊢
  apply List.filter_congr
  intro r hr
  cases hret : r.a.ret with
  | false => simp
  | true =>
    cases hc : seen.contains r.born with
    | true => simp
    | false =>
      have := h0 r (List.mem_filter.2 ⟨hr, by simp [hret]; simpa using hc⟩)
      rw [this] at hc
      cases hc
theorem grace_keep {c : KC} {seen : Array Nat} {r : RC} (hn : (c.cs.map (·.born)).Nodup) (hr : r ∈ c.cs) (hret : r.a.ret = false) : graceCs c (seen.push r.born) = graceCs c seen := by
  unfold graceCs
  apply List.filter_congr
  intro q hq
  by_cases hb : q.born = r.born
  · have : q = r := by
      obtain ⟨i, hi, e1⟩ := List.getElem_of_mem hq
      obtain ⟨j, hj, e2⟩ := List.getElem_of_mem hr
      have hp : c.cs.Pairwise (fun x y => x.born ≠ y.born) := by simpa [List.Nodup, List.pairwise_map] using hn
      have hp := List.pairwise_iff_getElem.1 hp
      rcases Nat.lt_trichotomy i j with hl | hl | hl
      · exact absurd (by rw [e1, e2]; exact hb) (hp i j hi hj hl)
      · subst hl; rw [← e1, e2]
      · exact absurd (by rw [e1, e2]; exact hb.symm) (hp j i hj hi hl)
    subst this
    simp [hret]
  · simp [hb]
theorem born_inj {c : KC} (hn : (c.cs.map (·.born)).Nodup) {q r : RC} (hq : q ∈ c.cs) (hr : r ∈ c.cs) (hb : q.born = r.born) : q = r := by
  obtain ⟨i, hi, e1⟩ := List.getElem_of_mem hq
  obtain ⟨j, hj, e2⟩ := List.getElem_of_mem hr
  have hp : c.cs.Pairwise (fun x y => x.born ≠ y.born) := by simpa [List.Nodup, List.pairwise_map] using hn
  have hp := List.pairwise_iff_getElem.1 hp
  rcases Nat.lt_trichotomy i j with hl | hl | hl
  · exact absurd (by rw [e1, e2]; exact hb) (hp i j hi hj hl)
  · subst hl; rw [← e1, e2]
  · exact absurd (by rw [e1, e2]; exact hb.symm) (hp j i hj hi hl)
theorem nodup_of_born {l : List RC} (h : (l.map (·.born)).Nodup) : l.Nodup := by
  have : l.Pairwise (fun x y => x.born ≠ y.born) := by simpa [List.Nodup, List.pairwise_map] using h
  exact this.imp fun h e => h (by rw [e])
theorem erase_filter {l : List RC} (hn : l.Nodup) {j : Nat} {r : RC} (hj : l[j]? = some r) : l.eraseIdx j = l.filter fun q => decide (q ≠ r) := by
  induction l generalizing j with
  | nil => simp at hj
  | cons x l ih =>
    rw [List.nodup_cons] at hn
    cases j with
    | zero =>
      simp only [List.getElem?_cons_zero, Option.some.injEq] at hj
      subst hj
      rw [List.eraseIdx_cons_zero, List.filter_cons]
      simp only [ne_eq, not_true_eq_false, decide_false, Bool.false_eq_true, if_false]
      symm
      rw [List.filter_eq_self]
      intro q hq
      simp only [decide_eq_true_eq]
      intro e
      exact hn.1 (e ▸ hq)
    | succ j =>
      simp only [List.getElem?_cons_succ] at hj
      have hne : x ≠ r := fun e => hn.1 (e ▸ List.mem_of_getElem? hj)
      rw [List.eraseIdx_cons_succ, List.filter_cons, ih hn.2 hj]
      simp [hne]
theorem grace_drop {c : KC} {seen : Array Nat} {r : RC} (hn : (c.cs.map (·.born)).Nodup) (hr : r ∈ c.cs) (hret : r.a.ret = true) {j : Nat} (hj : (graceCs c seen)[j]? = some r) :
    graceCs c (seen.push r.born) = (graceCs c seen).eraseIdx j := by
  rw [show (graceCs c seen).eraseIdx j = _ from erase_filter ((nodup_of_born hn).filter _) hj]
  unfold graceCs
  rw [List.filter_filter]
  apply List.filter_congr
  intro q hq
  by_cases hb : q.born = r.born
  · have := born_inj hn hq hr hb
    subst this
    simp [hret]
  · have hne : q ≠ r := fun e => hb (by rw [e])
    simp [hb, hne]
theorem filter_less {α : Type} {l : List α} {p q : α → Bool} (hpq : ∀ x ∈ l, q x = true → p x = true) {r : α} (hr : r ∈ l) (hp : p r = true) (hq : q r = false) : (l.filter q).length < (l.filter p).length := by
  induction l with
  | nil => cases hr
  | cons x l ih =>
    have hle : ∀ {l : List α}, (∀ x ∈ l, q x = true → p x = true) → (l.filter q).length ≤ (l.filter p).length := by
      intro l
      induction l with
      | nil => intro _; simp
      | cons y l ih =>
        intro h
        have h1 := ih (fun x hx => h x (List.mem_cons_of_mem _ hx))
        have h2 := h y List.mem_cons_self
        simp only [List.filter_cons]
        cases hqy : q y with
        | false => simp only [Bool.false_eq_true, if_false]; split <;> simp <;> omega
        | true => rw [h2 hqy]; simp; omega
    simp only [List.filter_cons]
    rcases List.mem_cons.1 hr with rfl | hr
    · rw [hp, hq]
      have := hle (fun x hx => hpq x (List.mem_cons_of_mem _ hx))
      simp
      omega
    · have h1 := ih (fun x hx => hpq x (List.mem_cons_of_mem _ hx)) hr
      have h2 := hpq x List.mem_cons_self
      cases hqy : q x with
      | false => simp only [Bool.false_eq_true, if_false]; split <;> simp <;> omega
      | true => rw [h2 hqy]; simp; omega

/-- Some regions less. -/
theorem KM.fewer {w wr : World} {m : Nat} {c : KC} (h : KM w m c) (p : RC → Bool) (hmb : wr.heap[c.mb]? = some (.map ((c.cs.filter p).map RC.entry).toArray c.clk))
    (hb : ∀ k, k < w.heap.size → k ≠ c.mb → wr.heap[k]? = w.heap[k]?) : KM wr m { c with cs := c.cs.filter p } := by
  obtain ⟨hmne, hne⟩ := h.mne
  have hsub : ∀ r ∈ c.cs.filter p, r ∈ c.cs := fun r hr => (List.mem_filter.1 hr).1
  have hsl : (c.cs.filter p).Sublist c.cs := List.filter_sublist
  refine ⟨?_, hmb, fun r hr => ?_, fun r hr => ?_, ?_, h.nn.sublist (hsl.map _), h.bn.sublist (hsl.map _), fun r hr => h.bc r (hsub r hr), fun r hr => h.nb r (hsub r hr), fun r hr => h.by_ r (hsub r hr), fun r hr => h.ln r (hsub r hr), fun r hr => h.pm r (hsub r hr), Nat.le_trans hsl.length_le h.lv, h.tl, h.mx⟩
  · rw [hb m (lt_of_heap h.hm) hmne]; exact h.hm
  · rw [hb r.b (lt_of_heap (h.hb r (hsub r hr))) (hne r (hsub r hr)).2.2.1]; exact h.hb r (hsub r hr)
  · rw [hb r.d (lt_of_heap (h.hd r (hsub r hr))) (hne r (hsub r hr)).2.2.2]; exact h.hd r (hsub r hr)
  · refine h.nd.sublist ?_
    simp only [KC.foot]
    exact ((sublist_flatMap hsl _).cons_cons _).cons_cons _
theorem foot_fewer (m : Nat) (c : KC) (p : RC → Bool) : ∀ k ∈ ({ c with cs := c.cs.filter p } : KC).foot m, k ∈ c.foot m := by
  intro k hk
  simp only [KC.foot, List.mem_cons, List.mem_flatMap] at hk ⊢
  rcases hk with h | h | ⟨r, hr, h⟩
  · exact .inl h
  · exact .inr (.inl h)
  · exact .inr (.inr ⟨r, (List.mem_filter.1 hr).1, h⟩)
theorem GI.step {w wr w1 : World} {m : Nat} {c : KC} {seen : Array Nat} (G : GI w m c wr seen) (hw : w1 = wr ∨ w1 = wr.drew) (hmb : c.mb < w.heap.size) (b : Nat) :
    (setBlock w1 w.heap.size (.mapIter (some c.mb) c.clk (seen.push b) c.clk)).heap[w.heap.size]? = some (.mapIter (some c.mb) c.clk (seen.push b) c.clk) ∧
    (setBlock w1 w.heap.size (.mapIter (some c.mb) c.clk (seen.push b) c.clk)).heap[c.mb]? = some (.map ((graceCs c seen).map RC.entry).toArray c.clk) ∧
    (setBlock w1 w.heap.size (.mapIter (some c.mb) c.clk (seen.push b) c.clk)).heap.size = w.heap.size + 1 ∧
    (setBlock w1 w.heap.size (.mapIter (some c.mb) c.clk (seen.push b) c.clk)).os = w.os ∧ (setBlock w1 w.heap.size (.mapIter (some c.mb) c.clk (seen.push b) c.clk)).tape = w.tape ∧
    (setBlock w1 w.heap.size (.mapIter (some c.mb) c.clk (seen.push b) c.clk)).output = w.output ∧
    (∀ k, k < w.heap.size → k ≠ c.mb → (setBlock w1 w.heap.size (.mapIter (some c.mb) c.clk (seen.push b) c.clk)).heap[k]? = w.heap[k]?) := by
  have hh : w1.heap = wr.heap := by rcases hw with rfl | rfl <;> rfl
  have h1 : w1.os = w.os ∧ w1.tape = w.tape ∧ w1.output = w.output := by rcases hw with rfl | rfl <;> exact ⟨G.os, G.tape, G.output⟩
  refine ⟨heap_setBlock_same (by rw [hh]; exact G.it), heap_setBlock_some (by omega) (by rw [hh]; exact G.mb), by rw [size_setBlock, hh, G.size], h1.1, h1.2.1, h1.2.2, fun k hk hne => ?_⟩
  rw [← G.block k hk hne, ← hh]
  have : ¬ w.heap.size = k := by omega
  simp [setBlock, Array.getElem?_setIfInBounds, this]
theorem K.range (w : World) {m : Nat} {c : KC} (h : KM w m c) : (Instr.range 55 (.map (some c.mb))).run Try.prog w = .ok (.pointer (some ⟨w.heap.size, 0, none⟩)) (w.alloc (.mapIter (some c.mb) c.clk #[] c.clk)) := by
  simp [Instr.range, run_underlying K.und, getObj, Sem.run, h.hmb, Result.andThen, newObj]
end Go.Proofs.Ytgkbiknokpmjmaa
