/- Contract of kmem's function Grace: it answers as the plain data (KA) say, in whatever order the map is gone over; condition: the world holds the memory (KM). -/
import Derived.Test.YteglgmdmnhkmgaaKWalk6
set_option linter.unusedVariables false
set_option linter.unusedSimpArgs false
namespace Go.Proofs.Yteglgmdmnhkmgaa
open Go.RowKit Go.MapKept
open Go.ChangeMaps (setBlock)

def graceCs (c : KC) (seen : Array Nat) : List RC := c.cs.filter fun r => !(r.a.ret && seen.contains r.born)
structure GI (w : World) (m : Nat) (c : KC) (wr : World) (seen : Array Nat) : Prop where
  it : wr.heap[w.heap.size]? = some (.mapIter (some c.mb) c.clk seen c.clk)
  mb : wr.heap[c.mb]? = some (.map ((graceCs c seen).map RC.entry).toArray c.clk)
  size : wr.heap.size = w.heap.size + 1
  os : wr.os = w.os
  tape : wr.tape = w.tape
  output : wr.output = w.output
  block : ∀ k, k < w.heap.size → k ≠ c.mb → wr.heap[k]? = w.heap[k]?
def leftCnt (c : KC) (it : Nat) (wr : World) : Nat :=
  match wr.heap[it]? with
  | some (.mapIter _ _ seen _) => (c.cs.filter fun r => !seen.contains r.born).length
  | _ => 0
theorem mem_leftOf {c : KC} {seen : Array Nat} {e : MapEntry} (h : e ∈ (leftOf ((graceCs c seen).map RC.entry).toArray seen).toList) : ∃ r ∈ c.cs, e = r.entry ∧ seen.contains r.born = false := by
  simp only [leftOf, Array.toList_filter, List.mem_filter, List.mem_map, graceCs] at h
  obtain ⟨⟨r, ⟨hr, _⟩, rfl⟩, hs⟩ := h
  exact ⟨r, hr, rfl, by simpa [RC.entry] using hs⟩
theorem none_left {c : KC} {seen : Array Nat} (h : (leftOf ((graceCs c seen).map RC.entry).toArray seen).size = 0) : graceCs c seen = c.cs.filter fun r => !r.a.ret := by
  have h0 : ∀ r ∈ graceCs c seen, seen.contains r.born = true := by
    intro r hr
    cases hc : seen.contains r.born with
    | true => rfl
    | false =>
      have : r.entry ∈ (leftOf ((graceCs c seen).map RC.entry).toArray seen).toList := by
        simp only [leftOf, Array.toList_filter, List.mem_filter, List.mem_map]
        exact ⟨⟨r, hr, rfl⟩, by simpa [RC.entry] using hc⟩
      rw [← Array.length_toList, List.length_eq_zero_iff] at h
      rw [h] at this
      cases this
  unfold graceCs at h0 ⊢
  apply List.filter_congr
  intro r hr
  cases hret : r.a.ret with
  | false => simp
  | true =>
    cases hc : seen.contains r.born with
    | true => simp
    | false =>
      have := h0 r (List.mem_filter.2 ⟨hr, by simp [hret]; simpa using hc⟩)
      rw [this] at hc
      cases hc
theorem grace_keep {c : KC} {seen : Array Nat} {r : RC} (hn : (c.cs.map (·.born)).Nodup) (hr : r ∈ c.cs) (hret : r.a.ret = false) : graceCs c (seen.push r.born) = graceCs c seen := by
  unfold graceCs
  apply List.filter_congr
  intro q hq
  by_cases hb : q.born = r.born
  · have : q = r := by
      obtain ⟨i, hi, e1⟩ := List.getElem_of_mem hq
      obtain ⟨j, hj, e2⟩ := List.getElem_of_mem hr
      have hp : c.cs.Pairwise (fun x y => x.born ≠ y.born) := by simpa [List.Nodup, List.pairwise_map] using hn
      have hp := List.pairwise_iff_getElem.1 hp
      rcases Nat.lt_trichotomy i j with hl | hl | hl
      · exact absurd (by rw [e1, e2]; exact hb) (hp i j hi hj hl)
      · subst hl; rw [← e1, e2]
      · exact absurd (by rw [e1, e2]; exact hb.symm) (hp j i hj hi hl)
    subst this
    simp [hret]
  · simp [hb]
theorem born_inj {c : KC} (hn : (c.cs.map (·.born)).Nodup) {q r : RC} (hq : q ∈ c.cs) (hr : r ∈ c.cs) (hb : q.born = r.born) : q = r := by
  obtain ⟨i, hi, e1⟩ := List.getElem_of_mem hq
  obtain ⟨j, hj, e2⟩ := List.getElem_of_mem hr
  have hp : c.cs.Pairwise (fun x y => x.born ≠ y.born) := by simpa [List.Nodup, List.pairwise_map] using hn
  have hp := List.pairwise_iff_getElem.1 hp
  rcases Nat.lt_trichotomy i j with hl | hl | hl
  · exact absurd (by rw [e1, e2]; exact hb) (hp i j hi hj hl)
  · subst hl; rw [← e1, e2]
  · exact absurd (by rw [e1, e2]; exact hb.symm) (hp j i hj hi hl)
theorem nodup_of_born {l : List RC} (h : (l.map (·.born)).Nodup) : l.Nodup := by
  have : l.Pairwise (fun x y => x.born ≠ y.born) := by simpa [List.Nodup, List.pairwise_map] using h
  exact this.imp fun h e => h (by rw [e])
theorem erase_filter {l : List RC} (hn : l.Nodup) {j : Nat} {r : RC} (hj : l[j]? = some r) : l.eraseIdx j = l.filter fun q => decide (q ≠ r) := by
  induction l generalizing j with
  | nil => simp at hj
  | cons x l ih =>
    rw [List.nodup_cons] at hn
    cases j with
    | zero =>
      simp only [List.getElem?_cons_zero, Option.some.injEq] at hj
      subst hj
      rw [List.eraseIdx_cons_zero, List.filter_cons]
      simp only [ne_eq, not_true_eq_false, decide_false, Bool.false_eq_true, if_false]
      symm
      rw [List.filter_eq_self]
      intro q hq
      simp only [decide_eq_true_eq]
      intro e
      exact hn.1 (e ▸ hq)
    | succ j =>
      simp only [List.getElem?_cons_succ] at hj
      have hne : x ≠ r := fun e => hn.1 (e ▸ List.mem_of_getElem? hj)
      rw [List.eraseIdx_cons_succ, List.filter_cons, ih hn.2 hj]
      simp [hne]
theorem grace_drop {c : KC} {seen : Array Nat} {r : RC} (hn : (c.cs.map (·.born)).Nodup) (hr : r ∈ c.cs) (hret : r.a.ret = true) {j : Nat} (hj : (graceCs c seen)[j]? = some r) :
    graceCs c (seen.push r.born) = (graceCs c seen).eraseIdx j := by
  rw [show (graceCs c seen).eraseIdx j = _ from erase_filter ((nodup_of_born hn).filter _) hj]
  unfold graceCs
  rw [List.filter_filter]
  apply List.filter_congr
  intro q hq
  by_cases hb : q.born = r.born
  · have := born_inj hn hq hr hb
    subst this
    simp [hret]
  · have hne : q ≠ r := fun e => hb (by rw [e])
    simp [hb, hne]
theorem filter_less {α : Type} {l : List α} {p q : α → Bool} (hpq : ∀ x ∈ l, q x = true → p x = true) {r : α} (hr : r ∈ l) (hp : p r = true) (hq : q r = false) : (l.filter q).length < (l.filter p).length := by
  induction l with
  | nil => cases hr
  | cons x l ih =>
    have hle : ∀ {l : List α}, (∀ x ∈ l, q x = true → p x = true) → (l.filter q).length ≤ (l.filter p).length := by
      intro l
      induction l with
      | nil => intro _; simp
      | cons y l ih =>
        intro h
        have h1 := ih (fun x hx => h x (List.mem_cons_of_mem _ hx))
        have h2 := h y List.mem_cons_self
        simp only [List.filter_cons]
        cases hqy : q y with
        | false => simp only [Bool.false_eq_true, if_false]; split <;> simp <;> omega
        | true => rw [h2 hqy]; simp; omega
    simp only [List.filter_cons]
    rcases List.mem_cons.1 hr with rfl | hr
    · rw [hp, hq]
      have := hle (fun x hx => hpq x (List.mem_cons_of_mem _ hx))
      simp
      omega
    · have h1 := ih (fun x hx => hpq x (List.mem_cons_of_mem _ hx)) hr
      have h2 := hpq x List.mem_cons_self
      cases hqy : q x with
      | false => simp only [Bool.false_eq_true, if_false]; split <;> simp <;> omega
      | true => rw [h2 hqy]; simp; omega

/-- Some regions less. -/
theorem KM.fewer {w wr : World} {m : Nat} {c : KC} (h : KM w m c) (p : RC → Bool) (hmb : wr.heap[c.mb]? = some (.map ((c.cs.filter p).map RC.entry).toArray c.clk))
    (hb : ∀ k, k < w.heap.size → k ≠ c.mb → wr.heap[k]? = w.heap[k]?) : KM wr m { c with cs := c.cs.filter p } := by
  obtain ⟨hmne, hne⟩ := h.mne
  have hsub : ∀ r ∈ c.cs.filter p, r ∈ c.cs := fun r hr => (List.mem_filter.1 hr).1
  have hsl : (c.cs.filter p).Sublist c.cs := List.filter_sublist
  refine ⟨?_, hmb, fun r hr => ?_, fun r hr => ?_, ?_, h.nn.sublist (hsl.map _), h.bn.sublist (hsl.map _), fun r hr => h.bc r (hsub r hr), fun r hr => h.nb r (hsub r hr), fun r hr => h.by_ r (hsub r hr), fun r hr => h.ln r (hsub r hr), fun r hr => h.pm r (hsub r hr), Nat.le_trans hsl.length_le h.lv, h.tl, h.mx⟩
  · rw [hb m (lt_of_heap h.hm) hmne]; exact h.hm
  · rw [hb r.b (lt_of_heap (h.hb r (hsub r hr))) (hne r (hsub r hr)).2.2.1]; exact h.hb r (hsub r hr)
  · rw [hb r.d (lt_of_heap (h.hd r (hsub r hr))) (hne r (hsub r hr)).2.2.2]; exact h.hd r (hsub r hr)
  · refine h.nd.sublist ?_
    simp only [KC.foot]
    exact ((sublist_flatMap hsl _).cons_cons _).cons_cons _
theorem foot_fewer (m : Nat) (c : KC) (p : RC → Bool) : ∀ k ∈ ({ c with cs := c.cs.filter p } : KC).foot m, k ∈ c.foot m := by
  intro k hk
  simp only [KC.foot, List.mem_cons, List.mem_flatMap] at hk ⊢
  rcases hk with h | h | ⟨r, hr, h⟩
  · exact .inl h
  · exact .inr (.inl h)
  · exact .inr (.inr ⟨r, (List.mem_filter.1 hr).1, h⟩)
theorem GI.step {w wr w1 : World} {m : Nat} {c : KC} {seen : Array Nat} (G : GI w m c wr seen) (hw : w1 = wr ∨ w1 = wr.drew) (hmb : c.mb < w.heap.size) (b : Nat) :
    (setBlock w1 w.heap.size (.mapIter (some c.mb) c.clk (seen.push b) c.clk)).heap[w.heap.size]? = some (.mapIter (some c.mb) c.clk (seen.push b) c.clk) ∧
    (setBlock w1 w.heap.size (.mapIter (some c.mb) c.clk (seen.push b) c.clk)).heap[c.mb]? = some (.map ((graceCs c seen).map RC.entry).toArray c.clk) ∧
    (setBlock w1 w.heap.size (.mapIter (some c.mb) c.clk (seen.push b) c.clk)).heap.size = w.heap.size + 1 ∧
    (setBlock w1 w.heap.size (.mapIter (some c.mb) c.clk (seen.push b) c.clk)).os = w.os ∧ (setBlock w1 w.heap.size (.mapIter (some c.mb) c.clk (seen.push b) c.clk)).tape = w.tape ∧
    (setBlock w1 w.heap.size (.mapIter (some c.mb) c.clk (seen.push b) c.clk)).output = w.output ∧
    (∀ k, k < w.heap.size → k ≠ c.mb → (setBlock w1 w.heap.size (.mapIter (some c.mb) c.clk (seen.push b) c.clk)).heap[k]? = w.heap[k]?) := by
  have hh : w1.heap = wr.heap := by rcases hw with rfl | rfl <;> rfl
  have h1 : w1.os = w.os ∧ w1.tape = w.tape ∧ w1.output = w.output := by rcases hw with rfl | rfl <;> exact ⟨G.os, G.tape, G.output⟩
  refine ⟨heap_setBlock_same (by rw [hh]; exact G.it), heap_setBlock_some (by omega) (by rw [hh]; exact G.mb), by rw [size_setBlock, hh, G.size], h1.1, h1.2.1, h1.2.2, fun k hk hne => ?_⟩
  rw [← G.block k hk hne, ← hh]
  have : ¬ w.heap.size = k := by omega
  simp [setBlock, Array.getElem?_setIfInBounds, this]
theorem K.range (w : World) {m : Nat} {c : KC} (h : KM w m c) : (Instr.range 58 (.map (some c.mb))).run Try.prog w = .ok (.pointer (some ⟨w.heap.size, 0, none⟩)) (w.alloc (.mapIter (some c.mb) c.clk #[] c.clk)) := by
  simp [Instr.range, run_underlying K.und, getObj, Sem.run, h.hmb, Result.andThen, newObj]
set_option maxRecDepth 100000 in
theorem grace_calls (m : Nat) (c : KC) (w : World) (h : KM w m c) :
    Calls Try.prog 15 #[.pointer (some ⟨m, 0, none⟩)] w (KPost m c w (.tuple #[]) c.abs.grace) := by
  obtain ⟨hmne, hne⟩ := h.mne
  obtain ⟨c0, -⟩ := h.cells
  have hrg := K.range w h
  have H := hide h
  have Hne := hide hne
  have hml : m < w.heap.size := lt_of_heap h.hm
  clear h hne
  go_enter Try.func15, Try.ntmps15
  go_wp2
  go_loopw [2] (fun _ wr => ∃ seen, GI w m c wr seen) (fun _ wr => leftCnt c w.heap.size wr)
  case atStart =>
    have hmb := H.out.hmb
    refine ⟨#[], heap_alloc_new _ _, ?_, by simp, rfl, rfl, rfl, fun k hk _ => Below.heap_alloc _ _ _ hk⟩
    rw [heap_alloc_some hmb]
    simp only [graceCs, KC.entries]
    rw [List.filter_eq_self.2 (fun r _ => by simp)]
  case round =>
    obtain ⟨seen, G⟩ := hrel
    have hold : ∀ x ∈ ((graceCs c seen).map RC.entry).toArray.toList, x.born < c.clk := by
      intro x hx
      obtain ⟨r, hr, rfl⟩ := List.mem_map.1 hx
      exact H.out.bc r (List.mem_filter.1 hr).1
    rcases run_next_at (P := Try.prog) wr 0 w.heap.size c.mb c.clk c.clk seen _ c.clk G.it G.mb hold (Nat.le_refl _) with ⟨h0, hrun⟩ | ⟨e, he, w1, hw1, hrun⟩
    · have hrun' : ∀ ty, (Instr.next (.pointer (some ⟨w.heap.size, 0, none⟩)) false ty).run Try.prog wr = .ok (.tuple #[.bool false]) wr := fun _ => hrun
      have HG := hide (And.intro G h0)
      clear G hold h0 hrun
      go_wp2
      go_end0
      obtain ⟨G, h0⟩ := HG.out
      have hk := H.out
      have hmb := G.mb
      rw [none_left h0] at hmb
      refine ⟨{ c with cs := c.cs.filter fun r => !r.a.ret }, rfl, hk.fewer _ hmb G.block, by simp [KC.abs, KA.grace, List.filter_map, Function.comp_def], ⟨G.os, G.tape, G.output, by rw [G.size]; omega, fun k hk' hn => G.block k hk' (fun e => hn (e ▸ KC.mem_mb m c)), fun k hk' => .inl (foot_fewer m c _ k hk')⟩⟩
    · obtain ⟨r, hr, rfl, hseen⟩ := mem_leftOf he
      have hk := H.out
      have hn := Hne.out r hr
      obtain ⟨s1, s2, s3, s4, s5, s6, s7⟩ := G.step hw1 (lt_of_heap hk.hmb) r.born
      obtain ⟨W2, hW2⟩ : ∃ W2, W2 = setBlock w1 w.heap.size (.mapIter (some c.mb) c.clk (seen.push r.born) c.clk) := ⟨_, rfl⟩
      rw [show r.entry.born = r.born from rfl, ← hW2] at hrun
      rw [← hW2] at s1 s2 s3 s4 s5 s6 s7
      have hrun' : ∀ ty, (Instr.next (.pointer (some ⟨w.heap.size, 0, none⟩)) false ty).run Try.prog wr = .ok (.tuple #[.bool true, .int .i64 r.n, .pointer (some ⟨r.b, 0, none⟩)]) W2 := fun _ => hrun
      have hin : r ∈ graceCs c seen := List.mem_filter.2 ⟨hr, by simp only [hseen, Bool.and_false, Bool.not_false]⟩
      have hent := run_entry_at (P := Try.prog) W2 w.heap.size c.mb c.clk seen _ c.clk r.entry s1 s2 (List.mem_map.2 ⟨r, hin, rfl⟩) (by
        have := hk.bn.sublist ((List.filter_sublist (p := fun r => !(r.a.ret && seen.contains r.born)) (l := c.cs)).map RC.born)
        simpa [graceCs, Function.comp_def, RC.entry] using this)
      simp only [RC.entry] at hent
      have hcm : W2.cell? ⟨m, 0, none⟩ = some (.map (some c.mb)) := by
        simp only [World.cell?]; rw [s7 m hml hmne, hk.hm]; rfl
      have hcr : W2.cell? ⟨r.b, 2, none⟩ = some (.bool r.a.ret) := by
        simp only [World.cell?]; rw [s7 r.b (lt_of_heap (hk.hb r hr)) hn.2.2.1, hk.hb r hr]; rfl
      have hmeas : ∀ W3 : World, W3.heap[w.heap.size]? = some (.mapIter (some c.mb) c.clk (seen.push r.born) c.clk) → leftCnt c w.heap.size W3 < leftCnt c w.heap.size wr := by
        intro W3 h3
        simp only [leftCnt, h3, G.it]
        exact filter_less (fun x _ hx => by simp at hx ⊢; exact fun e => hx.1 e) hr (by simpa using hseen) (by simp)
      cases hret : r.a.ret with
      | false =>
        rw [hret] at hcr
        have HG := hide (show GI w m c W2 (seen.push r.born) from ⟨s1, by rw [grace_keep hk.bn hr hret]; exact s2, s3, s4, s5, s6, s7⟩)
        have HM := hide (hmeas W2 s1)
        clear G he hrun hseen hk hn s1 s2 s3 s4 s5 s6 s7 hW2 hin hmeas hret hold hw1
        go_wp2
        exact ⟨⟨_, HG.out⟩, HM.out⟩
      | true =>
        rw [hret] at hcr
        obtain ⟨j, hj, ej⟩ := List.getElem_of_mem hin
        have hj' : (graceCs c seen)[j]? = some r := by rw [List.getElem?_eq_getElem hj, ej]
        have K2 : Keys (.int .i64) ((graceCs c seen).map RC.entry).toArray := by
          have hk' := hk.fewer (wr := W2) (fun r => !(r.a.ret && seen.contains r.born)) s2 s7
          exact hk'.keys
        have hd := run_delete_hit (P := Try.prog) (w := W2) (k := .int .i64 r.n) K.und K.undInt rfl K2 s2 (j := j) (e := r.entry) (by simpa using ⟨r, hj', rfl⟩) rfl 3 0
        have HG := hide (show GI w m c (setBlock W2 c.mb (.map (((graceCs c seen).map RC.entry).toArray.eraseIdxIfInBounds j) c.clk)) (seen.push r.born) from
          ⟨heap_setBlock_some (by have := lt_of_heap hk.hmb; omega) s1, by rw [heap_setBlock_same s2, grace_drop hk.bn hr hret hj', eraseIdx_map_entry], by rw [size_setBlock]; exact s3, s4, s5, s6, fun k hk' hne => by
            rw [← s7 k hk' hne]
            have : ¬ c.mb = k := fun e => hne e.symm
            simp [setBlock, Array.getElem?_setIfInBounds, this]⟩)
        have HM := hide (hmeas _ HG.out.it)
        generalize ((graceCs c seen).map RC.entry).toArray.eraseIdxIfInBounds j = es' at hd HG HM
        clear G he hrun hseen hk hn s1 s2 s3 s4 s5 s6 s7 hW2 hin hmeas hret hold hw1 hj ej hj' K2
        go_wp2
        exact ⟨⟨_, HG.out⟩, HM.out⟩
end Go.Proofs.Yteglgmdmnhkmgaa
