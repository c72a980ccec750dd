/- Contracts of kmem's functions Retire, Fail, sized, span: each answers as the plain data (KA) say; condition: the world holds the memory (KM). -/
import Derived.Test.YtgkbiknokpmjmaaKWalk2
set_option linter.unusedVariables false
set_option linter.unusedSimpArgs false
namespace Go.Proofs.Ytgkbiknokpmjmaa
open Go.RowKit Go.MapKept
open Go.ChangeMaps (setBlock)

/-! ### one region is another -/
theorem flat_apart : ∀ {l : List RC}, (l.flatMap fun r => [r.b, r.d]).Nodup → l.Pairwise (fun r q => r.b ≠ q.b ∧ r.b ≠ q.d ∧ r.d ≠ q.b ∧ r.d ≠ q.d) ∧ ∀ r ∈ l, r.b ≠ r.d
  | [], _ => by simp
  | r :: l, h => by
    simp only [List.flatMap_cons, List.cons_append, List.nil_append, List.nodup_cons, List.mem_cons, List.mem_flatMap, not_or, not_exists, not_and] at h
    obtain ⟨⟨h1, h2⟩, h3, h4⟩ := h
    obtain ⟨p, q⟩ := flat_apart h4
    refine ⟨List.pairwise_cons.2 ⟨fun x hx => ?_, p⟩, fun x hx => ?_⟩
    · have a := h2 x hx
      have b := h3 x hx
      simp at a b
      exact ⟨a.1, a.2, b.1, b.2⟩
    · rcases List.mem_cons.1 hx with rfl | hx
      · exact h1
      · exact q x hx
theorem KM.apart {w : World} {m : Nat} {c : KC} (h : KM w m c) {j : Nat} {r : RC} (hj : c.cs[j]? = some r) : r.b ≠ r.d ∧ ∀ i q, c.cs[i]? = some q → i ≠ j → q.b ≠ r.b ∧ q.b ≠ r.d ∧ q.d ≠ r.b ∧ q.d ≠ r.d := by
  have hnd := h.nd
  simp only [KC.foot, List.nodup_cons] at hnd
  obtain ⟨p, q⟩ := flat_apart hnd.2.2
  refine ⟨q r (List.mem_of_getElem? hj), fun i q hi hne => ?_⟩
  rw [List.pairwise_iff_getElem] at p
  obtain ⟨hj1, hj2⟩ := List.getElem?_eq_some_iff.1 hj
  obtain ⟨hi1, hi2⟩ := List.getElem?_eq_some_iff.1 hi
  rcases Nat.lt_or_gt_of_ne hne with hl | hl
  · have := p i j hi1 hj1 hl
    rw [hi2, hj2] at this
    exact this
  · have := p j i hj1 hi1 hl
    rw [hi2, hj2] at this
    exact ⟨fun e => this.1 e.symm, fun e => this.2.2.1 e.symm, fun e => this.2.1 e.symm, fun e => this.2.2.2 e.symm⟩
def KC.put (c : KC) (j : Nat) (r : RC) (a : RA) : KC := { c with cs := c.cs.set j { r with a := a } }
theorem mem_set_at {α : Type} {l : List α} {j : Nat} {x y : α} (h : y ∈ l.set j x) : y = x ∨ ∃ i, i ≠ j ∧ l[i]? = some y := by
  obtain ⟨i, hi, e⟩ := List.getElem_of_mem h
  rw [List.getElem_set] at e
  split at e
  · exact .inl e.symm
  · rename_i hne
    exact .inr ⟨i, fun e => hne e.symm, by rw [List.getElem?_eq_getElem (by simpa using hi), e]⟩
theorem map_set_same {α β : Type} (f : α → β) {l : List α} {j : Nat} {x y : α} (h : l[j]? = some x) (he : f y = f x) : (l.set j y).map f = l.map f := by
  apply List.ext_getElem?
  intro i
  simp only [List.getElem?_map, List.getElem?_set]
  split
  · rename_i e
    subst e
    split
    · simp [h, he]
    · rename_i hl
      rw [List.getElem?_eq_none (by omega)] at h
      cases h
  · rfl
theorem foot_put (m : Nat) {c : KC} {j : Nat} {r : RC} (hj : c.cs[j]? = some r) (a : RA) : (c.put j r a).foot m = c.foot m := by
  simp only [KC.foot, KC.put, List.flatMap_def]
  rw [map_set_same (y := { r with a := a }) (fun r : RC => [r.b, r.d]) hj rfl]
theorem KM.put {w w' : World} {m : Nat} {c : KC} (h : KM w m c) {j : Nat} {r : RC} (hj : c.cs[j]? = some r) (a : RA)
    (h1 : ∀ x ∈ a.bytes, x < 256) (h2 : 1 ≤ a.bytes.length ∧ a.bytes.length ≤ 1048576) (h3 : 1 ≤ a.perm ∧ a.perm ≤ 3)
    (hb : w'.heap[r.b]? = some ({ r with a := a } : RC).cells) (hd : w'.heap[r.d]? = some (byteCells a.bytes)) (ho : ∀ k ∈ c.foot m, k ≠ r.b → k ≠ r.d → w'.heap[k]? = w.heap[k]?) : KM w' m (c.put j r a) := by
  have hr : r ∈ c.cs := List.mem_of_getElem? hj
  obtain ⟨hmne, hne⟩ := h.mne
  obtain ⟨g1, g2, g3, g4⟩ := hne r hr
  obtain ⟨_, ap⟩ := h.apart hj
  refine ⟨?_, ?_, fun q hq => ?_, fun q hq => ?_, by rw [foot_put m hj]; exact h.nd, ?_, ?_, fun q hq => ?_, fun q hq => ?_, fun q hq => ?_, fun q hq => ?_, fun q hq => ?_, by simpa [KC.put] using h.lv, h.tl, h.mx⟩
  · rw [ho m (KC.mem_m m c) (fun e => g1 e.symm) (fun e => g2 e.symm)]; exact h.hm
  · have : w'.heap[c.mb]? = _ := ho c.mb (KC.mem_mb m c) (fun e => g3 e.symm) (fun e => g4 e.symm)
    show w'.heap[c.mb]? = _
    rw [this, h.hmb]
    simp only [KC.put, KC.entries]
    rw [map_set_same (y := { r with a := a }) RC.entry hj rfl]
  · rcases mem_set_at hq with rfl | ⟨i, hi, hqi⟩
    · exact hb
    · obtain ⟨n1, n2, n3, n4⟩ := ap i q hqi hi
      rw [ho q.b (KC.mem_b m (List.mem_of_getElem? hqi)) n1 n2]
      exact h.hb q (List.mem_of_getElem? hqi)
  · rcases mem_set_at hq with rfl | ⟨i, hi, hqi⟩
    · exact hd
    · obtain ⟨n1, n2, n3, n4⟩ := ap i q hqi hi
      rw [ho q.d (KC.mem_d m (List.mem_of_getElem? hqi)) n3 n4]
      exact h.hd q (List.mem_of_getElem? hqi)
  · simp only [KC.put]; rw [map_set_same (y := { r with a := a }) (fun r : RC => r.n) hj rfl]; exact h.nn
  · simp only [KC.put]; rw [map_set_same (y := { r with a := a }) (fun r : RC => r.born) hj rfl]; exact h.bn
  all_goals rcases mem_set_at hq with rfl | ⟨i, hi, hqi⟩
  · exact h.bc r hr
  · exact h.bc q (List.mem_of_getElem? hqi)
  · exact h.nb r hr
  · exact h.nb q (List.mem_of_getElem? hqi)
  · exact h1
  · exact h.by_ q (List.mem_of_getElem? hqi)
  · exact h2
  · exact h.ln q (List.mem_of_getElem? hqi)
  · exact h3
  · exact h.pm q (List.mem_of_getElem? hqi)
theorem abs_put {c : KC} (hn : (c.cs.map (·.n)).Nodup) {j : Nat} {r : RC} (hj : c.cs[j]? = some r) {a : RA} {n : Nat} (hrn : r.n = n) {f : RA → RA} (hf : f r.a = a) : (c.put j r a).abs = c.abs.upd n f := by
  subst hrn hf
  simp only [KC.abs, KC.put, KA.upd, List.map_map]
  congr 1
  obtain ⟨mb, clk, made, til, cs⟩ := c
  simp only at hn hj ⊢
  clear mb clk made til
  induction cs generalizing j with
  | nil => simp at hj
  | cons x l ih =>
    simp only [List.map_cons, List.nodup_cons, List.mem_map, not_exists, not_and] at hn
    cases j with
    | zero =>
      simp only [List.getElem?_cons_zero, Option.some.injEq] at hj
      subst hj
      simp only [List.set_cons_zero, List.map_cons, Function.comp, if_true, List.cons.injEq, true_and]
      apply List.map_congr_left
      intro q hq
      simp only [Function.comp]
      rw [if_neg (hn.1 q hq)]
    | succ j =>
      simp only [List.getElem?_cons_succ] at hj
      have hne : ¬ x.n = r.n := fun e => hn.1 r (List.mem_of_getElem? hj) e.symm
      simp only [List.set_cons_succ, List.map_cons, Function.comp, if_neg hne, List.cons.injEq, true_and]
      exact ih hn.2 hj

/-! ### Retire -/
set_option maxRecDepth 100000 in
theorem retire_calls (a : Nat) (m : Nat) (c : KC) (w : World) (h : KM w m c) (h1 : a < 18446744073709551616) :
    Calls Try.prog 69 #[.pointer (some ⟨m, 0, none⟩), .int .u64 a] w (KPost m c w (.int .i64 (c.abs.retire a).1) (c.abs.retire a).2) := by
  obtain ⟨x, hx⟩ : ∃ x : Int, x = a := ⟨_, rfl⟩
  have hfc := first_any a m c w h h1
  rcases kfirst_cases c a with ⟨hv, hf⟩ | ⟨j, r, hj, hn, hv, hf⟩
  · have e1 : c.abs.retire a = (1, c.abs) := by unfold KA.retire; rw [hf]
    rw [e1]
    go_enter Try.func69, Try.ntmps69
    go_wp2_with (go_at_call 81; refine hfc.mono ?_; rintro e w' ⟨rfl, rfl⟩; rw [hv])
    go_ret
    exact ⟨c, rfl, h, rfl, Fr.refl _ _⟩
  · obtain ⟨c0, c1, c2, f0, f1, f2⟩ := RC.reads (h.hb r (List.mem_of_getElem? hj))
    cases hret : r.a.ret with
    | true =>
      have e1 : c.abs.retire a = (1, c.abs) := by unfold KA.retire; rw [hf]; simp [hret]
      rw [e1]
      rw [hret] at c2
      clear hret
      go_enter Try.func69, Try.ntmps69
      go_wp2_with (go_at_call 81; refine hfc.mono ?_; rintro e w' ⟨rfl, rfl⟩; rw [hv])
      go_ret
      exact ⟨c, rfl, h, rfl, Fr.refl _ _⟩
    | false =>
      have e1 : c.abs.retire a = (0, c.abs.upd (hi32 a) fun r => { r with ret := true }) := by unfold KA.retire; rw [hf]; simp [hret]
      have hr := List.mem_of_getElem? hj
      have hk : KM (w.setCell ⟨r.b, 2, none⟩ (.bool true)) m (c.put j r { r.a with ret := true }) := by
        refine h.put hj _ (h.by_ r hr) (h.ln r hr) (h.pm r hr) ?_ ?_ ?_
        · rw [heap_setCell_same (h.hb r hr)]; rfl
        · exact heap_setCell_some (h.apart hj).1 (h.hd r hr)
        · exact fun k _ hk _ => Below.heap_setCell _ _ _ _ hk
      have ha := abs_put h.nn hj hn (f := fun r => { r with ret := true }) rfl
      have hfr : Fr (c.foot m) ((c.put j r { r.a with ret := true }).foot m) w (w.setCell ⟨r.b, 2, none⟩ (.bool true)) := by
        rw [foot_put m hj]; exact Fr.setCell (KC.mem_b m hr) _
      rw [e1]
      rw [hret] at c2
      clear hret
      go_enter Try.func69, Try.ntmps69
      go_wp2_with (go_at_call 81; refine hfc.mono ?_; rintro e w' ⟨rfl, rfl⟩; rw [hv])
      go_ret
      exact ⟨_, rfl, hk, ha, hfr⟩

/-! ### Fail -/
/-! ### sized -/
end Go.Proofs.Ytgkbiknokpmjmaa
