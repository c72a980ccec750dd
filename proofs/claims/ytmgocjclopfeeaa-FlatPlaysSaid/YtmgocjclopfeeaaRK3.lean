/- The reference's memory: what a change of one region does; condition: the memory is held. -/
import Derived.Test.YtmgocjclopfeeaaRK2
set_option linter.unusedVariables false
set_option linter.unusedSimpArgs false
namespace Go.Proofs.Ytmgocjclopfeeaa
open Go.RowKit Go.MapKept

theorem liveOf_kill : ∀ (ls : List RE) (s i : Nat) (ent ent' : RE), ls[i]? = some ent → ent'.a = none → liveOf s (ls.set i ent') = (liveOf s ls).filter fun x => x.1 != s + i
  | [], s, i, ent, ent', h, _ => by simp at h
  | e :: l, s, 0, ent, ent', h, ha => by
    have hl : (liveOf (s + 1) l).filter (fun x => x.1 != s + 0) = liveOf (s + 1) l := by
      rw [List.filter_eq_self]
      intro x hx
      have := (mem_liveOf l (s + 1) x hx).1
      simp
      omega
    rw [List.set_cons_zero, liveOf, liveOf, List.filter_append, hl, ha]
    cases e.a <;> simp
  | e :: l, s, i + 1, ent, ent', h, ha => by
    have ih := liveOf_kill l (s + 1) i ent ent' (by simpa using h) ha
    rw [List.set_cons_succ, liveOf, liveOf, List.filter_append, ih, show s + 1 + i = s + (i + 1) by omega]
    congr 1
    cases e.a with
    | none => rfl
    | some a => simp
theorem liveOf_upd (f : RA → RA) : ∀ (ls : List RE) (s i : Nat) (ent ent' : RE) (q : RA), ls[i]? = some ent → ent.a = some q → ent'.a = some (f q) → liveOf s (ls.set i ent') = (liveOf s ls).map fun x => if x.1 = s + i then (x.1, f x.2) else x
  | [], s, i, ent, ent', q, h, _, _ => by simp at h
  | e :: l, s, 0, ent, ent', q, h, ha, ha' => by
    simp at h
    subst h
    have hl : (liveOf (s + 1) l).map (fun x => if x.1 = s + 0 then (x.1, f x.2) else x) = liveOf (s + 1) l := by
      conv => rhs; rw [← List.map_id (liveOf (s + 1) l)]
      refine List.map_congr_left fun x hx => ?_
      have := (mem_liveOf l (s + 1) x hx).1
      rw [if_neg (by omega)]
      rfl
    rw [List.set_cons_zero, liveOf, liveOf, List.map_append, hl, ha, ha']
    simp
  | e :: l, s, i + 1, ent, ent', q, h, ha, ha' => by
    have ih := liveOf_upd f l (s + 1) i ent ent' q (by simpa using h) ha ha'
    rw [List.set_cons_succ, liveOf, liveOf, List.map_append, ih, show s + 1 + i = s + (i + 1) by omega]
    congr 1
    cases e.a with
    | none => rfl
    | some a => simp
theorem liveOf_append : ∀ (ls : List RE) (s : Nat) (e : RE), liveOf s (ls ++ [e]) = liveOf s ls ++ (match e.a with | some a => [(s + ls.length, a)] | none => [])
  | [], s, e => by cases h : e.a <;> simp [liveOf, h]
  | x :: l, s, e => by
    rw [List.cons_append, liveOf, liveOf, liveOf_append l (s + 1) e, List.append_assoc, List.length_cons, show s + 1 + l.length = s + (l.length + 1) by omega]
theorem flat_pair : ∀ {l : List RE}, (l.flatMap fun e => [e.r, e.d]).Nodup → (∀ e ∈ l, e.r ≠ e.d) ∧ ∀ (i j : Nat) (e f : RE), i ≠ j → l[i]? = some e → l[j]? = some f → e.r ≠ f.r ∧ e.r ≠ f.d ∧ e.d ≠ f.r ∧ e.d ≠ f.d
  | [], _ => ⟨fun e h => by simp at h, fun i j e f _ h => by simp at h⟩
  | x :: l, h => by
    rw [List.flatMap_cons, List.nodup_append] at h
    obtain ⟨h1, h2, h3⟩ := h
    obtain ⟨i1, i2⟩ := flat_pair h2
    have hx : x.r ≠ x.d := by simpa using h1
    have hin : ∀ (j : Nat) (f : RE), l[j]? = some f → x.r ≠ f.r ∧ x.r ≠ f.d ∧ x.d ≠ f.r ∧ x.d ≠ f.d := fun j f hj => by
      have hm := List.mem_of_getElem? hj
      have hr : f.r ∈ l.flatMap fun e => [e.r, e.d] := List.mem_flatMap.2 ⟨f, hm, by simp⟩
      have hd : f.d ∈ l.flatMap fun e => [e.r, e.d] := List.mem_flatMap.2 ⟨f, hm, by simp⟩
      exact ⟨h3 _ (by simp) _ hr, h3 _ (by simp) _ hd, h3 _ (by simp) _ hr, h3 _ (by simp) _ hd⟩
    refine ⟨fun e he => ?_, fun i j e f hij hi hj => ?_⟩
    · rcases List.mem_cons.1 he with rfl | he
      · exact hx
      · exact i1 e he
    · match i, j, hi, hj with
      | 0, 0, _, _ => omega
      | 0, j + 1, hi, hj => simp at hi; subst hi; exact hin j f (by simpa using hj)
      | i + 1, 0, hi, hj =>
        simp at hj
        subst hj
        obtain ⟨a, b, c, d⟩ := hin i e (by simpa using hi)
        exact ⟨a.symm, c.symm, b.symm, d.symm⟩
      | i + 1, j + 1, hi, hj => exact i2 i j e f (by omega) (by simpa using hi) (by simpa using hj)
theorem foot_set (x : Nat) (sv : Value) {ls : List RE} {i : Nat} {ent ent' : RE} (hi : ls[i]? = some ent) (hr : ent'.r = ent.r) (hd : ent'.d = ent.d) : rfoot x sv (ls.set i ent') = rfoot x sv ls := by
  unfold rfoot
  have key : ∀ (l : List RE) (i : Nat), l[i]? = some ent → ((l.set i ent').flatMap fun e => [e.r, e.d]) = l.flatMap fun e => [e.r, e.d] := by
    intro l
    induction l with
    | nil => intro i h; simp at h
    | cons y l ih =>
      intro i h
      cases i with
      | zero => simp at h; subst h; simp [hr, hd]
      | succ i => simp [ih i (by simpa using h)]
  rw [key ls i hi]
section
variable {w w' : World} {x : Nat} {ls : List RE} {sv : Value} {k : KA}
theorem RM.apart (h : RM w x ls sv k) {i : Nat} {ent : RE} (hi : ls[i]? = some ent) :
    ent.r ≠ x ∧ ent.d ≠ x ∧ ent.r ≠ ent.d ∧ sv.ownBlock ≠ some x ∧ sv.ownBlock ≠ some ent.r ∧ sv.ownBlock ≠ some ent.d ∧ ∀ j f, j ≠ i → ls[j]? = some f → f.r ≠ ent.r ∧ f.r ≠ ent.d ∧ f.d ≠ ent.r ∧ f.d ≠ ent.d := by
  have hn := h.nd
  unfold rfoot at hn
  rw [List.nodup_cons, List.nodup_append] at hn
  obtain ⟨h1, h2, h3, h4⟩ := hn
  obtain ⟨f1, f2⟩ := flat_pair h3
  have hm := List.mem_of_getElem? hi
  have hr : ent.r ∈ ls.flatMap fun e => [e.r, e.d] := List.mem_flatMap.2 ⟨ent, hm, by simp⟩
  have hd : ent.d ∈ ls.flatMap fun e => [e.r, e.d] := List.mem_flatMap.2 ⟨ent, hm, by simp⟩
  rw [List.mem_append] at h1
  refine ⟨fun e => h1 (.inr (e ▸ hr)), fun e => h1 (.inr (e ▸ hd)), f1 ent hm, fun e => h1 (.inl (by rw [e]; simp)), fun e => h4 ent.r (by rw [e]; simp) _ hr rfl, fun e => h4 ent.d (by rw [e]; simp) _ hd rfl, fun j f hj hf => f2 j i f ent hj hf hi⟩
theorem RM.change (h : RM w x ls sv k) {i : Nat} {ent : RE} (hi : ls[i]? = some ent) (ent' : RE) (hr : ent'.r = ent.r) (hd : ent'.d = ent.d) (k' : KA)
    (hx' : w'.heap[x]? = some (memO sv k'.live.length k'.til)) (hr' : w'.heap[ent.r]? = some ent'.cells) (hd' : ∀ a, ent'.a = some a → w'.heap[ent.d]? = some (byteCells a.bytes))
    (hf : ∀ b, b < w.heap.size → b ≠ x → b ≠ ent.r → b ≠ ent.d → w'.heap[b]? = w.heap[b]?) (hs : w.heap.size ≤ w'.heap.size)
    (hm : k'.made = k.made) (hl : k'.live = liveOf 1 (ls.set i ent')) : RM w' x (ls.set i ent') sv k' := by
  obtain ⟨a1, a2, a3, a4, a5, a6, a7⟩ := h.apart hi
  have hlt := (List.getElem?_eq_some_iff.1 hi).1
  have hin : ∀ e ∈ ls.set i ent', e = ent' ∨ ∃ j, j ≠ i ∧ ls[j]? = some e := fun e he => by
    obtain ⟨j, hj⟩ := List.mem_iff_getElem?.1 he
    rw [List.getElem?_set] at hj
    split at hj
    · simp only [hlt, if_true, Option.some.injEq] at hj
      exact .inl hj.symm
    · rename_i hne
      exact .inr ⟨j, fun e => hne e.symm, hj⟩
  have hmap : (ls.set i ent').map (fun e => Value.pointer (some ⟨e.r, 0, none⟩)) = ls.map fun e => Value.pointer (some ⟨e.r, 0, none⟩) := by
    apply List.ext_getElem?
    intro j
    simp only [List.getElem?_map, List.getElem?_set]
    split
    · rename_i e
      subst e
      simp [hlt, hr, List.getElem?_eq_getElem hlt] at hi ⊢
      rw [hi]
    · rfl
  refine ⟨hx', ?_, fun e he => ?_, fun e he a ha => ?_, fun e he => ?_, by rw [foot_set x sv hi hr hd]; exact h.nd, by rw [hm, List.length_set]; exact h.md, hl⟩
  · rw [List.length_set, hmap]
    refine ownsRow_keep h.hl fun g hg => hf g (ownsRow_lt h.hl g hg) (fun e => a4 (e ▸ hg)) (fun e => a5 (e ▸ hg)) (fun e => a6 (e ▸ hg))
  · rcases hin e he with rfl | ⟨j, hj, hlj⟩
    · rw [hr]; exact hr'
    · have he' := List.mem_of_getElem? hlj
      obtain ⟨b1, b2, -, -⟩ := a7 j e hj hlj
      rw [hf _ (lt_of_heap (h.hr e he')) (h.apart hlj).1 b1 b2]
      exact h.hr e he'
  · rcases hin e he with rfl | ⟨j, hj, hlj⟩
    · rw [hd]; exact hd' a ha
    · have he' := List.mem_of_getElem? hlj
      obtain ⟨-, -, b1, b2⟩ := a7 j e hj hlj
      rw [hf _ (h.ld e he') (h.apart hlj).2.1 b1 b2]
      exact h.hd e he' a ha
  · rcases hin e he with rfl | ⟨j, hj, hlj⟩
    · rw [hd]; exact Nat.lt_of_lt_of_le (h.ld ent (List.mem_of_getElem? hi)) hs
    · exact Nat.lt_of_lt_of_le (h.ld e (List.mem_of_getElem? hlj)) hs
/-- Only the memory's own fields change. -/
theorem RM.own (h : RM w x ls sv k) (k' : KA) (hx' : w'.heap[x]? = some (memO sv k'.live.length k'.til)) (hf : ∀ b, b < w.heap.size → b ≠ x → w'.heap[b]? = w.heap[b]?) (hs : w.heap.size ≤ w'.heap.size) (hm : k'.made = k.made) (hl : k'.live = k.live) : RM w' x ls sv k' := by
  have hn := h.nd
  unfold rfoot at hn
  rw [List.nodup_cons, List.mem_append] at hn
  have hin : ∀ e ∈ ls, e.r ≠ x ∧ e.d ≠ x := fun e he => ⟨fun c => hn.1 (.inr (List.mem_flatMap.2 ⟨e, he, by simp [c]⟩)), fun c => hn.1 (.inr (List.mem_flatMap.2 ⟨e, he, by simp [c]⟩))⟩
  refine ⟨hx', ownsRow_keep h.hl fun g hg => hf g (ownsRow_lt h.hl g hg) (fun e => hn.1 (.inl (by rw [hg, e]; simp))), fun e he => ?_, fun e he a ha => ?_, fun e he => Nat.lt_of_lt_of_le (h.ld e he) hs, h.nd, by rw [hm]; exact h.md, by rw [hl]; exact h.lv⟩
  · rw [hf _ (lt_of_heap (h.hr e he)) (hin e he).1]; exact h.hr e he
  · rw [hf _ (h.ld e he) (hin e he).2]; exact h.hd e he a ha
end
end Go.Proofs.Ytmgocjclopfeeaa
