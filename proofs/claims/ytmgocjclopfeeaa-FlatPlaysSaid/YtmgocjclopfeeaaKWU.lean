/- Plain laws: what any memory that both hold has (bounds, numbers apart) stays so behind put, free and alloc; conditions at each. -/
import Derived.Test.YtmgocjclopfeeaaRK3
set_option linter.unusedVariables false
set_option linter.unusedSimpArgs false
namespace Go.Proofs.Ytmgocjclopfeeaa

structure WU (k : KA) : Prop where
  wf : WF k
  nd : (k.live.map (·.1)).Nodup
  up : ∀ x ∈ k.live, x.1 ≤ k.made
theorem find_nodup : ∀ (l : List (Nat × RA)), (l.map (·.1)).Nodup → ∀ x ∈ l, l.find? (fun y => y.1 == x.1) = some x
  | [], _, x, h => by simp at h
  | a :: l, hn, x, h => by
    rw [List.map_cons, List.nodup_cons] at hn
    rw [List.find?_cons]
    rcases List.mem_cons.1 h with rfl | h
    · simp
    · have hne : (a.1 == x.1) = false := by
        rw [beq_eq_false_iff_ne]
        intro e
        exact hn.1 (e ▸ List.mem_map_of_mem h)
      rw [hne]
      exact find_nodup l hn.2 x h
theorem WU.get {k : KA} (h : WU k) {x : Nat × RA} (hx : x ∈ k.live) : k.get x.1 = some x.2 := by
  unfold KA.get
  rw [find_nodup _ h.nd x hx]
  rfl
theorem get_mem {k : KA} {n : Nat} {r : RA} (h : k.get n = some r) : (n, r) ∈ k.live := by
  unfold KA.get at h
  obtain ⟨y, hy, rfl⟩ := Option.map_eq_some_iff.1 h
  have h1 := List.mem_of_find?_eq_some hy
  have h2 : y.1 = n := by have := List.find?_some hy; simpa using this
  obtain ⟨y1, y2⟩ := y
  simp only at h2
  subst h2
  exact h1
theorem WU.upd {k : KA} (h : WU k) (n : Nat) (f : RA → RA) (hf : ∀ r, k.get n = some r → (∀ b ∈ (f r).bytes, b < 256) ∧ (1 ≤ (f r).bytes.length ∧ (f r).bytes.length ≤ 1048576) ∧ 1 ≤ (f r).perm ∧ (f r).perm ≤ 3) : WU (k.upd n f) := by
  have key : ∀ y ∈ (k.upd n f).live, ∃ x ∈ k.live, y.1 = x.1 ∧ ((x.1 = n ∧ y.2 = f x.2) ∨ y.2 = x.2) := by
    intro y hy
    simp only [KA.upd, List.mem_map] at hy
    obtain ⟨x, hx, rfl⟩ := hy
    refine ⟨x, hx, ?_⟩
    split
    · rename_i e; exact ⟨rfl, .inl ⟨e, rfl⟩⟩
    · exact ⟨rfl, .inr rfl⟩
  have k2 : ∀ x ∈ k.live, x.1 = n → _ := fun x hx e => hf x.2 (e ▸ h.get hx)
  have e1 : (k.upd n f).live.map (·.1) = k.live.map (·.1) := by
    simp only [KA.upd, List.map_map]
    apply List.map_congr_left
    intro x _
    simp only [Function.comp_apply]
    split <;> rfl
  refine ⟨⟨fun y hy => ?_, fun y hy => ?_, fun y hy => ?_, ?_, h.wf.tl, h.wf.mx⟩, by rw [e1]; exact h.nd, fun y hy => ?_⟩
  · obtain ⟨x, hx, _, ⟨e, e2⟩ | e2⟩ := key y hy
    · rw [e2]; exact (k2 x hx e).1
    · rw [e2]; exact h.wf.by_ x hx
  · obtain ⟨x, hx, _, ⟨e, e2⟩ | e2⟩ := key y hy
    · rw [e2]; exact (k2 x hx e).2.1
    · rw [e2]; exact h.wf.ln x hx
  · obtain ⟨x, hx, _, ⟨e, e2⟩ | e2⟩ := key y hy
    · rw [e2]; exact (k2 x hx e).2.2
    · rw [e2]; exact h.wf.pm x hx
  · simp only [KA.upd, List.length_map]; exact h.wf.lv
  · obtain ⟨x, hx, e, _⟩ := key y hy
    rw [e]; exact h.up x hx
theorem span_get {k : KA} {a : Nat} {n : Int} {p : Nat} {r : RA} (h : k.span a n p = .ok r) : k.get (hi32 a) = some r ∧ (lo32 a : Int) + n ≤ r.bytes.length := by
  unfold KA.span at h
  split at h
  · cases h
  · split at h
    · cases h
    · split at h
      · cases h
      · split at h
        · cases h
        · cases h
          rename_i h1 _ h2
          exact ⟨h1, by omega⟩
theorem WU.put {k : KA} (h : WU k) (a : Nat) (v : List Nat) (hv : ∀ b ∈ v, b < 256) : WU (k.put a v).2 := by
  unfold KA.put
  split
  · exact h
  · cases hs : k.span a v.length 0 with
    | error e => exact h
    | ok r =>
      obtain ⟨hg, hl⟩ := span_get hs
      show WU (k.upd (hi32 a) fun r => { r with bytes := splice r.bytes (lo32 a) v })
      refine h.upd _ _ fun r' hr' => ?_
      rw [hg] at hr'
      cases hr'
      have hm := get_mem hg
      have e := length_splice r.bytes (lo32 a) v (by omega)
      refine ⟨fun b hb => ?_, ?_, h.wf.pm _ hm⟩
      · rcases mem_splice hb with hb | hb
        · exact h.wf.by_ _ hm b hb
        · exact hv b hb
      · simp only [e]; exact h.wf.ln _ hm
theorem WU.free {k : KA} (h : WU k) (a : Nat) : WU (k.free a).2 := by
  unfold KA.free
  split
  · exact h
  · have hin : ∀ x ∈ (k.live.filter fun x => x.1 != hi32 a), x ∈ k.live := fun x hx => (List.mem_filter.1 hx).1
    exact ⟨⟨fun x hx => h.wf.by_ x (hin x hx), fun x hx => h.wf.ln x (hin x hx), fun x hx => h.wf.pm x (hin x hx), Nat.le_trans (List.length_filter_le _ _) h.wf.lv, h.wf.tl, h.wf.mx⟩, (List.filter_sublist.map _).nodup h.nd, fun x hx => h.up x (hin x hx)⟩
theorem WU.alloc {k : KA} (h : WU k) (s p : Int) (hm : k.made + 1 < 4294967296) : WU (k.alloc s p).2.2 ∧ (k.alloc s p).2.2.made ≤ k.made + 1 := by
  unfold KA.alloc
  split
  · exact ⟨h, by simp⟩
  rename_i h1
  split
  · exact ⟨⟨⟨h.wf.by_, h.wf.ln, h.wf.pm, h.wf.lv, Nat.zero_le _, h.wf.mx⟩, h.nd, h.up⟩, by simp⟩
  split
  · exact ⟨⟨⟨h.wf.by_, h.wf.ln, h.wf.pm, h.wf.lv, Nat.le_trans (Nat.sub_le _ _) h.wf.tl, h.wf.mx⟩, h.nd, h.up⟩, by simp⟩
  rename_i h2 h3
  have key : ∀ x ∈ (KA.allocOk s p k).live, x ∈ k.live ∨ x = (k.made + 1, ⟨List.replicate s.toNat 0, p.toNat, false⟩) := fun x hx => by
    simpa [KA.allocOk] using hx
  refine ⟨⟨⟨fun x hx => ?_, fun x hx => ?_, fun x hx => ?_, ?_, Nat.le_trans (Nat.sub_le _ _) h.wf.tl, hm⟩, ?_, fun x hx => ?_⟩, Nat.le_refl _⟩
  · rcases key x hx with hx | rfl
    · exact h.wf.by_ x hx
    · intro b hb
      have := List.eq_of_mem_replicate hb
      omega
  · rcases key x hx with hx | rfl
    · exact h.wf.ln x hx
    · simp only [List.length_replicate]; omega
  · rcases key x hx with hx | rfl
    · exact h.wf.pm x hx
    · simp only; omega
  · simp only [KA.allocOk, List.length_append, List.length_singleton]; omega
  · simp only [KA.allocOk, List.map_append, List.map_cons, List.map_nil]
    rw [List.nodup_append]
    refine ⟨h.nd, by simp, fun a ha b hb => ?_⟩
    simp at hb
    obtain ⟨x, hx, rfl⟩ := List.mem_map.1 ha
    have := h.up x hx
    omega
  · rcases key x hx with hx | rfl
    · have := h.up x hx; simp only [KA.allocOk]; omega
    · exact Nat.le_refl _
theorem liveOf_up (ls : List RE) (s : Nat) : (∀ x ∈ liveOf s ls, s ≤ x.1 ∧ x.1 < s + ls.length) ∧ ((liveOf s ls).map (·.1)).Nodup := by
  induction ls generalizing s with
  | nil => simp [liveOf]
  | cons e l ih =>
    obtain ⟨h1, h2⟩ := ih (s + 1)
    unfold liveOf
    cases e.a with
    | none =>
      simp only [List.nil_append, List.length_cons]
      exact ⟨fun x hx => by have := h1 x hx; omega, h2⟩
    | some a =>
      simp only [List.singleton_append, List.mem_cons, List.map_cons, List.nodup_cons, List.length_cons]
      refine ⟨fun x hx => ?_, fun hm => ?_, h2⟩
      · rcases hx with rfl | hx
        · simp only; omega
        · have := h1 x hx; omega
      · obtain ⟨x, hx, e⟩ := List.mem_map.1 hm
        have := h1 x hx
        omega
theorem RS.wu {w : World} {x : Nat} {k : KA} {G : List Nat} (h : RS w x k G) (hw : WF k) : WU k := by
  obtain ⟨ls, sv, h1, _⟩ := h
  have := liveOf_up ls 1
  rw [← h1.lv] at this
  exact ⟨hw, this.2, fun x hx => by have := this.1 x hx; rw [h1.md]; omega⟩
end Go.Proofs.Ytmgocjclopfeeaa
