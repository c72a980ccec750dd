/- Contract of the trie's find where nodes are made: it tells a prefix's node, and every prefix has what it had; condition: the table lies in the world. -/
import Derived.Test.YtopdgpmeccdogaaTFind
set_option linter.unusedVariables false
set_option linter.unusedSimpArgs false
namespace Go.Proofs.Ytopdgpmeccdogaa
open Go.RowKit Go.MapKept
open Go.ChangeMaps (setBlock)

def CT.setKid (x : Bool) (s : CT) : CT → CT
  | .nil => .nil
  | .node b l r a f => if x then .node b l s a f else .node b s r a f
def CT.leaf (B : Nat) : CT := .node B .nil .nil 0 ⟨#[]⟩
def growW (w : World) (b : Nat) (x : Bool) : World := (w.setCell ⟨b, x.toNat, none⟩ (.pointer (some ⟨w.heap.size, 0, none⟩))).alloc (CT.obj .nil .nil 0 ⟨#[]⟩)
theorem CT.leaf_F (B : Nat) (q : List Bool) : (CT.leaf B).F q = 0 := by
  cases q with
  | nil => rfl
  | cons y q => show (((CT.leaf B).kid y).F q) = 0; cases y <;> exact CT.F_nil q
theorem CT.setKid_F {b : Nat} {l r : CT} {a : Nat} {f : ByteArray} {x : Bool} {B : Nat} (hk : (CT.node b l r a f).kid x = .nil) (q : List Bool) : (CT.setKid x (CT.leaf B) (.node b l r a f)).F q = (CT.node b l r a f).F q := by
  cases q with
  | nil => cases x <;> rfl
  | cons y q =>
    cases x <;> cases y
    · have hl : l = .nil := hk
      subst hl
      show (CT.leaf B).F q = CT.nil.F q
      rw [CT.leaf_F, CT.F_nil]
    · rfl
    · rfl
    · have hr : r = .nil := hk
      subst hr
      show (CT.leaf B).F q = CT.nil.F q
      rw [CT.leaf_F, CT.F_nil]
theorem TM.grow {w : World} {x m : Nat} {s : TSpec} {t : CT} {n : Nat} (h : TM w x m s t n) {p : List Bool} {b : Nat} {l r : CT} {a : Nat} {f : ByteArray} (hs : t.sub p = .node b l r a f) {bit : Bool} (hk : (CT.node b l r a f).kid bit = .nil) :
    TM (growW w b bit) x m s (t.mod p (CT.setKid bit (CT.leaf w.heap.size))) n ∧ (∀ q, (t.mod p (CT.setKid bit (CT.leaf w.heap.size))).F q = t.F q) ∧
      (t.mod p (CT.setKid bit (CT.leaf w.heap.size))).sub (p ++ [bit]) = CT.leaf w.heap.size ∧ Fr (x :: t.foot) (x :: (t.mod p (CT.setKid bit (CT.leaf w.heap.size))).foot) w (growW w b bit) := by
  have hlt := h.lt
  have hnd := h.nd
  simp only [List.nodup_cons] at hnd
  have hbf : b ∈ t.foot := CT.sub_foot t p b (by rw [hs]; simp [CT.foot])
  have hbl := hlt b (by simp [hbf])
  have hbx : b ≠ x := fun e => hnd.1 (e ▸ hbf)
  have hnode := CT.holds_sub h.ht p
  rw [hs] at hnode
  have hnb : (CT.node b l r a f).foot.Nodup := by
    have : ∀ (t : CT) (p : List Bool), t.foot.Nodup → (t.sub p).foot.Nodup := by
      intro t p
      induction p generalizing t with
      | nil => intro h; exact h
      | cons y p ih =>
        intro h
        refine ih _ ?_
        cases t with
        | nil => exact h
        | node c l0 r0 a0 f0 =>
          simp only [CT.foot, List.nodup_cons, List.nodup_append] at h
          simp only [CT.kid]
          split
          · exact h.2.2.1
          · exact h.2.1
    rw [← hs]
    exact this t p hnd.2
  have hold : ∀ k, k < w.heap.size → k ≠ b → (growW w b bit).heap[k]? = w.heap[k]? := fun k hk hne => by
    unfold growW
    rw [Below.heap_alloc _ _ _ (by simpa using hk), Below.heap_setCell _ _ _ _ hne]
  have hnew : (growW w b bit).heap[w.heap.size]? = some (CT.obj .nil .nil 0 ⟨#[]⟩) := by
    have := heap_alloc_new (w.setCell ⟨b, bit.toNat, none⟩ (.pointer (some ⟨w.heap.size, 0, none⟩))) (CT.obj .nil .nil 0 ⟨#[]⟩)
    simpa [growW] using this
  have hB : (growW w b bit).heap[b]? = some (CT.obj (if bit then l else CT.leaf w.heap.size) (if bit then CT.leaf w.heap.size else r) a f) := by
    unfold growW
    refine heap_alloc_some ?_
    have : w.heap[b]? = some (CT.obj l r a f) := hnode.1
    rw [heap_setCell_same this]
    cases bit <;> rfl
  have hleaf : (CT.leaf w.heap.size).holds (growW w b bit) := ⟨hnew, trivial, trivial⟩
  have hbl2 : b ∉ l.foot ∧ b ∉ r.foot := by
    simp only [CT.foot, List.nodup_cons, List.mem_append, not_or] at hnb
    exact hnb.1
  have hg : (CT.setKid bit (CT.leaf w.heap.size) (.node b l r a f)).holds (growW w b bit) := by
    have h1 := CT.holds_frame (w' := growW w b bit) l hnode.2.1 (fun k hk => hold k (CT.holds_lt l hnode.2.1 k hk) (fun e => hbl2.1 (e ▸ hk)))
    have h2 := CT.holds_frame (w' := growW w b bit) r hnode.2.2 (fun k hk => hold k (CT.holds_lt r hnode.2.2 k hk) (fun e => hbl2.2 (e ▸ hk)))
    cases bit with
    | true => exact ⟨hB, h1, hleaf⟩
    | false => exact ⟨hB, hleaf, h2⟩
  have hgp : (CT.setKid bit (CT.leaf w.heap.size) (.node b l r a f)).ptr = some ⟨b, 0, none⟩ := by cases bit <;> rfl
  have hgf : ∀ k ∈ (CT.setKid bit (CT.leaf w.heap.size) (t.sub p)).foot, k ∈ (t.sub p).foot ∨ k = w.heap.size := by
    rw [hs]
    intro k hk
    cases bit with
    | true =>
      simp only [CT.setKid, if_true, CT.foot, CT.leaf, List.mem_cons, List.mem_append, List.not_mem_nil, or_false] at hk ⊢
      rcases hk with h | h | h
      · exact .inl (.inl h)
      · exact .inl (.inr (.inl h))
      · exact .inr h
    | false =>
      simp only [CT.setKid, Bool.false_eq_true, if_false, CT.foot, CT.leaf, List.mem_cons, List.mem_append, List.not_mem_nil, or_false] at hk ⊢
      rcases hk with h | h | h
      · exact .inl (.inl h)
      · exact .inr h
      · exact .inl (.inr (.inr h))
  have hsz : w.heap.size ∉ t.foot := fun h => by have := hlt _ (List.mem_cons_of_mem x h); omega
  have hgn : (CT.setKid bit (CT.leaf w.heap.size) (t.sub p)).foot.Nodup := by
    rw [hs]
    have hll : ∀ k ∈ l.foot, k < w.heap.size := CT.holds_lt l hnode.2.1
    have hrl : ∀ k ∈ r.foot, k < w.heap.size := CT.holds_lt r hnode.2.2
    simp only [CT.foot, List.nodup_cons, List.mem_append, not_or, List.nodup_append] at hnb
    cases bit with
    | true =>
      simp only [CT.setKid, if_true, CT.foot, CT.leaf, List.nodup_cons, List.mem_append, List.mem_cons, List.not_mem_nil, not_or, List.nodup_append, or_false]
      refine ⟨⟨hnb.1.1, by omega⟩, hnb.2.1, by simp, fun u hu v hv => ?_⟩
      have := hll u hu
      omega
    | false =>
      simp only [CT.setKid, Bool.false_eq_true, if_false, CT.foot, CT.leaf, List.nodup_cons, List.mem_append, List.mem_cons, List.not_mem_nil, not_or, List.nodup_append, or_false]
      refine ⟨⟨by omega, hnb.1.2⟩, by simp, hnb.2.2.1, fun u hu v hv => ?_⟩
      have := hrl v hv
      omega
  obtain ⟨m1, m2⟩ := CT.foot_mod (g := CT.setKid bit (CT.leaf w.heap.size)) t p hnd.2 hgn (fun k hk => (hgf k hk).imp id (fun e => by rw [e]; exact hsz))
  have m3 : ∀ k ∈ (t.mod p (CT.setKid bit (CT.leaf w.heap.size))).foot, k ∈ t.foot ∨ k = w.heap.size := fun k hk => by
    rcases m2 k hk with h1 | h1
    · exact .inl h1
    · rcases hgf k h1 with h2 | h2
      · exact .inl (CT.sub_foot t p k h2)
      · exact .inr h2
  have hF : ∀ q, (t.mod p (CT.setKid bit (CT.leaf w.heap.size))).F q = t.F q := fun q => CT.F_mod t p q (fun q' => by rw [hs]; exact CT.setKid_F hk q')
  have hptr : (t.mod p (CT.setKid bit (CT.leaf w.heap.size))).ptr = t.ptr := CT.ptr_mod t p _ (by rw [hs]; exact hgp)
  refine ⟨⟨?_, ?_, ?_, ?_, fun q => by rw [hF]; exact h.ab q⟩, hF, ?_, ?_⟩
  · rw [hold x (hlt x (by simp)) hbx.symm, hptr]
    exact h.hx
  · exact CT.holds_mod hgp hg t p hs h.ht hnd.2 (fun k hk hne => hold k (hlt k (by simp [hk])) hne)
  · rw [List.nodup_cons]
    refine ⟨fun hx => ?_, m1⟩
    rcases m3 x hx with h1 | h1
    · exact hnd.1 h1
    · have := hlt x (by simp); omega
  · cases ht : t.mod p (CT.setKid bit (CT.leaf w.heap.size)) with
    | nil =>
      rw [ht] at hptr
      obtain ⟨b', l', r', a', f', e⟩ := h.nn
      rw [e] at hptr
      cases hptr
    | node b' l' r' a' f' => exact ⟨b', l', r', a', f', rfl⟩
  · rw [CT.sub_mod t p [bit] (by rw [hs]; intro e; cases e), hs]
    cases bit <;> rfl
  · refine ⟨rfl, rfl, rfl, by simp [growW], fun k hk hn => hold k hk (fun e => hn (by simp [e, hbf])), fun k hk => ?_⟩
    rcases List.mem_cons.1 hk with rfl | hk
    · exact .inl (by simp)
    · rcases m3 k hk with h1 | h1
      · exact .inl (by simp [h1])
      · exact .inr (by omega)
end Go.Proofs.Ytopdgpmeccdogaa
