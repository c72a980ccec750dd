/- The trie's plain data and what a world holds of it. -/
import Derived.Test.YtopdgpmeccdogaaFrame
set_option linter.unusedVariables false
set_option linter.unusedSimpArgs false
namespace Go.Proofs.Ytopdgpmeccdogaa
open Go.RowKit Go.MapKept
open Go.ChangeMaps (setBlock)

/-- A tree of nodes, each in a block: its kids, its value's address (0: none), its form. -/
inductive CT where
  | nil : CT
  | node (b : Nat) (l r : CT) (a : Nat) (f : ByteArray) : CT
def CT.ptr : CT → Option Addr
  | .nil => none
  | .node b _ _ _ _ => some ⟨b, 0, none⟩
def CT.foot : CT → List Nat
  | .nil => []
  | .node b l r _ _ => b :: (l.foot ++ r.foot)
def CT.obj (l r : CT) (a : Nat) (f : ByteArray) : Obj := .cells #[.pointer l.ptr, .pointer r.ptr, .int .u64 a, .string f] 79 (0, 0)
def CT.holds (w : World) : CT → Prop
  | .nil => True
  | .node b l r a f => w.heap[b]? = some (CT.obj l r a f) ∧ l.holds w ∧ r.holds w
def CT.kid (x : Bool) : CT → CT
  | .nil => .nil
  | .node _ l r _ _ => if x then r else l
def CT.at_ : CT → Nat
  | .nil => 0
  | .node _ _ _ a _ => a
def CT.sub : CT → List Bool → CT
  | t, [] => t
  | t, x :: p => (t.kid x).sub p
def CT.F (t : CT) (p : List Bool) : Nat := (t.sub p).at_
def CT.mod : CT → List Bool → (CT → CT) → CT
  | t, [], g => g t
  | .nil, _ :: _, _ => .nil
  | .node b l r a f, x :: p, g => if x then .node b l (r.mod p g) a f else .node b (l.mod p g) r a f
theorem CT.sub_nil : ∀ p, CT.nil.sub p = .nil
  | [] => rfl
  | _ :: p => CT.sub_nil p
theorem CT.sub_append (t : CT) (p q : List Bool) : t.sub (p ++ q) = (t.sub p).sub q := by
  induction p generalizing t with
  | nil => rfl
  | cons x p ih => exact ih _
theorem CT.F_nil (p : List Bool) : CT.nil.F p = 0 := by simp [CT.F, CT.sub_nil, CT.at_]
theorem CT.kid_foot (t : CT) (x : Bool) : ∀ b ∈ (t.kid x).foot, b ∈ t.foot := by
  intro b hb
  cases t with
  | nil => simp [CT.kid, CT.foot] at hb
  | node c l r a f =>
    simp only [CT.kid] at hb
    simp only [CT.foot, List.mem_cons, List.mem_append]
    split at hb
    · exact .inr (.inr hb)
    · exact .inr (.inl hb)
theorem CT.sub_foot (t : CT) (p : List Bool) : ∀ b ∈ (t.sub p).foot, b ∈ t.foot := by
  induction p generalizing t with
  | nil => intro b hb; exact hb
  | cons x p ih => intro b hb; exact t.kid_foot x b (ih _ b hb)
theorem CT.holds_frame {w w' : World} : ∀ (t : CT), t.holds w → (∀ k ∈ t.foot, w'.heap[k]? = w.heap[k]?) → t.holds w'
  | .nil, _, _ => trivial
  | .node b l r a f, h, hf => ⟨by rw [hf b (by simp [CT.foot])]; exact h.1,
      CT.holds_frame l h.2.1 (fun k hk => hf k (by simp [CT.foot, hk])), CT.holds_frame r h.2.2 (fun k hk => hf k (by simp [CT.foot, hk]))⟩
theorem CT.holds_lt {w : World} : ∀ (t : CT), t.holds w → ∀ k ∈ t.foot, k < w.heap.size
  | .nil, _, k, hk => by simp [CT.foot] at hk
  | .node b l r a f, h, k, hk => by
    simp only [CT.foot, List.mem_cons, List.mem_append] at hk
    rcases hk with rfl | hk | hk
    · exact lt_of_heap h.1
    · exact CT.holds_lt l h.2.1 k hk
    · exact CT.holds_lt r h.2.2 k hk
theorem CT.holds_kid {w : World} {t : CT} (h : t.holds w) (x : Bool) : (t.kid x).holds w := by
  cases t with
  | nil => exact trivial
  | node b l r a f => simp only [CT.kid]; split; exact h.2.2; exact h.2.1
theorem CT.holds_sub {w : World} {t : CT} (h : t.holds w) (p : List Bool) : (t.sub p).holds w := by
  induction p generalizing t with
  | nil => exact h
  | cons x p ih => exact ih (CT.holds_kid h x)
theorem CT.ptr_mod (t : CT) (p : List Bool) (g : CT → CT) (hg : (g (t.sub p)).ptr = (t.sub p).ptr) : (t.mod p g).ptr = t.ptr := by
  cases p with
  | nil => cases t <;> exact hg
  | cons x p =>
    cases t with
    | nil => rfl
    | node b l r a f => simp only [CT.mod]; split <;> rfl
theorem CT.holds_mod {w w' : World} {b : Nat} {l r : CT} {a : Nat} {f : ByteArray} {g : CT → CT} (hptr : (g (.node b l r a f)).ptr = some ⟨b, 0, none⟩) (hs' : (g (.node b l r a f)).holds w') :
    ∀ (t : CT) (p : List Bool), t.sub p = .node b l r a f → t.holds w → t.foot.Nodup → (∀ k ∈ t.foot, k ≠ b → w'.heap[k]? = w.heap[k]?) → (t.mod p g).holds w' := by
  intro t p
  induction p generalizing t with
  | nil =>
    intro hs h nd hw
    have hs : t = .node b l r a f := hs
    subst hs
    exact hs'
  | cons x p ih =>
    intro hs h nd hw
    cases t with
    | nil => rw [CT.sub_nil] at hs; cases hs
    | node c l0 r0 a0 f0 =>
      simp only [CT.foot, List.nodup_cons, List.mem_append, not_or, List.nodup_append] at nd
      obtain ⟨⟨n1, n2⟩, n3, n4, n5⟩ := nd
      have hbin : b ∈ ((CT.node c l0 r0 a0 f0).kid x).foot := CT.sub_foot _ p b (by
        have : ((CT.node c l0 r0 a0 f0).kid x).sub p = .node b l r a f := hs
        rw [this]; simp [CT.foot])
      have hs2 : ((CT.node c l0 r0 a0 f0).kid x).sub p = .node b l r a f := hs
      cases x with
      | true =>
        simp only [CT.kid, if_true] at hbin hs2
        have hcb : c ≠ b := fun e => n2 (e ▸ hbin)
        have hpm := CT.ptr_mod r0 p g (by rw [hs2]; exact hptr)
        refine ⟨?_, CT.holds_frame l0 h.2.1 (fun k hk => hw k (by simp [CT.foot, hk]) (fun e => n5 k hk b hbin e)), ih r0 hs2 h.2.2 n4 (fun k hk hne => hw k (by simp [CT.foot, hk]) hne)⟩
        rw [hw c (by simp [CT.foot]) hcb, h.1]
        simp only [CT.obj, hpm]
      | false =>
        simp only [CT.kid, Bool.false_eq_true, if_false] at hbin hs2
        have hcb : c ≠ b := fun e => n1 (e ▸ hbin)
        have hpm := CT.ptr_mod l0 p g (by rw [hs2]; exact hptr)
        refine ⟨?_, ih l0 hs2 h.2.1 n3 (fun k hk hne => hw k (by simp [CT.foot, hk]) hne), CT.holds_frame r0 h.2.2 (fun k hk => hw k (by simp [CT.foot, hk]) (fun e => n5 b hbin k hk e.symm))⟩
        rw [hw c (by simp [CT.foot]) hcb, h.1]
        simp only [CT.obj, hpm]
theorem CT.foot_mod {g : CT → CT} : ∀ (t : CT) (p : List Bool), t.foot.Nodup → (g (t.sub p)).foot.Nodup → (∀ k ∈ (g (t.sub p)).foot, k ∈ (t.sub p).foot ∨ k ∉ t.foot) →
    (t.mod p g).foot.Nodup ∧ ∀ k ∈ (t.mod p g).foot, k ∈ t.foot ∨ k ∈ (g (t.sub p)).foot := by
  intro t p
  induction p generalizing t with
  | nil =>
    intro nd hg hk
    have e : t.mod [] g = g t := by cases t <;> rfl
    rw [e]
    exact ⟨hg, fun k h => .inr h⟩
  | cons x p ih =>
    intro nd hg hk
    cases t with
    | nil => exact ⟨nd, fun k h => .inl h⟩
    | node c l0 r0 a0 f0 =>
      have nd0 := nd
      simp only [CT.foot, List.nodup_cons, List.mem_append, not_or, List.nodup_append] at nd
      obtain ⟨⟨n1, n2⟩, n3, n4, n5⟩ := nd
      cases x with
      | true =>
        have hg' : (g (r0.sub p)).foot.Nodup := hg
        have hk' : ∀ k ∈ (g (r0.sub p)).foot, k ∈ (r0.sub p).foot ∨ k ∉ (CT.node c l0 r0 a0 f0).foot := hk
        obtain ⟨m1, m2⟩ := ih r0 n4 hg' (fun k h => (hk' k h).imp id (fun h1 h2 => h1 (by simp [CT.foot, h2])))
        have hin : ∀ k ∈ (r0.mod p g).foot, k ∈ r0.foot ∨ k ∉ (CT.node c l0 r0 a0 f0).foot := fun k h => by
          rcases m2 k h with h1 | h1
          · exact .inl h1
          · rcases hk' k h1 with h2 | h2
            · exact .inl (CT.sub_foot r0 p k h2)
            · exact .inr h2
        refine ⟨?_, fun k h => ?_⟩
        · simp only [CT.mod, if_true, CT.foot, List.nodup_cons, List.mem_append, not_or, List.nodup_append]
          refine ⟨⟨n1, fun h => ?_⟩, n3, m1, fun u hu v hv e => ?_⟩
          · rcases hin c h with h1 | h1
            · exact n2 h1
            · exact h1 (by simp [CT.foot])
          · subst e
            rcases hin u hv with h1 | h1
            · exact n5 u hu u h1 rfl
            · exact h1 (by simp [CT.foot, hu])
        · simp only [CT.mod, if_true, CT.foot, List.mem_cons, List.mem_append] at h ⊢
          rcases h with h | h | h
          · exact .inl (.inl h)
          · exact .inl (.inr (.inl h))
          · rcases m2 k h with h1 | h1
            · exact .inl (.inr (.inr h1))
            · exact .inr h1
      | false =>
        have hg' : (g (l0.sub p)).foot.Nodup := hg
        have hk' : ∀ k ∈ (g (l0.sub p)).foot, k ∈ (l0.sub p).foot ∨ k ∉ (CT.node c l0 r0 a0 f0).foot := hk
        obtain ⟨m1, m2⟩ := ih l0 n3 hg' (fun k h => (hk' k h).imp id (fun h1 h2 => h1 (by simp [CT.foot, h2])))
        have hin : ∀ k ∈ (l0.mod p g).foot, k ∈ l0.foot ∨ k ∉ (CT.node c l0 r0 a0 f0).foot := fun k h => by
          rcases m2 k h with h1 | h1
          · exact .inl h1
          · rcases hk' k h1 with h2 | h2
            · exact .inl (CT.sub_foot l0 p k h2)
            · exact .inr h2
        refine ⟨?_, fun k h => ?_⟩
        · simp only [CT.mod, Bool.false_eq_true, if_false, CT.foot, List.nodup_cons, List.mem_append, not_or, List.nodup_append]
          refine ⟨⟨fun h => ?_, n2⟩, m1, n4, fun u hu v hv e => ?_⟩
          · rcases hin c h with h1 | h1
            · exact n1 h1
            · exact h1 (by simp [CT.foot])
          · subst e
            rcases hin u hu with h1 | h1
            · exact n5 u h1 u hv rfl
            · exact h1 (by simp [CT.foot, hv])
        · simp only [CT.mod, Bool.false_eq_true, if_false, CT.foot, List.mem_cons, List.mem_append] at h ⊢
          rcases h with h | h | h
          · exact .inl (.inl h)
          · rcases m2 k h with h1 | h1
            · exact .inl (.inr (.inl h1))
            · exact .inr h1
          · exact .inl (.inr (.inr h))
theorem CT.F_mod {g : CT → CT} : ∀ (t : CT) (p q : List Bool), (∀ q', (g (t.sub p)).F q' = (t.sub p).F q') → (t.mod p g).F q = t.F q := by
  intro t p
  induction p generalizing t with
  | nil =>
    intro q h
    have e : t.mod [] g = g t := by cases t <;> rfl
    rw [e]
    exact h q
  | cons x p ih =>
    intro q h
    cases t with
    | nil => rfl
    | node c l0 r0 a0 f0 =>
      cases q with
      | nil => cases x <;> rfl
      | cons y q =>
        cases x <;> cases y
        · exact ih l0 q h
        · rfl
        · rfl
        · exact ih r0 q h
def CT.putg (a : Nat) (f : ByteArray) : CT → CT
  | .nil => .nil
  | .node b l r _ _ => .node b l r a f
theorem CT.F_put {b : Nat} {l r : CT} {a a' : Nat} {f f' : ByteArray} : ∀ (t : CT) (p q : List Bool), t.sub p = .node b l r a f → (t.mod p (CT.putg a' f')).F q = if q = p then a' else t.F q := by
  intro t p
  induction p generalizing t with
  | nil =>
    intro q h
    have h : t = .node b l r a f := h
    subst h
    cases q with
    | nil => simp [CT.mod, CT.putg, CT.F, CT.sub, CT.at_]
    | cons y q => simp [CT.mod, CT.putg, CT.F, CT.sub, CT.kid]
  | cons x p ih =>
    intro q h
    cases t with
    | nil => rw [CT.sub_nil] at h; cases h
    | node c l0 r0 a0 f0 =>
      have h2 : ((CT.node c l0 r0 a0 f0).kid x).sub p = .node b l r a f := h
      cases q with
      | nil => cases x <;> simp [CT.mod, CT.F, CT.sub, CT.at_]
      | cons y q =>
        cases x <;> cases y
        · simp only [CT.kid, Bool.false_eq_true, if_false] at h2
          have := ih l0 q h2
          simp only [List.cons.injEq, true_and]
          exact this
        · rw [if_neg (by simp)]; rfl
        · rw [if_neg (by simp)]; rfl
        · simp only [CT.kid, if_true] at h2
          have := ih r0 q h2
          simp only [List.cons.injEq, true_and]
          exact this
theorem CT.sub_mod {g : CT → CT} : ∀ (t : CT) (p q : List Bool), t.sub p ≠ .nil → (t.mod p g).sub (p ++ q) = (g (t.sub p)).sub q := by
  intro t p
  induction p generalizing t with
  | nil => intro q h; cases t <;> rfl
  | cons x p ih =>
    intro q h
    cases t with
    | nil => exact absurd (CT.sub_nil _) h
    | node c l0 r0 a0 f0 =>
      cases x
      · exact ih l0 q h
      · exact ih r0 q h
end Go.Proofs.Ytopdgpmeccdogaa
