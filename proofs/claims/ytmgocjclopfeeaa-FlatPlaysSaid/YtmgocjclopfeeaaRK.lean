/- The reference's memory, and how a world holds it; conditions: none. -/
import Derived.Test.YtmgocjclopfeeaaKLaw
import Derived.Deep.AppendLies
set_option linter.unusedVariables false
set_option linter.unusedSimpArgs false
namespace Go.Proofs.Ytmgocjclopfeeaa
open Go.RowKit Go.MapKept

theorem rk_cell {w : World} {b : Nat} {cs : Array Value} {t : TypeId} (h : w.heap[b]? = some (.cells cs t (0, 0))) (i : Nat) : w.cell? ⟨b, i, none⟩ = cs[i]? := by simp [World.cell?, h]
theorem rk_frozen {w : World} {b : Nat} {cs : Array Value} {t : TypeId} (h : w.heap[b]? = some (.cells cs t (0, 0))) (i : Nat) : w.frozen? ⟨b, i, none⟩ = false := by simp [World.frozen?, h]
/-- A region that was made: its block, its bytes' block, what it holds; none: it was freed (what stands in its fields then: p, t). -/
structure RE where
  r : Nat
  d : Nat
  a : Option RA
  p : Int
  t : Bool
def RE.cells (e : RE) : Obj := match e.a with
  | some x => .cells #[.slice (some ⟨e.d, 0, none⟩) x.bytes.length x.bytes.length, .int .i64 x.perm, .bool x.ret] 104 (0, 0)
  | none => .cells #[.slice none 0 0, .int .i64 e.p, .bool e.t] 104 (0, 0)
def liveOf : Nat → List RE → List (Nat × RA)
  | _, [] => []
  | s, e :: l => (match e.a with | some a => [(s, a)] | none => []) ++ liveOf (s + 1) l
def rfoot (x : Nat) (sv : Value) (ls : List RE) : List Nat := x :: (sv.ownBlock.toList ++ ls.flatMap fun e => [e.r, e.d])
def memO (sv : Value) (live til : Nat) : Obj := .cells #[sv, .int .i64 live, .int .i64 til] 51 (0, 0)
structure RM (w : World) (x : Nat) (ls : List RE) (sv : Value) (k : KA) : Prop where
  hx : w.heap[x]? = some (memO sv k.live.length k.til)
  hl : w.ownsRow 0 105 1 sv ls.length (ls.map fun e => Value.pointer (some ⟨e.r, 0, none⟩))
  hr : ∀ e ∈ ls, w.heap[e.r]? = some e.cells
  hd : ∀ e ∈ ls, ∀ a, e.a = some a → w.heap[e.d]? = some (byteCells a.bytes)
  ld : ∀ e ∈ ls, e.d < w.heap.size
  nd : (rfoot x sv ls).Nodup
  md : k.made = ls.length
  lv : k.live = liveOf 1 ls
/-- World w holds at block x the reference's memory k, in the blocks G. -/
def RS (w : World) (x : Nat) (k : KA) (G : List Nat) : Prop := ∃ ls sv, RM w x ls sv k ∧ rfoot x sv ls = G
def RPostS (x : Nat) (G : List Nat) (w : World) (v : Value) (k : KA) (e : Ending) (w' : World) : Prop := ∃ G', e = .returned v ∧ RS w' x k G' ∧ Fr G G' w w'
/-- What holds of any memory that kmem holds. -/
structure WF (k : KA) : Prop where
  by_ : ∀ x ∈ k.live, ∀ b ∈ x.2.bytes, b < 256
  ln : ∀ x ∈ k.live, 1 ≤ x.2.bytes.length ∧ x.2.bytes.length ≤ 1048576
  pm : ∀ x ∈ k.live, 1 ≤ x.2.perm ∧ x.2.perm ≤ 3
  lv : k.live.length ≤ 4096
  tl : k.til ≤ 1048576
  mx : k.made < 4294967296
theorem KS.wf {w : World} {m : Nat} {k : KA} {F : List Nat} (h : KS w m k F) : WF k := by
  obtain ⟨c, h1, rfl, _⟩ := h
  have key : ∀ x ∈ c.abs.live, ∃ r ∈ c.cs, r.a = x.2 := fun x hx => by
    obtain ⟨r, hr, rfl⟩ := List.mem_map.1 hx
    exact ⟨r, hr, rfl⟩
  refine ⟨fun x hx => ?_, fun x hx => ?_, fun x hx => ?_, by simpa [KC.abs] using h1.lv, h1.tl, h1.mx⟩
  · obtain ⟨r, hr, e⟩ := key x hx; rw [← e]; exact h1.by_ r hr
  · obtain ⟨r, hr, e⟩ := key x hx; rw [← e]; exact h1.ln r hr
  · obtain ⟨r, hr, e⟩ := key x hx; rw [← e]; exact h1.pm r hr
theorem mem_liveOf : ∀ (ls : List RE) (s : Nat) (x : Nat × RA), x ∈ liveOf s ls → s ≤ x.1 ∧ ∃ e, ls[x.1 - s]? = some e ∧ e.a = some x.2
  | [], s, x, h => by simp [liveOf] at h
  | e :: l, s, x, h => by
    rw [liveOf, List.mem_append] at h
    rcases h with h | h
    · cases ha : e.a with
      | none => rw [ha] at h; simp at h
      | some a => rw [ha] at h; simp at h; subst h; exact ⟨Nat.le_refl _, e, by simp, ha⟩
    · obtain ⟨h1, e', h2, h3⟩ := mem_liveOf l (s + 1) x h
      refine ⟨by omega, e', ?_, h3⟩
      rw [show x.1 - s = (x.1 - (s + 1)) + 1 by omega]
      simpa using h2
theorem find_liveOf (n : Nat) : ∀ (ls : List RE) (s : Nat), (liveOf s ls).find? (fun (x : Nat × RA) => x.1 == n) = if s ≤ n then ((ls[n - s]?).bind (·.a)).map fun a => (n, a) else none
  | [], s => by simp [liveOf]
  | e :: l, s => by
    rw [liveOf, List.find?_append, find_liveOf n l (s + 1)]
    by_cases c : s = n
    · subst c
      rw [if_pos (Nat.le_refl _), if_neg (by omega)]
      cases ha : e.a with
      | none => simp [ha]
      | some a => simp [ha]
    · have h0 : (match e.a with | some a => [(s, a)] | none => ([] : List (Nat × RA))).find? (fun (x : Nat × RA) => x.1 == n) = none := by
        cases e.a with
        | none => rfl
        | some a => simp [c]
      rw [h0, Option.none_or]
      by_cases c2 : s ≤ n
      · rw [if_pos (by omega), if_pos c2, show n - s = (n - (s + 1)) + 1 by omega]
        simp
      · rw [if_neg (by omega), if_neg c2]
section
variable {w : World} {x : Nat} {ls : List RE} {sv : Value} {k : KA}
theorem RM.get (h : RM w x ls sv k) (n : Nat) : k.get n = if 1 ≤ n then (ls[n - 1]?).bind (·.a) else none := by
  unfold KA.get
  rw [h.lv, find_liveOf]
  split
  · cases ls[n - 1]? with
    | none => rfl
    | some e => cases h : e.a <;> simp [h]
  · rfl
theorem RM.mem_live (h : RM w x ls sv k) {i : Nat} {e : RE} (hi : ls[i]? = some e) {a : RA} (ha : e.a = some a) : (i + 1, a) ∈ k.live := by
  have := h.get (i + 1)
  rw [if_pos (by omega), Nat.add_sub_cancel, hi] at this
  simp only [Option.bind_some, ha] at this
  unfold KA.get at this
  obtain ⟨y, hy, rfl⟩ := Option.map_eq_some_iff.1 this
  have h1 := List.mem_of_find?_eq_some hy
  have h2 : y.1 = i + 1 := by have := List.find?_some hy; simpa using this
  obtain ⟨y1, y2⟩ := y
  simp only at h2
  subst h2
  exact h1
theorem RM.cells (h : RM w x ls sv k) : w.cell? ⟨x, 0, none⟩ = some sv ∧ w.cell? ⟨x, 1, none⟩ = some (.int .i64 k.live.length) ∧ w.cell? ⟨x, 2, none⟩ = some (.int .i64 k.til) ∧ ∀ i, w.frozen? ⟨x, i, none⟩ = false := by
  have := h.hx
  unfold memO at this
  exact ⟨rk_cell this 0, rk_cell this 1, rk_cell this 2, fun i => rk_frozen this i⟩
theorem RM.form (h : RM w x ls sv k) : ∃ A cap, sv = .slice A ls.length cap ∧ ∀ (i : Nat) (e : RE), ls[i]? = some e → ∃ g, A = some ⟨g, 0, none⟩ ∧ w.cell? ⟨g, i, none⟩ = some (.pointer (some ⟨e.r, 0, none⟩)) := by
  have hl := h.hl
  have hcell : ∀ g, sv.ownBlock = some g → ∀ (i : Nat) (e : RE), ls[i]? = some e → w.cell? ⟨g, i, none⟩ = some (.pointer (some ⟨e.r, 0, none⟩)) := fun g hg i e hi => by
    have := hl.cells (g := g) hg i (.pointer (some ⟨e.r, 0, none⟩)) (by simp [hi])
    rwa [show (⟨g, 0, none⟩ : Addr).add i = ⟨g, i, none⟩ by unfold Addr.add; split <;> simp_all] at this
  rcases hl.2 with ⟨h1, h2⟩ | ⟨g, cap, cur, hv, _⟩
  · refine ⟨none, 0, by rw [h1, h2], fun i e hi => ?_⟩
    have := (List.getElem?_eq_some_iff.1 hi).1
    omega
  · exact ⟨some ⟨g, 0, none⟩, cap, hv, fun i e hi => ⟨g, rfl, hcell g (by rw [hv]; rfl) i e hi⟩⟩
theorem RM.lt (h : RM w x ls sv k) : ∀ b ∈ rfoot x sv ls, b < w.heap.size := by
  intro b hb
  unfold rfoot at hb
  simp only [List.mem_cons, List.mem_append, Option.mem_toList, List.mem_flatMap] at hb
  rcases hb with rfl | hb | ⟨e, he, hb⟩
  · exact lt_of_heap h.hx
  · exact ownsRow_lt h.hl b hb
  · simp at hb
    rcases hb with rfl | rfl
    · exact lt_of_heap (h.hr e he)
    · exact h.ld e he
theorem RM.frame {w' : World} (h : RM w x ls sv k) (hf : ∀ b ∈ rfoot x sv ls, w'.heap[b]? = w.heap[b]?) (hs : w.heap.size ≤ w'.heap.size) : RM w' x ls sv k := by
  have hin : ∀ e ∈ ls, e.r ∈ rfoot x sv ls ∧ e.d ∈ rfoot x sv ls := fun e he => by
    unfold rfoot
    simp only [List.mem_cons, List.mem_append, List.mem_flatMap]
    exact ⟨.inr (.inr ⟨e, he, by simp⟩), .inr (.inr ⟨e, he, by simp⟩)⟩
  refine ⟨?_, ownsRow_keep h.hl fun g hg => hf g ?_, fun e he => ?_, fun e he a ha => ?_, fun e he => Nat.lt_of_lt_of_le (h.ld e he) hs, h.nd, h.md, h.lv⟩
  · rw [hf x (by unfold rfoot; simp)]; exact h.hx
  · unfold rfoot; simp [hg]
  · rw [hf _ (hin e he).1]; exact h.hr e he
  · rw [hf _ (hin e he).2]; exact h.hd e he a ha
end
theorem RS.frame {w w' : World} {x : Nat} {k : KA} {G : List Nat} (h : RS w x k G) (hf : ∀ b ∈ G, w'.heap[b]? = w.heap[b]?) (hs : w.heap.size ≤ w'.heap.size) : RS w' x k G := by
  obtain ⟨ls, sv, h1, rfl⟩ := h
  exact ⟨ls, sv, h1.frame hf hs, rfl⟩
theorem RS.lt {w : World} {x : Nat} {k : KA} {G : List Nat} (h : RS w x k G) : ∀ b ∈ G, b < w.heap.size := by
  obtain ⟨ls, sv, h1, rfl⟩ := h
  exact h1.lt
theorem RE.reads {w : World} {e : RE} (h : w.heap[e.r]? = some e.cells) :
    (e.a = none ∧ w.cell? ⟨e.r, 0, none⟩ = some (.slice none 0 0) ∧ w.cell? ⟨e.r, 2, none⟩ = some (.bool e.t)) ∨
    ∃ a, e.a = some a ∧ w.cell? ⟨e.r, 0, none⟩ = some (.slice (some ⟨e.d, 0, none⟩) a.bytes.length a.bytes.length) ∧ w.cell? ⟨e.r, 1, none⟩ = some (.int .i64 a.perm) ∧ w.cell? ⟨e.r, 2, none⟩ = some (.bool a.ret) := by
  unfold RE.cells at h
  cases ha : e.a with
  | none => rw [ha] at h; exact .inl ⟨rfl, rk_cell h 0, rk_cell h 2⟩
  | some a => rw [ha] at h; exact .inr ⟨a, rfl, rk_cell h 0, rk_cell h 1, rk_cell h 2⟩
theorem RE.frz {w : World} {e : RE} (h : w.heap[e.r]? = some e.cells) (i : Nat) : w.frozen? ⟨e.r, i, none⟩ = false := by
  unfold RE.cells at h
  cases ha : e.a with
  | none => rw [ha] at h; exact rk_frozen h i
  | some a => rw [ha] at h; exact rk_frozen h i
end Go.Proofs.Ytmgocjclopfeeaa
