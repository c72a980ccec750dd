/- kmem's contracts in the form that laws use: the memory as plain data, its blocks a list; conditions: each contract's own. -/
import Derived.Test.YtgkbiknokpmjmaaKWalk7
import Derived.Maps.AppendAt
set_option linter.unusedVariables false
set_option linter.unusedSimpArgs false
namespace Go.Proofs.Ytgkbiknokpmjmaa
open Go.RowKit Go.MapKept
open Go.ChangeMaps (setBlock)

/-- World w holds at block m the memory k, in the blocks F. -/
def KS (w : World) (m : Nat) (k : KA) (F : List Nat) : Prop := ∃ c, KM w m c ∧ c.abs = k ∧ c.foot m = F
def KPostS (m : Nat) (F : List Nat) (w : World) (v : Value) (k : KA) (e : Ending) (w' : World) : Prop := ∃ F', e = .returned v ∧ KS w' m k F' ∧ Fr F F' w w'
def Tells (w : World) (v : Value) (e : Ending) (w' : World) : Prop := e = .returned v ∧ w = w'
theorem KS.frame {w w' : World} {m : Nat} {k : KA} {F : List Nat} (h : KS w m k F) (hf : ∀ b ∈ F, w'.heap[b]? = w.heap[b]?) : KS w' m k F := by
  obtain ⟨c, h1, h2, h3⟩ := h
  exact ⟨c, h1.frame (fun b hb => hf b (h3 ▸ hb)), h2, h3⟩
theorem KS.lt {w : World} {m : Nat} {k : KA} {F : List Nat} (h : KS w m k F) : ∀ b ∈ F, b < w.heap.size := by
  obtain ⟨c, h1, h2, h3⟩ := h
  exact fun b hb => h1.lt b (h3 ▸ hb)
theorem KS.alloc {w : World} {m : Nat} {k : KA} {F : List Nat} (h : KS w m k F) (o : Obj) : KS (w.alloc o) m k F :=
  h.frame fun b hb => Below.heap_alloc _ _ _ (h.lt b hb)
theorem KS.drew {w : World} {m : Nat} {k : KA} {F : List Nat} (h : KS w m k F) : KS w.drew m k F := h.frame fun _ _ => rfl
theorem KS.setCell {w : World} {m : Nat} {k : KA} {F : List Nat} (h : KS w m k F) {a : Addr} (ha : a.block ∉ F) (v : Value) : KS (w.setCell a v) m k F :=
  h.frame fun b hb => Below.heap_setCell _ _ _ _ (fun e => ha (e ▸ hb))
theorem KPost.toS {m : Nat} {c : KC} {w : World} {v : Value} {k : KA} {e : Ending} {w' : World} (h : KPost m c w v k e w') : KPostS m (c.foot m) w v k e w' := by
  obtain ⟨c', h1, h2, h3, h4⟩ := h
  exact ⟨c'.foot m, h1, ⟨c', h2, h3, rfl⟩, h4⟩

section
variable {w : World} {m : Nat} {k k' : KA} {F : List Nat} {x s p n e : Int} {a u : Nat}
theorem new_S (w : World) : Calls Try.prog 5 #[] w fun e w' => ∃ m F, e = .returned (.pointer (some ⟨m, 0, none⟩)) ∧ KS w' m ⟨0, 0, []⟩ F ∧ Fr [] F w w' :=
  (new_calls w).mono fun e w' ⟨m, c, he, h, ha, hf⟩ => ⟨m, c.foot m, he, ⟨c, h, ha, rfl⟩, hf⟩
theorem alloc_S (h : KS w m k F) (hm : k.made + 1 < 4294967296) (E : k.alloc s p = (a, e, k')) :
    Calls Try.prog 62 #[.pointer (some ⟨m, 0, none⟩), .int .i64 s, .int .i64 p] w (KPostS m F w (.tuple #[.int .u64 a, .int .i64 e]) k') := by
  obtain ⟨c, h1, rfl, rfl⟩ := h
  have := (alloc_calls s p m c w h1 hm).mono fun _ _ => KPost.toS
  rw [E] at this
  exact this
theorem free_S (h : KS w m k F) (hx : x = a) (h1 : a < 18446744073709551616) (E : k.free a = (e, k')) :
    Calls Try.prog 78 #[.pointer (some ⟨m, 0, none⟩), .int .u64 x] w (KPostS m F w (.int .i64 e) k') := by
  obtain ⟨c, h2, rfl, rfl⟩ := h
  subst hx
  have := (free_calls a m c w h2 h1).mono fun _ _ => KPost.toS
  rw [E] at this
  exact this
theorem retire_S (h : KS w m k F) (hx : x = a) (h1 : a < 18446744073709551616) (E : k.retire a = (e, k')) :
    Calls Try.prog 69 #[.pointer (some ⟨m, 0, none⟩), .int .u64 x] w (KPostS m F w (.int .i64 e) k') := by
  obtain ⟨c, h2, rfl, rfl⟩ := h
  subst hx
  have := (retire_calls a m c w h2 h1).mono fun _ _ => KPost.toS
  rw [E] at this
  exact this
theorem bytes_S {l : List Nat} (h : KS w m k F) (hx : x = a) (h1 : a < 18446744073709551616) (E : k.bytes a n = (l, e)) :
    Calls Try.prog 83 #[.pointer (some ⟨m, 0, none⟩), .int .u64 x, .int .i64 n] w (Tells w (.tuple #[strOf l, .int .i64 e])) := by
  obtain ⟨c, h2, rfl, rfl⟩ := h
  subst hx
  have := bytes_calls a n m c w h2 h1
  rw [E] at this
  exact this
theorem put_S {t : ByteArray} (h : KS w m k F) (hx : x = a) (h1 : a < 18446744073709551616) (E : k.put a (nats t) = (e, k')) :
    Calls Try.prog 60 #[.pointer (some ⟨m, 0, none⟩), .int .u64 x, .string t] w (KPostS m F w (.int .i64 e) k') := by
  obtain ⟨c, h2, rfl, rfl⟩ := h
  subst hx
  have := (put_calls a t m c w h2 h1).mono fun _ _ => KPost.toS
  rw [E] at this
  exact this
end
theorem lt_of_cell {w : World} {a : Addr} {v : Value} (h : w.cell? a = some v) : a.block < w.heap.size := by
  rcases Nat.lt_or_ge a.block w.heap.size with hl | hl
  · exact hl
  · simp [World.cell?, Array.getElem?_eq_none hl] at h
theorem ownsRow_keep {w w' : World} {base : Nat} {e : TypeId} {size : Nat} {v : Value} {n : Nat} {xs : List Value} (h : w.ownsRow base e size v n xs) (hk : ∀ g, v.ownBlock = some g → w'.heap[g]? = w.heap[g]?) : w'.ownsRow base e size v n xs := by
  obtain ⟨h1, h2⟩ := h
  refine ⟨h1, ?_⟩
  rcases h2 with h2 | ⟨g, cap, cur, hv, hg, hh, r⟩
  · exact .inl h2
  · exact .inr ⟨g, cap, cur, hv, hg, by rw [hk g (by rw [hv]; rfl)]; exact hh, r⟩
theorem ownsRow_lt {w : World} {base : Nat} {e : TypeId} {size : Nat} {v : Value} {n : Nat} {xs : List Value} (h : w.ownsRow base e size v n xs) : ∀ g, v.ownBlock = some g → g < w.heap.size := by
  intro g hg
  rcases h.2 with ⟨rfl, _⟩ | ⟨g', cap, cur, rfl, _, hh, _⟩
  · cases hg
  · cases hg
    exact lt_of_heap hh
theorem Fr.own {F F' : List Nat} {w w1 w2 : World} {row : Option Nat} (h : Fr F F' w w1) (g : w1.grownBy w2 row) (hr : ∀ b, row = some b → w.heap.size ≤ b) : Fr F F' w w2 :=
  ⟨g.os.trans h.os, g.tape.trans h.tape, g.output.trans h.output, Nat.le_trans h.size g.size, fun k hk hn => by
    rw [g.block k (Nat.lt_of_lt_of_le hk h.size) (fun e => by have := hr k e.symm; omega)]; exact h.block k hk hn, h.foot⟩
theorem Fr.alloc {F F' : List Nat} {w w1 : World} (h : Fr F F' w w1) (o : Obj) : Fr F F' w (w1.alloc o) :=
  h.own (World.grownBy_alloc w1 o none) (fun _ e => by cases e)
theorem KS.own {w w2 : World} {m : Nat} {k : KA} {F : List Nat} {row : Option Nat} (h : KS w m k F) (g : w.grownBy w2 row) (hr : ∀ b, row = some b → b ∉ F) : KS w2 m k F :=
  h.frame fun b hb => g.block b (h.lt b hb) (fun e => hr b e.symm hb)

theorem Fr.below0 {F : List Nat} {w w' : World} (h : Fr [] F w w') : Below w.heap.size w w' := h.below (Nat.le_refl _) (by simp)
end Go.Proofs.Ytgkbiknokpmjmaa
