/- Laws on frames: what a step leaves as it was; no condition. -/
import Derived.Test.YtgkbiknokpmjmaaKLaw
import Derived.BigQuiet
set_option linter.unusedVariables false
set_option linter.unusedSimpArgs false
namespace Go.Proofs.Ytgkbiknokpmjmaa
open Go.RowKit Go.MapKept
open Go.ChangeMaps (setBlock)

/-- Nothing but the count of draws is another. -/
structure Same (w w' : World) : Prop where
  heap : w'.heap = w.heap
  os : w'.os = w.os
  tape : w'.tape = w.tape
  output : w'.output = w.output
theorem Same.refl (w : World) : Same w w := ⟨rfl, rfl, rfl, rfl⟩
theorem Same.drew {w w' : World} (h : Same w w') : Same w w'.drew := ⟨h.heap, h.os, h.tape, h.output⟩
theorem Same.trans {a b c : World} (h : Same a b) (g : Same b c) : Same a c := ⟨g.heap.trans h.heap, g.os.trans h.os, g.tape.trans h.tape, g.output.trans h.output⟩
theorem Same.fr {w w' : World} (h : Same w w') (F : List Nat) : Fr F F w w' := ⟨h.os, h.tape, h.output, by rw [h.heap]; exact Nat.le_refl _, fun k _ _ => by rw [h.heap], fun k hk => .inl hk⟩
theorem KS.same {w w' : World} {m : Nat} {k : KA} {F : List Nat} (h : KS w m k F) (g : Same w w') : KS w' m k F := h.frame fun b _ => by rw [g.heap]
def TellsS (w : World) (v : Value) (e : Ending) (w' : World) : Prop := e = .returned v ∧ Same w w'
theorem Fr.drew {F F' : List Nat} {w w1 : World} (h : Fr F F' w w1) : Fr F F' w w1.drew := ⟨h.os, h.tape, h.output, h.size, h.block, h.foot⟩
theorem Fr.drewN {F F' : List Nat} {w w1 : World} (h : Fr F F' w w1) (n : Nat) : Fr F F' w (w1.drewN n) := ⟨h.os, h.tape, h.output, h.size, h.block, h.foot⟩
theorem KS.drewN {w : World} {m : Nat} {k : KA} {F : List Nat} (h : KS w m k F) (n : Nat) : KS (w.drewN n) m k F := h.frame fun _ _ => rfl
theorem KS.fr {w w' : World} {m : Nat} {k : KA} {F : List Nat} (h : KS w m k F) (hf : Fr [] [] w w') : KS w' m k F := h.frame fun b hb => hf.block b (h.lt b hb) (by simp)
theorem Fr.more {F F' : List Nat} {w w1 w2 : World} (h : Fr F F' w w1) (g : Fr [] [] w1 w2) : Fr F F' w w2 where
  os := g.os.trans h.os
  tape := g.tape.trans h.tape
  output := g.output.trans h.output
  size := Nat.le_trans h.size g.size
  block := fun k hk hn => by rw [g.block k (Nat.lt_of_lt_of_le hk h.size) (by simp), h.block k hk hn]
  foot := h.foot
def FreshPost (w : World) (v : Value) (e : Ending) (w' : World) : Prop := e = .returned v ∧ Fr [] [] w w'
theorem Only.fresh {d : Nat} {w w' : World} {o : Obj} (h : Only d (w.alloc o) w') (hd : w.heap.size ≤ d) : Fr [] [] w w' where
  os := h.os
  tape := h.tape
  output := h.output
  size := by have := h.size; rw [World.size_alloc] at this; omega
  block := fun k hk _ => by rw [h.block k (by omega)]; exact ((Fr.refl [] w).alloc o).block k hk (by simp)
  foot := fun k hk => .inl hk
end Go.Proofs.Ytgkbiknokpmjmaa
