/- What a call leaves alone, told by a list of blocks; no condition. -/
import Derived.Test.YtfdkemkfiddmjaaMapRaw
import Derived.Below
import Derived.Maps.AppendAt
import Derived.OwnWalk
import Derived.BigQuiet
set_option linter.unusedVariables false
set_option linter.unusedSimpArgs false
namespace Go.Proofs.Ytfdkemkfiddmjaa
open Go.RowKit Go.MapKept
/-- What a call leaves alone: all blocks but those of F; the new blocks are F'. -/
structure Fr (F F' : List Nat) (w w' : World) : Prop where
  os : w'.os = w.os
  tape : w'.tape = w.tape
  output : w'.output = w.output
  size : w.heap.size ≤ w'.heap.size
  block : ∀ k, k < w.heap.size → k ∉ F → w'.heap[k]? = w.heap[k]?
  foot : ∀ k ∈ F', k ∈ F ∨ w.heap.size ≤ k

theorem Fr.refl (F : List Nat) (w : World) : Fr F F w w := ⟨rfl, rfl, rfl, Nat.le_refl _, fun _ _ _ => rfl, fun _ h => .inl h⟩
theorem Fr.trans {F F1 F2 : List Nat} {w w1 w2 : World} (h : Fr F F1 w w1) (g : Fr F1 F2 w1 w2) : Fr F F2 w w2 where
  os := g.os.trans h.os
  tape := g.tape.trans h.tape
  output := g.output.trans h.output
  size := Nat.le_trans h.size g.size
  block k hk hn := by
    rw [g.block k (Nat.lt_of_lt_of_le hk h.size) (fun hf => by rcases h.foot k hf with h1 | h1; exact hn h1; omega), h.block k hk hn]
  foot k hk := by
    rcases g.foot k hk with h1 | h1
    · exact h.foot k h1
    · exact .inr (Nat.le_trans h.size h1)
theorem Fr.below {F F' : List Nat} {w w' : World} (h : Fr F F' w w') {B : Nat} (hB : B ≤ w.heap.size) (hF : ∀ k ∈ F, B ≤ k) : Below B w w' :=
  ⟨h.os, h.tape, h.output, h.size, fun k hk => h.block k (by omega) (fun hf => by have := hF k hf; omega)⟩
theorem Fr.from_ {F F' : List Nat} {w w' : World} (h : Fr F F' w w') {B : Nat} (hB : B ≤ w.heap.size) (hF : ∀ k ∈ F, B ≤ k) : ∀ k ∈ F', B ≤ k := fun k hk => by
  rcases h.foot k hk with h1 | h1
  · exact hF k h1
  · omega
theorem Fr.keep {F F' : List Nat} {w w' : World} (h : Fr F F' w w') {b : Nat} {o : Obj} (hb : w.heap[b]? = some o) (hn : b ∉ F) : w'.heap[b]? = some o := by
  rw [h.block b (lt_of_heap hb) hn]; exact hb
theorem Fr.notin {F F' : List Nat} {w w' : World} (h : Fr F F' w w') {b : Nat} (hb : b < w.heap.size) (hn : b ∉ F) : b ∉ F' := fun hf => by
  rcases h.foot b hf with h1 | h1
  · exact hn h1
  · omega

theorem Fr.alloc' {F F' : List Nat} {w w1 : World} (h : Fr F F' w w1) (o : Obj) : Fr F F' w (w1.alloc o) where
  os := h.os
  tape := h.tape
  output := h.output
  size := by rw [World.size_alloc]; have := h.size; omega
  block k hk hn := by rw [← h.block k hk hn]; exact Below.heap_alloc _ _ k (by have := h.size; omega)
  foot := h.foot
theorem Fr.setCell' {F F' : List Nat} {w w1 : World} (h : Fr F F' w w1) {a : Addr} (ha : a.block ∈ F ∨ w.heap.size ≤ a.block) (u : Value) : Fr F F' w (w1.setCell a u) where
  os := h.os
  tape := h.tape
  output := h.output
  size := by have := h.size; simp [World.setCell]; omega
  block k hk hn := by
    rw [← h.block k hk hn]
    refine Below.heap_setCell _ _ _ _ ?_
    rintro rfl
    rcases ha with ha | ha
    · exact hn ha
    · omega
  foot := h.foot
theorem Fr.drewN' {F F' : List Nat} {w w1 : World} (h : Fr F F' w w1) (n : Nat) : Fr F F' w (w1.drewN n) := ⟨h.os, h.tape, h.output, h.size, h.block, h.foot⟩
theorem Fr.sub {F F' G : List Nat} {w w1 : World} (h : Fr F F' w w1) (hs : ∀ k ∈ G, k ∈ F' ∨ w.heap.size ≤ k) : Fr F G w w1 where
  os := h.os
  tape := h.tape
  output := h.output
  size := h.size
  block := h.block
  foot k hk := by
    rcases hs k hk with h1 | h1
    · exact h.foot k h1
    · exact .inr h1
theorem Fr.grown' {F F' : List Nat} {w w1 w2 : World} (h : Fr F F' w w1) {row : Option Nat} (g : w1.grownBy w2 row) (hr : ∀ k, row = some k → k ∈ F ∨ w.heap.size ≤ k) : Fr F F' w w2 where
  os := g.os.trans h.os
  tape := g.tape.trans h.tape
  output := g.output.trans h.output
  size := Nat.le_trans h.size g.size
  block k hk hn := by
    rw [g.block k (Nat.lt_of_lt_of_le hk h.size) (fun e => ?_), h.block k hk hn]
    rcases hr k e.symm with h1 | h1
    · exact hn h1
    · omega
  foot := h.foot
theorem Fr.more {F F' : List Nat} {w w1 w2 : World} (h : Fr F F' w w1) (g : Fr [] [] w1 w2) : Fr F F' w w2 where
  os := g.os.trans h.os
  tape := g.tape.trans h.tape
  output := g.output.trans h.output
  size := Nat.le_trans h.size g.size
  block := fun k hk hn => by rw [g.block k (Nat.lt_of_lt_of_le hk h.size) (by simp), h.block k hk hn]
  foot := h.foot
theorem cell_at {w : World} {b : Nat} {cs : Array Value} {t : TypeId} (h : w.heap[b]? = some (.cells cs t (0, 0))) (i : Nat) : w.cell? ⟨b, i, none⟩ = cs[i]? := by simp [World.cell?, h]
theorem frozen_at {w : World} {b : Nat} {cs : Array Value} {t : TypeId} (h : w.heap[b]? = some (.cells cs t (0, 0))) (i : Nat) : w.frozen? ⟨b, i, none⟩ = false := by simp [World.frozen?, h]
end Go.Proofs.Ytfdkemkfiddmjaa
