/- The reference's memory: Alloc; condition: the memory is held. -/
import Derived.Test.YtmgocjclopfeeaaRK6
import Derived.Deep.RegionLaw
set_option linter.unusedVariables false
set_option linter.unusedSimpArgs false
namespace Go.Proofs.Ytmgocjclopfeeaa
open Go.RowKit Go.MapKept

def newRO (d n : Nat) (p : Int) : Obj := .cells #[.slice (some ⟨d, 0, none⟩) n n, .int .i64 p, .bool false] 104 (0, 0)
def ptrO (r : Nat) : Obj := .cells #[.pointer (some ⟨r, 0, none⟩)] 105 (0, 0)
theorem nodup_push {x g r d H : Nat} {o : Option Nat} {F : List Nat} (hn : (x :: (o.toList ++ F)).Nodup) (hlt : ∀ b ∈ x :: (o.toList ++ F), b < H) (hr : H ≤ r) (hd : H ≤ d) (hrd : r ≠ d) (hg : o = some g ∨ H ≤ g) (hgr : g ≠ r) (hgd : g ≠ d) :
    (x :: ([g] ++ (F ++ [r, d]))).Nodup := by
  rw [List.nodup_cons, List.nodup_append] at hn
  obtain ⟨h1, h2, h3, h4⟩ := hn
  rw [List.mem_append] at h1
  have hx := hlt x (by simp)
  have hF : ∀ b ∈ F, b < H := fun b hb => hlt b (by simp [hb])
  have hgF : g ∉ F := by
    rcases hg with rfl | hg
    · exact fun hb => h4 g (by simp) g hb rfl
    · exact fun hb => by have := hF g hb; omega
  have hgx : g ≠ x := by
    rcases hg with rfl | hg
    · exact fun e => h1 (.inl (by simp [e]))
    · omega
  have hxF : x ∉ F := fun hb => h1 (.inr hb)
  have hrF : r ∉ F := fun hb => by have := hF r hb; omega
  have hdF : d ∉ F := fun hb => by have := hF d hb; omega
  rw [List.nodup_cons]
  refine ⟨?_, ?_⟩
  · simp only [List.mem_append, List.mem_cons, List.not_mem_nil, or_false, not_or]
    exact ⟨fun e => hgx e.symm, hxF, by omega, by omega⟩
  · rw [List.singleton_append, List.nodup_cons]
    refine ⟨?_, ?_⟩
    · simp only [List.mem_append, List.mem_cons, List.not_mem_nil, or_false, not_or]
      exact ⟨hgF, hgr, hgd⟩
    · rw [List.nodup_append]
      refine ⟨h3, by simp [hrd], fun b hb c hc => ?_⟩
      simp at hc
      rcases hc with rfl | rfl
      · exact fun e => hrF (e ▸ hb)
      · exact fun e => hdF (e ▸ hb)
theorem alloc_done {w W3 W4 : World} {x : Nat} {ls : List RE} {sv : Value} {k : KA} (h : RM w x ls sv k) (hw : WF k) {s p : Int} (h1 : W3.heap = (((w.alloc (byteCells (List.replicate s.toNat 0))).alloc (newRO w.heap.size s.toNat p)).alloc (ptrO (w.heap.size + 1))).heap) (h2 : W3.os = w.os) (h3 : W3.tape = w.tape) (h4 : W3.output = w.output) (hp : 0 ≤ p) {g cap : Nat}
    (hown : W4.ownsRow 0 105 1 (.slice (some ⟨g, 0, none⟩) (ls.length + 1) cap) (ls.length + 1) ((ls.map fun e => Value.pointer (some ⟨e.r, 0, none⟩)) ++ [Value.pointer (some ⟨w.heap.size + 1, 0, none⟩)]))
    (hgrow : W3.grownBy W4 sv.ownBlock) (hat : sv.ownBlock = some g ∨ g = w.heap.size + 3) :
    RPostS x (rfoot x sv ls) w (.tuple #[.int .u64 (((k.made + 1) * 4294967296 : Nat) : Int), .int .i64 0]) ⟨k.made + 1, k.til, k.live ++ [(k.made + 1, ⟨List.replicate s.toNat 0, p.toNat, false⟩)]⟩ (.returned (.tuple #[.int .u64 (((k.made + 1) * 4294967296 : Nat) : Int), .int .i64 0]))
      ((W4.setCell ⟨x, 0, none⟩ (.slice (some ⟨g, 0, none⟩) (ls.length + 1) cap)).setCell ⟨x, 1, none⟩ (.int .i64 ((k.live.length + 1 : Nat) : Int))) := by
  have hlt := h.lt
  have hxl := lt_of_heap h.hx
  have hnd := h.nd
  have hsz3 : W3.heap.size = w.heap.size + 3 := by rw [h1]; simp
  have hold3 : ∀ b, b < w.heap.size → W3.heap[b]? = w.heap[b]? := fun b hb => by
    rw [h1, Below.heap_alloc _ _ b (by simp; omega), Below.heap_alloc _ _ b (by simp; omega), Below.heap_alloc _ _ b (by omega)]
  have hown_lt : ∀ b, sv.ownBlock = some b → b < w.heap.size := fun b hb => hlt b (by unfold rfoot; simp [hb])
  have hgx : g ≠ x := by
    rcases hat with e | e
    · intro e2
      unfold rfoot at hnd
      rw [List.nodup_cons] at hnd
      exact hnd.1 (by rw [e, e2]; simp)
    · omega
  have hg3 : g ≠ w.heap.size ∧ g ≠ w.heap.size + 1 := by
    rcases hat with e | e
    · have := hown_lt g e; omega
    · omega
  have hW4 : ∀ b, b < w.heap.size + 3 → sv.ownBlock ≠ some b → W4.heap[b]? = W3.heap[b]? := fun b hb hne => hgrow.block b (by rw [hsz3]; exact hb) (fun e => hne e.symm)
  have hWo : ∀ b, b < w.heap.size → sv.ownBlock ≠ some b → W4.heap[b]? = w.heap[b]? := fun b hb hne => (hW4 b (by omega) hne).trans (hold3 b hb)
  have hsz4 : w.heap.size + 3 ≤ W4.heap.size := by have := hgrow.size; rw [hsz3] at this; exact this
  have hd4 : W4.heap[w.heap.size]? = some (byteCells (List.replicate s.toNat 0)) := by
    rw [hW4 _ (by omega) (fun e => by have := hown_lt _ e; omega), h1, Below.heap_alloc _ _ _ (by simp; omega), Below.heap_alloc _ _ _ (by simp)]
    exact heap_alloc_new w (byteCells (List.replicate s.toNat 0))
  have hr4 : W4.heap[w.heap.size + 1]? = some (newRO w.heap.size s.toNat p) := by
    rw [hW4 _ (by omega) (fun e => by have := hown_lt _ e; omega), h1, Below.heap_alloc _ _ _ (by simp)]
    have := heap_alloc_new (w.alloc (byteCells (List.replicate s.toNat 0))) (newRO w.heap.size s.toNat p)
    rw [World.size_alloc] at this
    exact this
  have hxn : sv.ownBlock ≠ some x := fun e => by
    unfold rfoot at hnd
    rw [List.nodup_cons] at hnd
    exact hnd.1 (by rw [e]; simp)
  have hx4 : W4.heap[x]? = some (memO sv k.live.length k.til) := by rw [hWo x hxl hxn]; exact h.hx
  obtain ⟨P, rfl⟩ : ∃ P : Nat, p = P := ⟨p.toNat, by omega⟩
  refine ⟨rfoot x (.slice (some ⟨g, 0, none⟩) (ls.length + 1) cap) (ls ++ [⟨w.heap.size + 1, w.heap.size, some ⟨List.replicate s.toNat 0, P, false⟩, 0, false⟩]), rfl, ⟨_, _, ?_, rfl⟩, ?_⟩
  · have hS : ∀ b, b ≠ x → ((W4.setCell ⟨x, 0, none⟩ (.slice (some ⟨g, 0, none⟩) (ls.length + 1) cap)).setCell ⟨x, 1, none⟩ (.int .i64 ((k.live.length + 1 : Nat) : Int))).heap[b]? = W4.heap[b]? := fun b hb => by rw [setCell_other hb, setCell_other hb]
    have hin : ∀ e ∈ ls, e.r < w.heap.size ∧ e.d < w.heap.size ∧ e.r ≠ x ∧ e.d ≠ x ∧ sv.ownBlock ≠ some e.r ∧ sv.ownBlock ≠ some e.d := fun e he => by
      obtain ⟨i, hi⟩ := List.mem_iff_getElem?.1 he
      obtain ⟨a1, a2, a3, a4, a5, a6, a7⟩ := h.apart hi
      exact ⟨lt_of_heap (h.hr e he), h.ld e he, a1, a2, a5, a6⟩
    refine ⟨?_, ?_, fun e he => ?_, fun e he a ha => ?_, fun e he => ?_, ?_, ?_, ?_⟩
    · unfold memO at hx4 ⊢
      have := heap_setCell_same (v := .int .i64 ((k.live.length + 1 : Nat) : Int)) (i := 1) (heap_setCell_same (v := .slice (some ⟨g, 0, none⟩) (ls.length + 1) cap) (i := 0) hx4)
      simpa using this
    · rw [List.length_append, List.map_append]
      exact ownsRow_keep hown fun b hb => by cases hb; exact hS g hgx
    · rcases List.mem_append.1 he with he | he
      · obtain ⟨b1, b2, b3, b4, b5, b6⟩ := hin e he
        rw [hS _ b3, hWo _ b1 b5]
        exact h.hr e he
      · simp at he
        subst he
        rw [hS _ (by show w.heap.size + 1 ≠ x; omega), hr4]
        simp [RE.cells, newRO]
    · rcases List.mem_append.1 he with he | he
      · obtain ⟨b1, b2, b3, b4, b5, b6⟩ := hin e he
        rw [hS _ b4, hWo _ b2 b6]
        exact h.hd e he a ha
      · simp at he
        subst he
        cases ha
        rw [hS _ (by show w.heap.size ≠ x; omega)]
        exact hd4
    · have hsz5 : w.heap.size + 3 ≤ ((W4.setCell ⟨x, 0, none⟩ (.slice (some ⟨g, 0, none⟩) (ls.length + 1) cap)).setCell ⟨x, 1, none⟩ (.int .i64 ((k.live.length + 1 : Nat) : Int))).heap.size := by simpa [World.setCell] using hsz4
      rcases List.mem_append.1 he with he | he
      · have := h.ld e he; omega
      · simp at he
        subst he
        show w.heap.size < _
        omega
    · unfold rfoot at hnd hlt ⊢
      rw [List.flatMap_append]
      have hnp := nodup_push (x := x) (g := g) (r := w.heap.size + 1) (d := w.heap.size) (H := w.heap.size) (o := sv.ownBlock) (F := ls.flatMap fun e => [e.r, e.d]) hnd hlt (by omega) (by omega) (by omega) (by rcases hat with e | e; exact .inl e; exact .inr (by omega)) (by omega) (by omega)
      exact hnp
    · rw [List.length_append]; show k.made + 1 = _; rw [h.md]; rfl
    · show k.live ++ _ = _
      rw [liveOf_append, ← h.lv, h.md, Nat.add_comm 1]
      rfl
  · refine ⟨hgrow.os.trans h2, hgrow.tape.trans h3, hgrow.output.trans h4, by simp [World.setCell]; omega, fun b hb hn => ?_, fun b hb => ?_⟩
    · have hbx : b ≠ x := fun e => hn (by unfold rfoot; simp [e])
      rw [setCell_other hbx, setCell_other hbx]
      exact hWo b hb (fun e => hn (by unfold rfoot; simp [e]))
    · unfold rfoot at hb ⊢
      simp only [List.mem_cons, List.mem_append, List.flatMap_append, Option.mem_toList, List.mem_flatMap] at hb ⊢
      rcases hb with rfl | hb | ⟨e, he, hb⟩ | ⟨e, he, hb⟩
      · exact .inl (.inl rfl)
      · cases hb
        rcases hat with e | e
        · exact .inl (.inr (.inl e))
        · exact .inr (by show w.heap.size ≤ g; omega)
      · exact .inl (.inr (.inr ⟨e, he, hb⟩))
      · simp at he
        subst he
        simp at hb
        exact .inr (by omega)
end Go.Proofs.Ytmgocjclopfeeaa
