/- Raw laws on a map's block: look-up, store, delete and len, told by the entries themselves; conditions: keys of one plain kind (bool, integer, string), no key twice. And laws on which block a world holds behind a new block, a store, a draw. -/
import Derived.WalkKit
import Derived.Maps.RangeRun
import Derived.MapKept
set_option linter.unusedVariables false
set_option linter.unusedSimpArgs false
namespace Go.Proofs.Ytgkbiknokpmjmaa
open Go.RowKit Go.MapKept
open Go.ChangeMaps (setBlock)

/-- A fact kept from the walk. -/
theorem hide {p : Prop} (h : p) : Hid p := h

/-! blocks of a world -/
theorem heap_alloc_some {w : World} {o x : Obj} {b : Nat} (h : w.heap[b]? = some x) : (w.alloc o).heap[b]? = some x := by
  rw [Below.heap_alloc _ _ _ (Array.getElem?_eq_some_iff.1 h).1]; exact h
theorem heap_alloc_new (w : World) (o : Obj) : (w.alloc o).heap[w.heap.size]? = some o := by
  show (w.heap.push o)[w.heap.size]? = _
  simp
theorem heap_setCell_some {w : World} {a : Addr} {v : Value} {x : Obj} {b : Nat} (hne : a.block ≠ b) (h : w.heap[b]? = some x) : (w.setCell a v).heap[b]? = some x := by
  rw [Below.heap_setCell _ _ _ _ (fun e => hne e.symm)]; exact h
theorem heap_setCell_same {w : World} {b i : Nat} {v : Value} {c : Array Value} {t : TypeId} {f : Nat × Nat} (h : w.heap[b]? = some (.cells c t f)) :
    (w.setCell ⟨b, i, none⟩ v).heap[b]? = some (.cells (c.setIfInBounds i v) t f) := by
  simp [World.setCell, Array.getElem?_modify, h]
theorem heap_setBlock_some {w : World} {r b : Nat} {o x : Obj} (hne : r ≠ b) (h : w.heap[b]? = some x) : (setBlock w r o).heap[b]? = some x := by
  simp [setBlock, Array.getElem?_setIfInBounds, hne, h]
theorem heap_setBlock_same {w : World} {r : Nat} {o x : Obj} (h : w.heap[r]? = some x) : (setBlock w r o).heap[r]? = some o := by
  have := (Array.getElem?_eq_some_iff.1 h).1
  simp [setBlock, Array.getElem?_setIfInBounds, this]
theorem size_setBlock (w : World) (r : Nat) (o : Obj) : (setBlock w r o).heap.size = w.heap.size := by simp [setBlock]
theorem lt_of_heap {w : World} {b : Nat} {x : Obj} (h : w.heap[b]? = some x) : b < w.heap.size := (Array.getElem?_eq_some_iff.1 h).1

section
variable {P : Program} {w : World} {t kt et : TypeId} {d : TypeDesc} {r : Nat} {es : Array MapEntry} {clk : Nat} {k : Value}

/-- The entries' keys are of one plain kind, no key twice. -/
structure Keys (d : TypeDesc) (es : Array MapEntry) : Prop where
  all : ∀ e ∈ es.toList, IsKey d e.key
  nd : es.toList.Pairwise (fun x y => x.key ≠ y.key)

theorem Keys.at_unique {d : TypeDesc} {es : Array MapEntry} (K : Keys d es) {i j : Nat} {a b : MapEntry} (hi : es.toList[i]? = some a) (hj : es.toList[j]? = some b) (h : a.key = b.key) : i = j := by
  obtain ⟨hi1, hi2⟩ := List.getElem?_eq_some_iff.1 hi
  obtain ⟨hj1, hj2⟩ := List.getElem?_eq_some_iff.1 hj
  have := List.pairwise_iff_getElem.1 K.nd
  rcases Nat.lt_trichotomy i j with hl | hl | hl
  · exact absurd (by rw [hi2, hj2]; exact h) (this i j hi1 hj1 hl)
  · exact hl
  · exact absurd (by rw [hi2, hj2]; exact h.symm) (this j i hj1 hi1 hl)

theorem run_find_hit (hd : P.underlying kt = some d) (hkey : IsKey d k) (K : Keys d es) {j : Nat} {e : MapEntry} (hj : es.toList[j]? = some e) (hek : e.key = k) :
    (Instr.findKey kt k es.toList).run P w = .ok (some (j, e.val)) w := by
  rcases findNow_spec hkey es.toList 0 K.all with ⟨_, h2⟩ | ⟨i, e', h1, h2, h3⟩
  · exact absurd hek (h2 e (List.mem_of_getElem? hj))
  · obtain rfl := K.at_unique h2 hj (h3.trans hek.symm)
    rw [hj] at h2
    cases h2
    exact run_findKey hd (by simpa using h1)
theorem run_find_miss (hd : P.underlying kt = some d) (hkey : IsKey d k) (K : Keys d es) (hno : ∀ e ∈ es.toList, e.key ≠ k) :
    (Instr.findKey kt k es.toList).run P w = .ok none w := by
  rcases findNow_spec hkey es.toList 0 K.all with ⟨h1, _⟩ | ⟨i, e', _, h2, h3⟩
  · exact run_findKey hd h1
  · exact absurd h3 (hno e' (List.mem_of_getElem? h2))

theorem run_len_raw (ht : P.underlying t = some (.map kt et)) (hb : w.heap[r]? = some (.map es clk)) (ty : TypeId) :
    (Builtin.len_ #[t] ty #[.map (some r)]).run P w = .ok (.int .i64 es.size) w := by
  simp [Builtin.len_, run_underlying ht, getObj, Sem.run, hb, Result.andThen, goInt]

theorem run_lookup_hit (ht : P.underlying t = some (.map kt et)) (hd : P.underlying kt = some d) (hkey : IsKey d k) (K : Keys d es) (hb : w.heap[r]? = some (.map es clk))
    {j : Nat} {e : MapEntry} (hj : es.toList[j]? = some e) (hek : e.key = k) : (Instr.lookup t (.map (some r)) k false).run P w = .ok e.val w := by
  simp [Instr.lookup, run_underlying ht, getObj, Sem.run, hb, Result.andThen, run_checkKey hd hkey, run_find_hit hd hkey K hj hek]
theorem run_lookup_hit_ok (ht : P.underlying t = some (.map kt et)) (hd : P.underlying kt = some d) (hkey : IsKey d k) (K : Keys d es) (hb : w.heap[r]? = some (.map es clk))
    {j : Nat} {e : MapEntry} (hj : es.toList[j]? = some e) (hek : e.key = k) : (Instr.lookup t (.map (some r)) k true).run P w = .ok (.tuple #[e.val, .bool true]) w := by
  simp [Instr.lookup, run_underlying ht, getObj, Sem.run, hb, Result.andThen, run_checkKey hd hkey, run_find_hit hd hkey K hj hek]
theorem run_lookup_miss (ht : P.underlying t = some (.map kt et)) (hd : P.underlying kt = some d) (hkey : IsKey d k) (K : Keys d es) (hb : w.heap[r]? = some (.map es clk))
    {z : Value} (hz : (zeroValue et).run P w = .ok z w) (hno : ∀ e ∈ es.toList, e.key ≠ k) : (Instr.lookup t (.map (some r)) k false).run P w = .ok z w := by
  simp [Instr.lookup, run_underlying ht, getObj, Sem.run, hb, Result.andThen, run_checkKey hd hkey, run_find_miss hd hkey K hno, hz]
theorem run_lookup_miss_ok (ht : P.underlying t = some (.map kt et)) (hd : P.underlying kt = some d) (hkey : IsKey d k) (K : Keys d es) (hb : w.heap[r]? = some (.map es clk))
    {z : Value} (hz : (zeroValue et).run P w = .ok z w) (hno : ∀ e ∈ es.toList, e.key ≠ k) : (Instr.lookup t (.map (some r)) k true).run P w = .ok (.tuple #[z, .bool false]) w := by
  simp [Instr.lookup, run_underlying ht, getObj, Sem.run, hb, Result.andThen, run_checkKey hd hkey, run_find_miss hd hkey K hno, hz]

theorem run_setObj_map (hb : w.heap[r]? = some (.map es clk)) (o : Obj) : (setObj r o).run P w = .ok () (setBlock w r o) := by
  simp [setObj, Sem.run, hb, setBlock]

theorem run_update_new (ht : P.underlying t = some (.map kt et)) (hd : P.underlying kt = some d) (hkey : IsKey d k) (K : Keys d es) (hb : w.heap[r]? = some (.map es clk))
    (hno : ∀ e ∈ es.toList, e.key ≠ k) (v : Value) : (Instr.mapUpdate t (.map (some r)) k v).run P w = .ok () (setBlock w r (.map (es.push { key := k, val := v, born := clk }) (clk + 1))) := by
  simp [Instr.mapUpdate, run_underlying ht, getObj, Sem.run, hb, Result.andThen, run_checkKey hd hkey, run_find_miss hd hkey K hno, run_setObj_map hb]
theorem run_update_old (ht : P.underlying t = some (.map kt et)) (hd : P.underlying kt = some d) (hkey : IsKey d k) (K : Keys d es) (hb : w.heap[r]? = some (.map es clk))
    {j : Nat} {e : MapEntry} (hj : es.toList[j]? = some e) (hek : e.key = k) (v : Value) : (Instr.mapUpdate t (.map (some r)) k v).run P w = .ok () (setBlock w r (.map (es.modify j fun e => { e with key := k, val := v }) clk)) := by
  have hj' : es[j]? = some e := by simpa using hj
  simp [Instr.mapUpdate, run_underlying ht, getObj, Sem.run, hb, Result.andThen, run_checkKey hd hkey, run_find_hit hd hkey K hj hek, run_setObj_map hb, hj', hek, run_keyThatStays hkey]
theorem run_delete_hit (ht : P.underlying t = some (.map kt et)) (hd : P.underlying kt = some d) (hkey : IsKey d k) (K : Keys d es) (hb : w.heap[r]? = some (.map es clk))
    {j : Nat} {e : MapEntry} (hj : es.toList[j]? = some e) (hek : e.key = k) (u ty : TypeId) :
    (Builtin.delete_ #[t, u] ty #[.map (some r), k]).run P w = .ok (.tuple #[]) (setBlock w r (.map (es.eraseIdxIfInBounds j) clk)) := by
  simp [Builtin.delete_, run_underlying ht, getObj, Sem.run, hb, Result.andThen, run_checkKey hd hkey, run_find_hit hd hkey K hj hek, run_setObj_map hb]
theorem run_delete_miss (ht : P.underlying t = some (.map kt et)) (hd : P.underlying kt = some d) (hkey : IsKey d k) (K : Keys d es) (hb : w.heap[r]? = some (.map es clk))
    (hno : ∀ e ∈ es.toList, e.key ≠ k) (u ty : TypeId) :
    (Builtin.delete_ #[t, u] ty #[.map (some r), k]).run P w = .ok (.tuple #[]) (setBlock w r (.map es clk)) := by
  simp [Builtin.delete_, run_underlying ht, getObj, Sem.run, hb, Result.andThen, run_checkKey hd hkey, run_find_miss hd hkey K hno, run_setObj_map hb]
end
end Go.Proofs.Ytgkbiknokpmjmaa
