/- The hash table's plain Update with a new entry, and what a world holds when an entry is added; no condition. -/
import Derived.Test.YtgkbiknokpmjmaaHUpd2
set_option linter.unusedVariables false
set_option linter.unusedSimpArgs false
namespace Go.Proofs.Ytgkbiknokpmjmaa
open Go.RowKit Go.MapKept
open Go.ChangeMaps (setBlock)

/-- The entry that was used longest ago. -/
def HA.oldest (h : HA) : Option HE := h.es.find? fun e => h.es.all fun q => e.used ≤ q.used
def HA.put (h : HA) (key : ByteArray) (a : Nat) : HA := (HA.mk (h.es ++ [⟨key, a, 0⟩]) h.clock).mark key
def HA.room (h : HA) (s : HSpec) (k : KA) : HA × KA :=
  if h.es.length = s.max then (match h.oldest with | some o => (h.drop o.key, (k.retire o.at_).2) | none => (h, k)) else (h, k)
def HA.insert (h : HA) (s : HSpec) (k : KA) (key value : ByteArray) : Int × HA × KA :=
  if (k.alloc s.value 3).2.1 ≠ 0 then ((k.alloc s.value 3).2.1, h, (k.alloc s.value 3).2.2) else
  (((h.room s (k.alloc s.value 3).2.2).2.put (k.alloc s.value 3).1 (nats value)).1, (h.room s (k.alloc s.value 3).2.2).1.put key (k.alloc s.value 3).1, ((h.room s (k.alloc s.value 3).2.2).2.put (k.alloc s.value 3).1 (nats value)).2)
def HA.update (h : HA) (s : HSpec) (k : KA) (key value : ByteArray) (fl : Int) : Int × HA × KA :=
  if key.size ≠ s.key ∨ value.size ≠ s.value ∨ fl < 0 ∨ 2 < fl then (1, h, k) else
  match h.find key with
  | some e => if fl = 1 then (5, h, k) else ((k.put e.at_ (nats value)).1, h.mark key, (k.put e.at_ (nats value)).2)
  | none => if fl = 2 then (4, h, k) else if h.es.length = s.max ∧ s.kind = 1 then (3, h, k) else h.insert s k key value
theorem oldest_of {h : HA} (hn : (h.es.map (·.used)).Nodup) {e : HE} (he : e ∈ h.es) (hm : ∀ q ∈ h.es, e.used ≤ q.used) : h.oldest = some e := by
  unfold HA.oldest
  cases ho : h.es.find? (fun e => h.es.all fun q => e.used ≤ q.used) with
  | none =>
    rw [List.find?_eq_none] at ho
    exact absurd (by rw [List.all_eq_true]; intro q hq; simpa using hm q hq) (ho e he)
  | some o =>
    have h1 := List.find?_some ho
    have h2 := List.mem_of_find?_eq_some ho
    rw [List.all_eq_true] at h1
    have h3 : o.used ≤ e.used := by simpa using h1 e he
    have h4 := hm o h2
    have h5 : o.used = e.used := by omega
    obtain ⟨i, hi, e1⟩ := List.getElem_of_mem h2
    obtain ⟨j, hj, e2⟩ := List.getElem_of_mem he
    have hp := List.pairwise_iff_getElem.1 (List.pairwise_map.1 hn)
    rcases Nat.lt_trichotomy i j with hl | hl | hl
    · exact absurd (by rw [e1, e2]; exact h5) (hp i j hi hj hl)
    · subst hl; rw [← e1, e2]
    · exact absurd (by rw [e1, e2]; exact h5.symm) (hp j i hj hi hl)

/-! ### In a world -/
def HT.add (t : HT) (B : Nat) (key : ByteArray) (a : Nat) : HT := { t with clk := t.clk + 1, es := t.es ++ [⟨B, t.clk, ⟨key, a, 0⟩⟩] }
theorem HT.add_abs (t : HT) (B : Nat) (key : ByteArray) (a : Nat) : (t.add B key a).abs = HA.mk (t.abs.es ++ [⟨key, a, 0⟩]) t.abs.clock := by
  simp [HT.abs, HT.add]
theorem HM.add {w : World} {x m : Nat} {s : HSpec} {t : HT} (h : HM w x m s t) {key : ByteArray} (hno : ∀ r ∈ t.es, r.e.key ≠ key) {a : Nat} (ha : a < 18446744073709551616) :
    ∃ W4, (Instr.mapUpdate 100 (.map (some t.lb)) (.string key) (.pointer (some ⟨w.heap.size, 0, none⟩))).run Try.prog (w.alloc (.cells #[.int .u64 a, .int .i64 0] 109)) = .ok () W4 ∧
      HM W4 x m s (t.add w.heap.size key a) ∧ Fr (t.foot x) ((t.add w.heap.size key a).foot x) w W4 := by
  obtain ⟨hxl, hne, hbn⟩ := h.ne
  have hlt := h.lt
  have old : ∀ {k : Nat} {o : Obj}, w.heap[k]? = some o → (w.alloc (.cells #[.int .u64 a, .int .i64 0] 109)).heap[k]? = some o := fun hk => heap_alloc_some hk
  have hup := run_update_new (P := Try.prog) (k := .string key) HK.und HK.undStr trivial h.keys (old h.hl) (HM.nokey hno) (.pointer (some ⟨w.heap.size, 0, none⟩))
  have hll := lt_of_heap h.hl
  have nmb : ∀ {k : Nat} {o q : Obj}, (w.alloc (.cells #[.int .u64 a, .int .i64 0] 109)).heap[k]? = some q → k ≠ t.lb → (setBlock (w.alloc (.cells #[.int .u64 a, .int .i64 0] 109)) t.lb o).heap[k]? = some q := fun hk hn =>
    heap_setBlock_some (fun e => hn e.symm) hk
  have hfoot : (t.add w.heap.size key a).foot x = t.foot x ++ [w.heap.size] := by simp [HT.foot, HT.add]
  refine ⟨_, hup, ?_, ?_⟩
  · refine ⟨nmb (old h.hx) hxl, ?_, ?_, ?_, ?_, ?_, ?_, ?_⟩
    · refine (heap_setBlock_same (old h.hl)).trans ?_
      simp [HT.add, HT.entries, HC.entry]
    · intro r hr
      simp only [HT.add, List.mem_append, List.mem_singleton] at hr
      rcases hr with hr | rfl
      · exact nmb (old (h.he r hr)) (hne r hr).2
      · exact nmb (heap_alloc_new w _) (by show w.heap.size ≠ t.lb; omega)
    · rw [hfoot, List.nodup_append]
      refine ⟨h.nd, by simp, fun b hb c hc => ?_⟩
      have := hlt b hb
      simp at hc
      omega
    · simp only [HT.add, List.map_append, List.map_cons, List.map_nil, List.nodup_append]
      refine ⟨h.kn, by simp, fun b hb c hc => ?_⟩
      obtain ⟨r, hr, rfl⟩ := List.mem_map.1 hb
      simp at hc
      subst hc
      exact hno r hr
    · simp only [HT.add, List.map_append, List.map_cons, List.map_nil, List.nodup_append]
      refine ⟨h.bn, by simp, fun b hb c hc => ?_⟩
      obtain ⟨r, hr, rfl⟩ := List.mem_map.1 hb
      have := h.bc r hr
      simp at hc
      omega
    · intro r hr
      simp only [HT.add, List.mem_append, List.mem_singleton] at hr ⊢
      rcases hr with hr | rfl
      · have := h.bc r hr; omega
      · simp
    · intro r hr
      simp only [HT.add, List.mem_append, List.mem_singleton] at hr
      rcases hr with hr | rfl
      · exact h.ab r hr
      · exact ha
  · refine ⟨rfl, rfl, rfl, by simp [setBlock], fun k hk hn => ?_, fun k hk => ?_⟩
    · have h1 : k ≠ t.lb := fun e => hn (e ▸ HT.mem_l x t)
      have := nmb (o := .map (t.entries.push { key := .string key, val := .pointer (some ⟨w.heap.size, 0, none⟩), born := t.clk }) (t.clk + 1)) (q := w.heap[k]) (old (by simp [hk])) h1
      rw [this]
      simp [hk]
    · rw [hfoot, List.mem_append] at hk
      rcases hk with hk | hk
      · exact .inl hk
      · simp at hk; exact .inr (by omega)
end Go.Proofs.Ytgkbiknokpmjmaa
