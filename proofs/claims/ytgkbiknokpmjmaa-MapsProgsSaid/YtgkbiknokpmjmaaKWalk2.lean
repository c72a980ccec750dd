/- Contracts of kmem's functions Alloc, Retire, Fail: each answers as the plain data (KA) say; condition: the world holds the memory (KM). -/
import Derived.Test.YtgkbiknokpmjmaaKWalk
set_option linter.unusedVariables false
set_option linter.unusedSimpArgs false
namespace Go.Proofs.Ytgkbiknokpmjmaa
open Go.RowKit Go.MapKept
open Go.ChangeMaps (setBlock)

theorem K.info5 : (Try.prog.info? 5).map (fun i => (i.zero, i.size, i.bytes)) = some (some (.int .u8 0), 1, 1) := by kernel_rfl
theorem K.undBytes : Try.prog.underlying 70 = some (.slice 5) := by kernel_rfl

theorem alloc_arg (s p : Int) (m : Nat) (w : World) (h : s < 1 ∨ 1048576 < s ∨ p < 1 ∨ 3 < p) :
    Calls Try.prog 62 #[.pointer (some ⟨m, 0, none⟩), .int .i64 s, .int .i64 p] w fun e w' => e = .returned (.tuple #[.int .u64 0, .int .i64 1]) ∧ w = w' := by
  by_cases h1 : s < 1
  · go_enter Try.func62, Try.ntmps62
    go_wp2
    go_ret2
    exact ⟨rfl, rfl⟩
  by_cases h2 : 1048576 < s
  · go_enter Try.func62, Try.ntmps62
    go_wp2
    go_ret2
    exact ⟨rfl, rfl⟩
  by_cases h3 : p < 1
  · go_enter Try.func62, Try.ntmps62
    go_wp2
    go_ret2
    exact ⟨rfl, rfl⟩
  have h4 : 3 < p := by omega
  go_enter Try.func62, Try.ntmps62
  go_wp2
  go_ret2
  exact ⟨rfl, rfl⟩

/-- The counter is another. -/
theorem KM.til {w : World} {m : Nat} {c : KC} (h : KM w m c) (n : Nat) (hn : n ≤ 1048576) :
    KM (w.setCell ⟨m, 2, none⟩ (.int .i64 n)) m { c with til := n } := by
  have hnd := h.nd
  have hne : ∀ k ∈ c.foot m, k ≠ m → (w.setCell ⟨m, 2, none⟩ (.int .i64 n)).heap[k]? = w.heap[k]? := fun k _ hk => Below.heap_setCell _ _ _ _ hk
  simp only [KC.foot, List.nodup_cons, List.mem_cons, not_or] at hnd
  have hmem : ∀ r ∈ c.cs, r.b ≠ m ∧ r.d ≠ m := by
    intro r hr
    have := hnd.1.2
    simp only [List.mem_flatMap, not_exists, not_and] at this
    have := this r hr
    simp at this
    exact ⟨fun e => this.1 e.symm, fun e => this.2 e.symm⟩
  refine ⟨?_, ?_, fun r hr => ?_, fun r hr => ?_, h.nd, h.nn, h.bn, h.bc, h.nb, h.by_, h.ln, h.pm, h.lv, hn, h.mx⟩
  · rw [heap_setCell_same h.hm]; rfl
  · rw [hne _ (KC.mem_mb m c) (fun e => hnd.1.1 e.symm)]; exact h.hmb
  · rw [hne _ (KC.mem_b m hr) (hmem r hr).1]; exact h.hb r hr
  · rw [hne _ (KC.mem_d m hr) (hmem r hr).2]; exact h.hd r hr
theorem Fr.setCell {w : World} {F : List Nat} {a : Addr} (hr : a.block ∈ F) (v : Value) : Fr F F w (w.setCell a v) :=
  ⟨rfl, rfl, rfl, by simp, fun k hk hn => Below.heap_setCell _ _ _ _ (fun e => hn (e ▸ hr)), fun k hk => .inl hk⟩

set_option maxRecDepth 100000 in
theorem alloc_fails (s p : Int) (m : Nat) (c : KC) (w : World) (h : KM w m c) (h1 : ¬ s < 1) (h2 : ¬ 1048576 < s) (h3 : ¬ p < 1) (h4 : ¬ 3 < p) (ht : c.til = 1) :
    Calls Try.prog 62 #[.pointer (some ⟨m, 0, none⟩), .int .i64 s, .int .i64 p] w fun e w' => e = .returned (.tuple #[.int .u64 0, .int .i64 2]) ∧ w' = w.setCell ⟨m, 2, none⟩ (.int .i64 0) := by
  obtain ⟨c0, c1, c2, f0, f1, f2⟩ := h.cells
  rw [ht] at c2
  clear h ht
  go_enter Try.func62, Try.ntmps62
  go_wp2
  go_ret2
  exact ⟨rfl, rfl⟩

set_option maxRecDepth 100000 in
theorem alloc_full0 (s p : Int) (m : Nat) (c : KC) (w : World) (h : KM w m c) (h1 : ¬ s < 1) (h2 : ¬ 1048576 < s) (h3 : ¬ p < 1) (h4 : ¬ 3 < p) (ht : c.til = 0) (hf : 4096 ≤ c.cs.length) :
    Calls Try.prog 62 #[.pointer (some ⟨m, 0, none⟩), .int .i64 s, .int .i64 p] w fun e w' => e = .returned (.tuple #[.int .u64 0, .int .i64 2]) ∧ w' = w := by
  obtain ⟨c0, c1, c2, f0, f1, f2⟩ := h.cells
  have hl := run_len_raw (P := Try.prog) K.und h.hmb 3
  have hs : c.entries.size = c.cs.length := by simp [KC.entries]
  rw [hs] at hl
  have hf' : (4096 : Int) ≤ (c.cs.length : Int) := by omega
  rw [ht] at c2
  clear h ht hs hf
  go_enter Try.func62, Try.ntmps62
  go_wp2
  go_ret2
  exact ⟨rfl, rfl⟩

set_option maxRecDepth 100000 in
theorem alloc_full1 (s p : Int) (m : Nat) (c : KC) (w : World) (h : KM w m c) (h1 : ¬ s < 1) (h2 : ¬ 1048576 < s) (h3 : ¬ p < 1) (h4 : ¬ 3 < p) (ht : 1 < c.til) (hf : 4096 ≤ c.cs.length) :
    Calls Try.prog 62 #[.pointer (some ⟨m, 0, none⟩), .int .i64 s, .int .i64 p] w fun e w' => e = .returned (.tuple #[.int .u64 0, .int .i64 2]) ∧ w' = w.setCell ⟨m, 2, none⟩ (.int .i64 ((c.til : Int) - 1)) := by
  obtain ⟨c0, c1, c2, f0, f1, f2⟩ := h.cells
  have ht1 := h.til (c.til - 1) (by have := h.tl; omega)
  have hl := run_len_raw (P := Try.prog) K.und ht1.hmb 3
  have hs : ({ c with til := c.til - 1 } : KC).entries.size = c.cs.length := by simp [KC.entries]
  rw [hs, show ((c.til - 1 : Nat) : Int) = (c.til : Int) - 1 by omega] at hl
  have hf' : (4096 : Int) ≤ (c.cs.length : Int) := by omega
  have hb := h.tl
  have htz : (((c.til : Int) - 1) == 0) = false := by simp; omega
  have htp : (0 : Int) < c.til := by omega
  clear h hs hf ht1
  go_enter Try.func62, Try.ntmps62
  go_wp2
  go_ret2
  exact ⟨rfl, rfl⟩

theorem madeCells_bytes (n : Nat) : madeCells #[Value.int .u8 0] n = ((List.replicate n 0).map fun (x : Nat) => Value.int .u8 x).toArray := by
  apply Array.ext
  · simp [madeCells]
  · intro i h1 h2
    simp [madeCells, Nat.mod_one]
theorem run_mk (s : Int) (h1 : 0 ≤ s) (h2 : s ≤ 281474976710656) (W : World) : (Instr.makeSlice 70 (.int .i64 s) (.int .i64 s)).run Try.prog W = .ok (.slice (some ⟨W.heap.size, 0, none⟩) s.toNat s.toNat) (W.alloc (byteCells (List.replicate s.toNat 0))) := by
  obtain ⟨i0, hi, hz0, hz1, hz2⟩ := info_parts K.info5
  rw [run_make (P := Try.prog) W _ _ i0 _ K.undBytes hi hz0 .i64 .i64 s s h1 (Int.le_refl _) (by rw [hz2]; omega) (by omega), hz1, Nat.mul_one, show (Value.int IntKind.u8 0).cells = #[Value.int IntKind.u8 0] from rfl, madeCells_bytes]
  rfl

def allocW (w : World) (m : Nat) (c : KC) (s p : Int) : World :=
  ((w.setCell ⟨m, 1, none⟩ (.int .i64 ((c.made : Int) + 1))).alloc (byteCells (List.replicate s.toNat 0))).alloc (.cells #[.slice (some ⟨w.heap.size, 0, none⟩) s.toNat s.toNat, .int .i64 p, .bool false] 147)
def KC.more (c : KC) (B : Nat) (s p : Int) : KC := { c with made := c.made + 1, clk := c.clk + 1, cs := c.cs ++ [⟨c.made + 1, B + 1, B, c.clk, ⟨List.replicate s.toNat 0, p.toNat, false⟩⟩] }

theorem KM.mne {w : World} {m : Nat} {c : KC} (h : KM w m c) : m ≠ c.mb ∧ ∀ r ∈ c.cs, r.b ≠ m ∧ r.d ≠ m ∧ r.b ≠ c.mb ∧ r.d ≠ c.mb := by
  have hnd := h.nd
  simp only [KC.foot, List.nodup_cons, List.mem_cons, not_or] at hnd
  refine ⟨hnd.1.1, fun r hr => ?_⟩
  have h1 := hnd.1.2
  have h2 := hnd.2.1
  simp only [List.mem_flatMap, not_exists, not_and] at h1 h2
  have g1 := h1 r hr
  have g2 := h2 r hr
  simp at g1 g2
  exact ⟨fun e => g1.1 e.symm, fun e => g1.2 e.symm, fun e => g2.1 e.symm, fun e => g2.2 e.symm⟩

theorem alloc_prep {w : World} {m : Nat} {c : KC} (h : KM w m c) (s p : Int) (h1 : 1 ≤ s) (h2 : s ≤ 1048576) (h3 : 1 ≤ p) (h4 : p ≤ 3) (hf : c.cs.length < 4096) (hm : c.made + 1 < 4294967296) :
    ∃ W4, (Instr.mapUpdate 55 (.map (some c.mb)) (.int .i64 ((c.made : Int) + 1)) (.pointer (some ⟨w.heap.size + 1, 0, none⟩))).run Try.prog (allocW w m c s p).drew = .ok () W4 ∧
      W4.cell? ⟨m, 0, none⟩ = some (.map (some c.mb)) ∧ W4.cell? ⟨m, 1, none⟩ = some (.int .i64 ((c.made : Int) + 1)) ∧ KM W4 m (c.more w.heap.size s p) ∧ Fr (c.foot m) ((c.more w.heap.size s p).foot m) w W4 := by
  obtain ⟨hmne, hne⟩ := h.mne
  have hlt := h.lt
  have hsz : (allocW w m c s p).heap.size = w.heap.size + 2 := by simp [allocW]
  have old : ∀ {k : Nat} {o : Obj}, w.heap[k]? = some o → k ≠ m → (allocW w m c s p).heap[k]? = some o := fun hk hn =>
    heap_alloc_some (heap_alloc_some (heap_setCell_some (fun e => hn e.symm) hk))
  have hmb : (allocW w m c s p).drew.heap[c.mb]? = some (.map c.entries c.clk) := old h.hmb (fun e => hmne e.symm)
  have hno : ∀ e ∈ c.entries.toList, e.key ≠ Value.int .i64 ((c.made : Int) + 1) := by
    intro e he hk
    simp only [KC.entries, List.mem_map] at he
    obtain ⟨r, hr, rfl⟩ := he
    have := (h.nb r hr).2
    simp only [RC.entry, Value.int.injEq, true_and] at hk
    omega
  have hup := run_update_new (P := Try.prog) (k := .int .i64 ((c.made : Int) + 1)) K.und K.undInt rfl h.keys hmb hno (.pointer (some ⟨w.heap.size + 1, 0, none⟩))
  have hM : (allocW w m c s p).heap[m]? = some (.cells #[.map (some c.mb), .int .i64 ((c.made : Int) + 1), .int .i64 c.til] 57 (0, 0)) :=
    heap_alloc_some (heap_alloc_some (by rw [heap_setCell_same h.hm]; rfl))
  have hD : (allocW w m c s p).heap[w.heap.size]? = some (byteCells (List.replicate s.toNat 0)) := by
    refine heap_alloc_some ?_
    have := heap_alloc_new (w.setCell ⟨m, 1, none⟩ (.int .i64 ((c.made : Int) + 1))) (byteCells (List.replicate s.toNat 0))
    simpa using this
  have hB : (allocW w m c s p).heap[w.heap.size + 1]? = some (.cells #[.slice (some ⟨w.heap.size, 0, none⟩) s.toNat s.toNat, .int .i64 p, .bool false] 147) := by
    have := heap_alloc_new ((w.setCell ⟨m, 1, none⟩ (.int .i64 ((c.made : Int) + 1))).alloc (byteCells (List.replicate s.toNat 0))) (.cells #[.slice (some ⟨w.heap.size, 0, none⟩) s.toNat s.toNat, .int .i64 p, .bool false] 147)
    simpa [allocW] using this
  have hmbl := lt_of_heap h.hmb
  have hml := lt_of_heap h.hm
  have nmb : ∀ {k : Nat} {o x : Obj}, (allocW w m c s p).heap[k]? = some x → k ≠ c.mb → (ChangeMaps.setBlock (allocW w m c s p).drew c.mb o).heap[k]? = some x := fun hk hn =>
    heap_setBlock_some (w := (allocW w m c s p).drew) (fun e => hn e.symm) hk
  refine ⟨_, hup, ?_, ?_, ?_, ?_⟩
  · simp only [World.cell?]; rw [nmb hM hmne]; rfl
  · simp only [World.cell?]; rw [nmb hM hmne]; rfl
  · refine ⟨?_, ?_, ?_, ?_, ?_, ?_, ?_, ?_, ?_, ?_, ?_, ?_, ?_, h.tl, hm⟩
    · rw [nmb hM hmne]; simp [KC.more]
    · refine (heap_setBlock_same hmb).trans ?_
      simp [KC.more, KC.entries, RC.entry]
    · intro r hr
      simp only [KC.more, List.mem_append, List.mem_singleton] at hr
      rcases hr with hr | rfl
      · exact nmb (old (h.hb r hr) (hne r hr).1) (hne r hr).2.2.1
      · rw [nmb hB (by omega)]
        simp only [RC.cells, List.length_replicate]
        rw [show ((p.toNat : Nat) : Int) = p by omega]
    · intro r hr
      simp only [KC.more, List.mem_append, List.mem_singleton] at hr
      rcases hr with hr | rfl
      · exact nmb (old (h.hd r hr) (hne r hr).2.1) (hne r hr).2.2.2
      · exact nmb hD (by show w.heap.size ≠ c.mb; omega)
    · have e : (c.more w.heap.size s p).foot m = c.foot m ++ [w.heap.size + 1, w.heap.size] := by simp [KC.foot, KC.more]
      rw [e, List.nodup_append]
      refine ⟨h.nd, by simp, fun a ha b hb => ?_⟩
      have := hlt a ha
      simp at hb
      omega
    · simp only [KC.more, List.map_append, List.map_cons, List.map_nil, List.nodup_append]
      refine ⟨h.nn, by simp, fun a ha b hb => ?_⟩
      obtain ⟨r, hr, rfl⟩ := List.mem_map.1 ha
      have := (h.nb r hr).2
      simp at hb
      omega
    · simp only [KC.more, List.map_append, List.map_cons, List.map_nil, List.nodup_append]
      refine ⟨h.bn, by simp, fun a ha b hb => ?_⟩
      obtain ⟨r, hr, rfl⟩ := List.mem_map.1 ha
      have := h.bc r hr
      simp at hb
      omega
    · intro r hr
      simp only [KC.more, List.mem_append, List.mem_singleton] at hr ⊢
      rcases hr with hr | rfl
      · have := h.bc r hr; omega
      · simp
    · intro r hr
      simp only [KC.more, List.mem_append, List.mem_singleton] at hr ⊢
      rcases hr with hr | rfl
      · have := h.nb r hr; omega
      · simp
    · intro r hr
      simp only [KC.more, List.mem_append, List.mem_singleton] at hr ⊢
      rcases hr with hr | rfl
      · exact h.by_ r hr
      · intro x hx
        have := List.eq_of_mem_replicate hx
        omega
    · intro r hr
      simp only [KC.more, List.mem_append, List.mem_singleton] at hr ⊢
      rcases hr with hr | rfl
      · exact h.ln r hr
      · simp; omega
    · intro r hr
      simp only [KC.more, List.mem_append, List.mem_singleton] at hr ⊢
      rcases hr with hr | rfl
      · exact h.pm r hr
      · simp; omega
    · simp [KC.more]; omega
  · refine ⟨rfl, rfl, rfl, by simp [size_setBlock, hsz], fun k hk hn => ?_, ?_⟩
    · have h1 : k ≠ c.mb := fun e => hn (e ▸ KC.mem_mb m c)
      have h2 : k ≠ m := fun e => hn (e ▸ KC.mem_m m c)
      simp only [ChangeMaps.setBlock, Array.getElem?_setIfInBounds, if_neg (fun e => h1 e.symm : ¬ c.mb = k)]
      show (allocW w m c s p).heap[k]? = _
      simp only [allocW]
      rw [Below.heap_alloc _ _ _ (by simp; omega), Below.heap_alloc _ _ _ (by simp; omega), Below.heap_setCell _ _ _ _ h2]
    · intro k hk
      have e : (c.more w.heap.size s p).foot m = c.foot m ++ [w.heap.size + 1, w.heap.size] := by simp [KC.foot, KC.more]
      rw [e, List.mem_append] at hk
      rcases hk with hk | hk
      · exact .inl hk
      · right; simp at hk; omega
theorem u64_made (n : Nat) (h : n + 1 < 4294967296) : IntKind.u64.wrap (IntKind.u64.wrap ((n : Int) + 1) * 4294967296) = (((n + 1) * 4294967296 : Nat) : Int) := by
  rw [IntKind.wrap_u64, IntKind.wrap_u64]; omega

set_option maxRecDepth 100000 in
theorem alloc_ok0 (s p : Int) (m : Nat) (c : KC) (w : World) (h : KM w m c) (h1 : ¬ s < 1) (h2 : ¬ 1048576 < s) (h3 : ¬ p < 1) (h4 : ¬ 3 < p) (ht : c.til = 0) (hf : c.cs.length < 4096) (hm : c.made + 1 < 4294967296) :
    Calls Try.prog 62 #[.pointer (some ⟨m, 0, none⟩), .int .i64 s, .int .i64 p] w fun e w' => e = .returned (.tuple #[.int .u64 (((c.made + 1) * 4294967296 : Nat) : Int), .int .i64 0]) ∧
      KM w' m (c.more w.heap.size s p) ∧ Fr (c.foot m) ((c.more w.heap.size s p).foot m) w w' := by
  obtain ⟨W4, hup, d0, d1, hkm, hfr⟩ := alloc_prep h s p (by omega) (by omega) (by omega) (by omega) hf hm
  unfold allocW at hup
  obtain ⟨c0, c1, c2, f0, f1, f2⟩ := h.cells
  have hl := run_len_raw (P := Try.prog) K.und h.hmb 3
  have hs : c.entries.size = c.cs.length := by simp [KC.entries]
  rw [hs] at hl
  have hf' : ¬ (4096 : Int) ≤ (c.cs.length : Int) := by omega
  rw [ht] at c2
  have hmk := run_mk s (by omega) (by omega)
  have hml : m < w.heap.size := lt_of_heap h.hm
  have hq := u64_made c.made hm
  clear h ht hs hf
  go_enter Try.func62, Try.ntmps62
  go_wp2
  go_region
  go_wp2
  go_ret2
  exact ⟨by rw [Int.natCast_mul]; rfl, hkm, hfr⟩

set_option maxRecDepth 100000 in
theorem alloc_ok1 (s p : Int) (m : Nat) (c : KC) (w : World) (h : KM w m c) (h1 : ¬ s < 1) (h2 : ¬ 1048576 < s) (h3 : ¬ p < 1) (h4 : ¬ 3 < p) (ht : 1 < c.til) (hf : c.cs.length < 4096) (hm : c.made + 1 < 4294967296) :
    Calls Try.prog 62 #[.pointer (some ⟨m, 0, none⟩), .int .i64 s, .int .i64 p] w fun e w' => e = .returned (.tuple #[.int .u64 (((c.made + 1) * 4294967296 : Nat) : Int), .int .i64 0]) ∧
      KM w' m (({ c with til := c.til - 1 } : KC).more w.heap.size s p) ∧ Fr (c.foot m) ((({ c with til := c.til - 1 } : KC).more w.heap.size s p).foot m) w w' := by
  have ht1 := h.til (c.til - 1) (by have := h.tl; omega)
  obtain ⟨W4, hup, d0, d1, hkm, hfr⟩ := alloc_prep ht1 s p (by omega) (by omega) (by omega) (by omega) hf hm
  have hfr := (Fr.setCell (w := w) (a := ⟨m, 2, none⟩) (KC.mem_m m c) (.int .i64 ((c.til - 1 : Nat) : Int))).trans hfr
  simp only [allocW, World.size_setCell] at hup hkm hfr
  obtain ⟨c0, c1, c2, f0, f1, f2⟩ := h.cells
  have hl := run_len_raw (P := Try.prog) K.und ht1.hmb 3
  have hs : ({ c with til := c.til - 1 } : KC).entries.size = c.cs.length := by simp [KC.entries]
  rw [hs] at hl
  have ec : ((c.til - 1 : Nat) : Int) = (c.til : Int) - 1 := by omega
  rw [ec] at hl hup
  have hf' : ¬ (4096 : Int) ≤ (c.cs.length : Int) := by omega
  have hmk := run_mk s (by omega) (by omega)
  have hml : m < w.heap.size := lt_of_heap h.hm
  have hb := h.tl
  have htz : (((c.til : Int) - 1) == 0) = false := by simp; omega
  have htp : (0 : Int) < c.til := by omega
  clear h hs hf ht1 ec
  go_enter Try.func62, Try.ntmps62
  go_wp2
  go_region
  go_wp2
  go_ret2
  exact ⟨by rw [Int.natCast_mul]; rfl, hkm, hfr⟩

/-- Alloc answers as the plain data say; condition: fewer than 2^32 regions were made. -/
theorem alloc_calls (s p : Int) (m : Nat) (c : KC) (w : World) (h : KM w m c) (hm : c.made + 1 < 4294967296) :
    Calls Try.prog 62 #[.pointer (some ⟨m, 0, none⟩), .int .i64 s, .int .i64 p] w (KPost m c w (.tuple #[.int .u64 (c.abs.alloc s p).1, .int .i64 (c.abs.alloc s p).2.1]) (c.abs.alloc s p).2.2) := by
  unfold KA.alloc
  by_cases ha : s < 1 ∨ 1048576 < s ∨ p < 1 ∨ 3 < p
  · rw [if_pos ha]
    exact (alloc_arg s p m w ha).mono fun e w' ⟨he, hw⟩ => ⟨c, he, hw ▸ h, rfl, hw ▸ Fr.refl _ _⟩
  rw [if_neg ha]
  have e1 : c.abs.til = c.til := rfl
  have e2 : c.abs.live.length = c.cs.length := by simp [KC.abs]
  rw [e1, e2]
  by_cases ht : c.til = 1
  · rw [if_pos ht]
    exact (alloc_fails s p m c w h (by omega) (by omega) (by omega) (by omega) ht).mono fun e w' ⟨he, hw⟩ => ⟨{ c with til := 0 }, he, hw ▸ h.til 0 (by omega), rfl, hw ▸ Fr.setCell (KC.mem_m m c) _⟩
  rw [if_neg ht]
  by_cases hf : 4096 ≤ c.cs.length
  · rw [if_pos hf]
    by_cases h0 : c.til = 0
    · exact (alloc_full0 s p m c w h (by omega) (by omega) (by omega) (by omega) h0 hf).mono fun e w' ⟨he, hw⟩ => ⟨c, he, hw ▸ h, by show c.abs = KA.mk _ _ _; simp [KC.abs, h0], hw ▸ Fr.refl _ _⟩
    · refine (alloc_full1 s p m c w h (by omega) (by omega) (by omega) (by omega) (by omega) hf).mono fun e w' ⟨he, hw⟩ => ⟨{ c with til := c.til - 1 }, he, ?_, rfl, hw ▸ Fr.setCell (KC.mem_m m c) _⟩
      have := h.til (c.til - 1) (by have := h.tl; omega)
      rw [show ((c.til - 1 : Nat) : Int) = (c.til : Int) - 1 by omega] at this
      exact hw ▸ this
  rw [if_neg hf]
  by_cases h0 : c.til = 0
  · exact (alloc_ok0 s p m c w h (by omega) (by omega) (by omega) (by omega) h0 (by omega) hm).mono fun e w' ⟨he, hk, hfr⟩ => ⟨_, he, hk, by simp [KC.abs, KC.more, KA.allocOk, h0], hfr⟩
  · exact (alloc_ok1 s p m c w h (by omega) (by omega) (by omega) (by omega) (by omega) (by omega) hm).mono fun e w' ⟨he, hk, hfr⟩ => ⟨_, he, hk, by simp [KC.abs, KC.more, KA.allocOk], hfr⟩
end Go.Proofs.Ytgkbiknokpmjmaa
