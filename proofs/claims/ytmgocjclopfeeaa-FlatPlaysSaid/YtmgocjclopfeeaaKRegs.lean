/- kmem's Regions: the live regions, ascending, in whatever order the map is gone over; condition: the world holds the memory, and the live numbers ascend in it. -/
import Derived.Test.YtmgocjclopfeeaaKSort
set_option linter.unusedVariables false
set_option linter.unusedSimpArgs false
namespace Go.Proofs.Ytmgocjclopfeeaa
open Go.RowKit Go.MapKept
open Go.ChangeMaps (setBlock)

def pairC (r : RC) : Nat × RA := (r.n, r.a)
structure RI (w : World) (c : KC) (v : Value) (wr : World) (vs : List RC) : Prop where
  it : wr.heap[w.heap.size]? = some (.mapIter (some c.mb) c.clk (vs.map (·.born)).toArray c.clk)
  own : wr.ownsRow (w.heap.size + 1) 97 3 v vs.length (rcells (vs.map pairC))
  sub : ∀ r ∈ vs, r ∈ c.cs
  nd : (vs.map (·.born)).Nodup
  fr : Fr [] [] w wr
theorem mem_left {c : KC} {seen : Array Nat} {e : MapEntry} (h : e ∈ (leftOf c.entries seen).toList) : ∃ r ∈ c.cs, e = r.entry ∧ seen.contains r.born = false := by
  simp only [leftOf, KC.entries, Array.toList_filter, List.mem_filter, List.mem_map] at h
  obtain ⟨⟨r, hr, rfl⟩, hs⟩ := h
  exact ⟨r, hr, rfl, by simpa [RC.entry] using hs⟩
theorem all_seen {c : KC} {seen : Array Nat} (h : (leftOf c.entries seen).size = 0) : ∀ r ∈ c.cs, seen.contains r.born = true := by
  intro r hr
  cases hc : seen.contains r.born with
  | true => rfl
  | false =>
    have : r.entry ∈ (leftOf c.entries seen).toList := by
      simp only [leftOf, KC.entries, Array.toList_filter, List.mem_filter, List.mem_map]
      exact ⟨⟨r, hr, rfl⟩, by simpa [RC.entry] using hc⟩
    rw [← Array.length_toList, List.length_eq_zero_iff] at h
    rw [h] at this
    cases this
theorem RI.perm {w wr : World} {m : Nat} {c : KC} {v : Value} {vs : List RC} (h : KM w m c) (G : RI w c v wr vs) (h0 : (leftOf c.entries (vs.map (·.born)).toArray).size = 0) : vs.Perm c.cs := by
  refine (List.perm_ext_iff_of_nodup (nodup_of_born G.nd) (nodup_of_born h.bn)).2 fun r => ⟨G.sub r, fun hr => ?_⟩
  have := all_seen h0 r hr
  simp at this
  obtain ⟨q, hq, e⟩ := this
  exact (born_inj h.bn (G.sub q hq) hr e) ▸ hq
theorem RI.more {w wr W2 W3 W4 : World} {m : Nat} {c : KC} {v : Value} {vs : List RC} (G : RI w c v wr vs) {r : RC} (hr : r ∈ c.cs) (hs : (vs.map (·.born)).toArray.contains r.born = false)
    (hW2 : W2.heap = (setBlock wr w.heap.size (.mapIter (some c.mb) c.clk ((vs.map (·.born)).toArray.push r.born) c.clk)).heap) (o2 : W2.os = wr.os) (t2 : W2.tape = wr.tape) (p2 : W2.output = wr.output)
    (h1 : W3.heap = (W2.alloc (regO r.n r.a)).heap) (h2 : W3.os = W2.os) (h3 : W3.tape = W2.tape) (h4 : W3.output = W2.output) {g cap : Nat}
    (hown : W4.ownsRow (w.heap.size + 1) 97 3 (.slice (some ⟨g, 0, none⟩) (vs.length + 1) cap) (vs.length + 1) (rcells (vs.map pairC) ++ [.int .i64 r.n, .int .i64 r.a.perm, .string (bstr r.a.bytes)])) (hgrow : W3.grownBy W4 v.ownBlock) :
    RI w c (.slice (some ⟨g, 0, none⟩) (vs.length + 1) cap) W4 (vs ++ [r]) := by
  have hit := lt_of_heap G.it
  have hrow := own_base G.own
  have hsz2 : W2.heap.size = wr.heap.size := by rw [hW2, size_setBlock]
  have hsz : W3.heap.size = wr.heap.size + 1 := by rw [h1, World.size_alloc, hsz2]
  have hW3 : ∀ b, b < wr.heap.size → b ≠ w.heap.size → W3.heap[b]? = wr.heap[b]? := fun b hb hne => by
    rw [h1, Below.heap_alloc _ _ b (by rw [hsz2]; exact hb), hW2]
    have : ¬ w.heap.size = b := fun e => hne e.symm
    simp [setBlock, Array.getElem?_setIfInBounds, this]
  refine ⟨?_, ?_, fun q hq => ?_, ?_, ?_⟩
  · rw [hgrow.block w.heap.size (by omega) (fun e => by have := hrow _ e.symm; omega), h1, Below.heap_alloc _ _ _ (by rw [hsz2]; exact hit), hW2]
    rw [heap_setBlock_same G.it]
    simp
  · rw [List.length_append, List.map_append, rcells_append]
    exact hown
  · rcases List.mem_append.1 hq with hq | hq
    · exact G.sub q hq
    · simp at hq; subst hq; exact hr
  · rw [List.map_append, List.nodup_append]
    refine ⟨G.nd, by simp, fun a ha b hb => ?_⟩
    simp at hb
    subst hb
    rintro rfl
    rw [List.contains_toArray] at hs
    simp at hs
    obtain ⟨q, hq, e⟩ := List.mem_map.1 ha
    exact hs q hq e
  · refine ⟨hgrow.os.trans (h2.trans (o2.trans G.fr.os)), hgrow.tape.trans (h3.trans (t2.trans G.fr.tape)), hgrow.output.trans (h4.trans (p2.trans G.fr.output)), ?_, fun b hb hn => ?_, fun _ hk => by simp at hk⟩
    · have := hgrow.size; have := G.fr.size; omega
    · rw [hgrow.block b (by have := G.fr.size; omega) (fun e => by have := hrow b e.symm; omega), hW3 b (by have := G.fr.size; omega) (by omega)]
      exact G.fr.block b hb hn
def RegsPost (w : World) (L : List (Nat × RA)) (e : Ending) (W : World) : Prop := ∃ v, e = .returned v ∧ RowIs W v L ∧ Fr [] [] w W
theorem regs_sorted {w wr : World} {m : Nat} {c : KC} {v : Value} {vs : List RC} (h : KM w m c) (G : RI w c v wr vs) (hp : vs.Perm c.cs) {L : List (Nat × RA)} (hL : L = c.cs.map pairC) (hasc : L.Pairwise fun x y => x.1 < y.1) :
    Calls Try.prog 41 #[v, .func (.func 42) #[] #[]] wr fun e W => e = .returned (.tuple #[]) ∧ RowIs W v L ∧ Fr [] [] w W := by
  have hpl : L.Perm (vs.map pairC) := by rw [hL]; exact (hp.map pairC).symm
  have hown := G.own
  have hlen : (vs.map pairC).length = vs.length := List.length_map _
  obtain ⟨A, cap, rfl, hg⟩ := own_form3 hown
  by_cases h0 : vs.length = 0
  · have hv0 : vs = [] := List.eq_nil_of_length_eq_zero h0
    subst hv0
    have hL0 : L = [] := by simpa using hpl
    subst hL0
    have hcon := AnyF.slices_SortFunc_none Try.sortReg A cap (.func (.func 42) #[] #[]) wr
    change Calls Try.prog 41 _ _ _ at hcon
    exact hcon.mono fun e W ⟨e1, e2⟩ => ⟨e1, e2 ▸ ⟨A, cap, rfl, fun h => by simp at h⟩, e2 ▸ G.fr⟩
  · obtain ⟨g, rfl⟩ := hg (by omega)
    have hb : ∀ y ∈ vs.map pairC, y.1 < 4294967296 := fun y hy => by
      obtain ⟨r, hr, rfl⟩ := List.mem_map.1 hy
      have := h.nb r (G.sub r hr)
      have := h.mx
      show r.n < _
      omega
    have hle : vs.length ≤ 4096 := by rw [hp.length_eq]; exact h.lv
    have hgl := own_base hown g rfl
    rw [← hlen] at hown ⊢
    refine (sort_calls hown hb hpl hasc (by rw [hlen]; omega)).mono ?_
    rintro e W ⟨rfl, h1, h2, h3, h4, h5, h6⟩
    refine ⟨rfl, h1, h4.trans G.fr.os, h5.trans G.fr.tape, h6.trans G.fr.output, Nat.le_trans G.fr.size h3, fun b hb hn => ?_, fun _ hk => by simp at hk⟩
    rw [h2 b (by have := G.fr.size; omega) (by omega)]
    exact G.fr.block b hb hn
theorem regO_own' {wr : World} {base : Nat} {v : Value} {n : Nat} {xs : List Value} (h : wr.ownsRow base 97 3 v n xs) (o : Obj) (W : World) (hW : W.heap = (wr.alloc o).heap) : W.ownsRow base 97 3 v n xs :=
  ownsRow_keep (h.alloc o) (fun g _ => by rw [hW])
def leftR (c : KC) (it : Nat) (wr : World) : Nat := leftCnt c it wr
set_option maxRecDepth 100000 in
set_option maxHeartbeats 4000000 in
theorem regions_K (m : Nat) (c : KC) (w : World) (h : KM w m c) {L : List (Nat × RA)} (hL : L = c.cs.map pairC) (hasc : L.Pairwise fun x y => x.1 < y.1) :
    Calls Try.prog 23 #[.pointer (some ⟨m, 0, none⟩)] w (RegsPost w L) := by
  obtain ⟨i0, hi, hz0, hz1, hz2⟩ := info_parts reg_info
  obtain ⟨c0, -⟩ := h.cells
  have hrg := K.range w h
  have H := hide h
  have hml : m < w.heap.size := lt_of_heap h.hm
  have hmbl : c.mb < w.heap.size := lt_of_heap h.hmb
  have hcl : c.cs.length ≤ 4096 := h.lv
  have HLL := hide (And.intro hL hasc)
  clear h hL hasc
  go_enter Try.func23, Try.ntmps23
  go_wp2_with fail
  go_loopw [3] (fun v wr => ∃ vs, RI w c v wr vs) (fun _ wr => leftR c w.heap.size wr)
  case atStart => exact ⟨[], heap_alloc_new _ _, World.ownsRow_nil _ _ _ _, fun r hr => by simp at hr, by simp, (Fr.refl [] w).alloc _⟩
  case round =>
    obtain ⟨vs, G⟩ := hrel
    have hold : ∀ x ∈ c.entries.toList, x.born < c.clk := by
      intro x hx
      obtain ⟨r, hr, rfl⟩ := List.mem_map.1 (by simpa [KC.entries] using hx)
      exact H.out.bc r hr
    have hmb : wr.heap[c.mb]? = some (.map c.entries c.clk) := by rw [G.fr.block _ hmbl (by simp)]; exact H.out.hmb
    rcases run_next_at (P := Try.prog) wr 0 w.heap.size c.mb c.clk c.clk _ _ c.clk G.it hmb hold (Nat.le_refl _) with ⟨h0, hrun⟩ | ⟨e, he, w1, hw1, hrun⟩
    · have hrun' : ∀ ty, (Instr.next (.pointer (some ⟨w.heap.size, 0, none⟩)) false ty).run Try.prog wr = .ok (.tuple #[.bool false]) wr := fun _ => hrun
      have HPM := hide (G.perm H.out h0)
      have HG := hide G
      clear G hold h0 hrun
      have HSR := hide (regs_sorted H.out HG.out HPM.out HLL.out.1 HLL.out.2)
      go_wp2_with fail
      refine HSR.out.mono ?_
      rintro e1 W1 ⟨rfl, hrow, hfr⟩
      have HP := hide (show RegsPost w L (.returned u3) W1 from ⟨_, rfl, hrow, hfr⟩)
      clear hrow hfr
      go_wp2
      go_ret
      exact HP.out
    · obtain ⟨r, hr, rfl, hseen⟩ := mem_left he
      have hk := H.out
      have hbr : wr.heap[r.b]? = some r.cells := by rw [G.fr.block _ (lt_of_heap (hk.hb r hr)) (by simp)]; exact hk.hb r hr
      have hdr : wr.heap[r.d]? = some (byteCells r.a.bytes) := by rw [G.fr.block _ (lt_of_heap (hk.hd r hr)) (by simp)]; exact hk.hd r hr
      have hbl := lt_of_heap (hk.hb r hr)
      have hdl := lt_of_heap (hk.hd r hr)
      obtain ⟨W2, hW2⟩ : ∃ W2, W2 = setBlock w1 w.heap.size (.mapIter (some c.mb) c.clk ((vs.map (·.born)).toArray.push r.born) c.clk) := ⟨_, rfl⟩
      rw [show r.entry.born = r.born from rfl, ← hW2] at hrun
      have hrun' : ∀ ty, (Instr.next (.pointer (some ⟨w.heap.size, 0, none⟩)) false ty).run Try.prog wr = .ok (.tuple #[.bool true, .int .i64 r.n, .pointer (some ⟨r.b, 0, none⟩)]) W2 := fun _ => hrun
      have hw1h : w1.heap = wr.heap := by rcases hw1 with rfl | rfl <;> rfl
      have ho2 : W2.os = wr.os ∧ W2.tape = wr.tape ∧ W2.output = wr.output := by rw [hW2]; rcases hw1 with rfl | rfl <;> exact ⟨rfl, rfl, rfl⟩
      have hW2h : W2.heap = (setBlock wr w.heap.size (.mapIter (some c.mb) c.clk ((vs.map (·.born)).toArray.push r.born) c.clk)).heap := by rw [hW2]; simp [setBlock, hw1h]
      have hit2 : W2.heap[w.heap.size]? = some (.mapIter (some c.mb) c.clk ((vs.map (·.born)).toArray.push r.born) c.clk) := by rw [hW2h]; exact heap_setBlock_same G.it
      have hold2 : ∀ b, b ≠ w.heap.size → W2.heap[b]? = wr.heap[b]? := fun b hne => by
        rw [hW2h]
        have : ¬ w.heap.size = b := fun e => hne e.symm
        simp [setBlock, Array.getElem?_setIfInBounds, this]
      have hsz2 : W2.heap.size = wr.heap.size := by rw [hW2h, size_setBlock]
      have hmb2 : W2.heap[c.mb]? = some (.map c.entries c.clk) := by rw [hold2 _ (by omega)]; exact hmb
      have hent := run_entry_at (P := Try.prog) W2 w.heap.size c.mb c.clk _ _ c.clk r.entry hit2 hmb2 (by simp only [KC.entries]; exact List.mem_map.2 ⟨r, hr, rfl⟩) (by
        have := hk.bn
        simpa [KC.entries, Function.comp_def, RC.entry] using this)
      simp only [RC.entry] at hent
      have hcm : W2.cell? ⟨m, 0, none⟩ = some (.map (some c.mb)) := by
        simp only [World.cell?]; rw [hold2 m (by omega), G.fr.block m hml (by simp), hk.hm]; rfl
      obtain ⟨r0, r1, -, -⟩ := RC.reads (show W2.heap[r.b]? = some r.cells by rw [hold2 _ (by omega)]; exact hbr)
      have hd2 : W2.heap[r.d]? = some (byteCells r.a.bytes) := by rw [hold2 _ (by omega)]; exact hdr
      have hln := hk.ln r hr
      have hv : ∀ W cc, W.heap = W2.heap → (convert 39 9 (.slice (some ⟨r.d, 0, none⟩) r.a.bytes.length cc)).run Try.prog W = .ok (.string (bstr r.a.bytes)) W := fun W cc hW => run_bytes r.a.bytes rfl (fun i hi => by
        have := byte_reads (w := W) (by rw [hW]; exact hd2) i hi
        simpa using this)
      have hv1 := fun cc => hv W2 cc rfl
      have hv2 := fun cc => hv W2.drew cc rfl
      have hv4 := fun cc t d o u => hv ({ heap := W2.heap, tape := t, drawn := d, os := o, output := u } : World) cc rfl
      have HO := hide (ownsRow_keep G.own (w' := W2) (fun g hg => hold2 g (by have := own_base G.own g hg; omega)))
      have hvl : vs.length ≤ 4096 := by
        have hpf : vs.Perm (c.cs.filter fun q => decide (q ∈ vs)) := (List.perm_ext_iff_of_nodup (nodup_of_born G.nd) ((nodup_of_born hk.bn).filter _)).2 fun q => by
          simp only [List.mem_filter, decide_eq_true_eq]
          exact ⟨fun hq => ⟨G.sub q hq, hq⟩, fun hq => hq.2⟩
        have := hpf.length_eq
        have := List.length_filter_le (fun q => decide (q ∈ vs)) c.cs
        omega
      have HVL := hide hvl
      have HBS : Hid (w.heap.size + 1 ≤ W2.heap.size) := hide (by rw [hsz2]; exact lt_of_heap G.it)
      have HOD := hide (regO_own' HO.out (regO r.n r.a))
      have HNB := hide (regO_new W2 (regO r.n r.a))
      have HDN := hide (fun W3 W4 g cap' a b cc d e f => RI.more (W3 := W3) (W4 := W4) (g := g) (cap := cap') (m := m) G hr hseen hW2h ho2.1 ho2.2.1 ho2.2.2 a b cc d e f)
      have HMS : Hid (∀ W3 v', RI w c v' W3 (vs ++ [r]) → leftR c w.heap.size W3 < leftR c w.heap.size wr) := hide fun W3 v' G3 => by
        unfold leftR
        simp only [leftCnt, G3.it, G.it]
        refine filter_less (fun x _ hx => ?_) hr (by simpa using hseen) (by simp)
        simp at hx ⊢
        exact hx.1
      unfold regO at HOD HNB HDN
      clear G he hrun hseen hk hW2 hw1 hw1h ho2 hW2h hit2 hold2 hsz2 hmb2 hmb hbr hdr hbl hdl hd2 hv hvl hr hold
      go_wp2_with fail
      go_region_law (refine step_append_lies _ rfl (.tmp 18) (.tmp 30) 59 rfl (w.heap.size + 1) 97 i0 _ 3 32 regs_und hi hz0 hz1 hz2 rfl (by decide) u3 vs.length (rcells (vs.map pairC)) (by simp [Act.eval, Act.put]) (by refine HOD.out _ ?_; rfl) ⟨W2.heap.size, 0, none⟩ 1 1 [.int .i64 (r.n : Nat), .int .i64 (r.a.perm : Nat), .string (bstr r.a.bytes)] (by simp [Act.eval, Act.put]) rfl (by refine World.news_of_block (HNB.out _ ?_).1; rfl) (by simp [Value.oneCell']) (by decide) (by have := HVL.out; unfold maxLen; omega) (by have := HVL.out; omega) (by refine Nat.le_trans HBS.out (Nat.le_trans (Nat.le_succ _) (Nat.le_of_eq (HNB.out _ ?_).2.symm)); rfl) (W2.heap.size + 1) (by refine (HNB.out _ ?_).2; rfl) ?_; intro g cap' w4 hown hgrow hat hlt; have HD := hide (HDN.out _ _ _ _ (by rfl) (by rfl) (by rfl) (by rfl) hown hgrow); clear hown hgrow hat hlt)
      all_goals
        go_wp2
        go_simp
        exact ⟨⟨_, HD.out⟩, HMS.out _ _ HD.out⟩
end Go.Proofs.Ytmgocjclopfeeaa
