/- The reference's memory: Alloc, walked; condition: the memory is held, and fewer than 2^32 - 1 regions were made. -/
import Derived.Test.YtmgocjclopfeeaaRK7
set_option linter.unusedVariables false
set_option linter.unusedSimpArgs false
namespace Go.Proofs.Ytmgocjclopfeeaa
open Go.RowKit Go.MapKept

theorem ptr_info : (Try.prog.info? 105).map (fun i => (i.zero, i.size, i.bytes)) = some (some (.pointer none), 1, 8) := by kernel_rfl
theorem ptrs_und : Try.prog.underlying 49 = some (.slice 105) := by kernel_rfl
def allocH (w : World) (s p : Int) : World := (((w.alloc (byteCells (List.replicate s.toNat 0))).alloc (newRO w.heap.size s.toNat p)).alloc (ptrO (w.heap.size + 1)))
theorem allocH_own {w : World} {x : Nat} {ls : List RE} {sv : Value} {k : KA} (h : RM w x ls sv k) (s p : Int) (W : World) (hW : W.heap = (allocH w s p).heap) : W.ownsRow 0 105 1 sv ls.length (ls.map fun e => Value.pointer (some ⟨e.r, 0, none⟩)) :=
  ownsRow_keep (((h.hl.alloc _).alloc _).alloc _) (fun g _ => by rw [hW]; rfl)
theorem allocH_ptr (w : World) (s p : Int) (W : World) (hW : W.heap = (allocH w s p).heap) : W.heap[w.heap.size + 2]? = some (ptrO (w.heap.size + 1)) := by
  rw [hW]
  have := heap_alloc_new ((w.alloc (byteCells (List.replicate s.toNat 0))).alloc (newRO w.heap.size s.toNat p)) (ptrO (w.heap.size + 1))
  simp only [World.size_alloc] at this
  exact this
theorem allocH_size (w : World) (s p : Int) (W : World) (hW : W.heap = (allocH w s p).heap) : W.heap.size = w.heap.size + 3 := by
  rw [hW]; simp [allocH]
theorem alloc_x {w W W4 : World} {x : Nat} {ls : List RE} {sv : Value} {k : KA} (h : RM w x ls sv k) (s p : Int) (hW : W.heap = (allocH w s p).heap) (hgrow : W.grownBy W4 sv.ownBlock) : W4.heap[x]? = some (memO sv k.live.length k.til) := by
  have hxl := lt_of_heap h.hx
  have hnd := h.nd
  unfold rfoot at hnd
  rw [List.nodup_cons] at hnd
  rw [hgrow.block x (by rw [allocH_size w s p W hW]; omega) (fun e => hnd.1 (by rw [← e]; simp)), hW]
  unfold allocH
  rw [Below.heap_alloc _ _ x (by simp; omega), Below.heap_alloc _ _ x (by simp; omega), Below.heap_alloc _ _ x (by omega)]
  exact h.hx
theorem memO_reads {W : World} {x : Nat} {sv : Value} {l t : Nat} (h : W.heap[x]? = some (memO sv l t)) : W.cell? ⟨x, 0, none⟩ = some sv ∧ W.cell? ⟨x, 1, none⟩ = some (.int .i64 l) ∧ W.cell? ⟨x, 2, none⟩ = some (.int .i64 t) ∧ ∀ i, W.frozen? ⟨x, i, none⟩ = false := by
  unfold memO at h
  exact ⟨rk_cell h 0, rk_cell h 1, rk_cell h 2, fun i => rk_frozen h i⟩
theorem made_val (m l : Nat) (h : m = l) : ((l : Int) + 1) * 4294967296 = (((m + 1) * 4294967296 : Nat) : Int) := by
  subst h
  rw [Int.natCast_mul]
  rfl
set_option maxRecDepth 100000 in
set_option maxHeartbeats 4000000 in
theorem alloc_ok0_R {w : World} {x : Nat} {ls : List RE} {sv : Value} {k : KA} (h : RM w x ls sv k) (hw : WF k) {s p : Int} (h1 : ¬ s < 1) (h2 : ¬ 1048576 < s) (h3 : ¬ p < 1) (h4 : ¬ 3 < p) (ht : k.til = 0) (hf : k.live.length < 4096) (hm : k.made + 1 < 4294967296) :
    Calls Try.prog 33 #[.pointer (some ⟨x, 0, none⟩), .int .i64 s, .int .i64 p] w (fun e w' => RPostS x (rfoot x sv ls) w (.tuple #[.int .u64 (((k.made + 1) * 4294967296 : Nat) : Int), .int .i64 0]) ⟨k.made + 1, k.til, k.live ++ [(k.made + 1, ⟨List.replicate s.toNat 0, p.toNat, false⟩)]⟩ e w') := by
  have hL0 : (0 : Int) ≤ k.live.length := by omega
  have hL1 : (k.live.length : Int) < 4096 := by omega
  have H := hide h
  have HW := hide hw
  obtain ⟨A, cap, hsv, -⟩ := h.form
  obtain ⟨c0, c1, c2, fz⟩ := h.cells
  have fz0 := fz 0
  have fz1 := fz 1
  have hO := h.hl
  subst hsv
  have hmk := run_mk s (by omega) (by omega)
  obtain ⟨i0, hi, hz0, hz1, hz2⟩ := info_parts ptr_info
  have hmd := h.md
  have hn32 : ls.length + 1 < 4294967296 := by omega
  have c0a : ∀ o, (w.alloc o).cell? ⟨x, 0, none⟩ = some (.slice A ls.length cap) := fun o => (memO_reads (heap_alloc_some (o := o) H.out.hx)).1
  have c0b : ∀ o o', ((w.alloc o).alloc o').cell? ⟨x, 0, none⟩ = some (.slice A ls.length cap) := fun o o' => (memO_reads (heap_alloc_some (o := o') (heap_alloc_some (o := o) H.out.hx))).1
  have c0c : ∀ o o' o'', (((w.alloc o).alloc o').alloc o'').cell? ⟨x, 0, none⟩ = some (.slice A ls.length cap) := fun o o' o'' => (memO_reads (heap_alloc_some (o := o'') (heap_alloc_some (o := o') (heap_alloc_some (o := o) H.out.hx)))).1
  have HOD := hide (allocH_own H.out s p)
  have HNB := hide (allocH_ptr w s p)
  have HSZ := hide (allocH_size w s p)
  have HAX := hide (fun W W4 hW hg => memO_reads (alloc_x (W := W) (W4 := W4) H.out s p hW hg))
  have HDN := hide (fun W3 W4 g cap' h1 h2 h3 h4 a b c => alloc_done (W3 := W3) (W4 := W4) (g := g) (cap := cap') H.out HW.out (s := s) (p := p) h1 h2 h3 h4 (by omega) a b c)
  unfold allocH newRO ptrO at HOD HNB HSZ HAX HDN
  have hLw : ((k.live.length + 1 : Nat) : Int) = (k.live.length : Int) + 1 := by omega
  have HV := hide (made_val k.made ls.length hmd)
  have HV2 := hide (made_val k.made k.made rfl)
  clear hO fz h hw
  rw [ht] at c2
  clear hm hf hmd
  go_enter Try.func33, Try.ntmps33
  go_wp2_with fail
  go_region_law (refine step_append_lies _ rfl (.tmp 52) (.tmp 58) 49 rfl 0 105 i0 (.pointer none) 1 8 ptrs_und hi hz0 hz1 hz2 rfl (by decide) (.slice A ls.length cap) ls.length (ls.map fun e => Value.pointer (some ⟨e.r, 0, none⟩)) (by simp [Act.eval, Act.put]) (by refine HOD.out _ ?_; rfl) ⟨w.heap.size + 2, 0, none⟩ 1 1 [.pointer (some ⟨w.heap.size + 1, 0, none⟩)] (by simp [Act.eval, Act.put]) rfl (by refine World.news_of_block (HNB.out _ ?_); rfl) (by simp [Value.oneCell']) (by decide) (by unfold maxLen; omega) (by omega) (Nat.zero_le _) (w.heap.size + 3) (by refine HSZ.out _ ?_; rfl) ?_; intro g cap' w4 hown hgrow hat hlt; have ⟨e0, e1, e2, ez⟩ := HAX.out _ _ (by rfl) hgrow; have ez0 := ez 0; have ez1 := ez 1; have HD := hide (HDN.out _ _ _ _ (by rfl) (by rfl) (by rfl) (by rfl) hown hgrow hat); clear ez hown hgrow hat hlt)
  all_goals
    rw [hLw] at HD
    go_wp2_with fail
    go_ret2
    first | rw [HV2.out] | rw [HV.out]
    exact HD.out
theorem made_val2 (m l : Nat) (h : m = l) : ((l : Int) + 1) * 4294967296 = ((m : Int) + 1) * 4294967296 := by rw [h]
theorem alloc_fr {w w1 : World} {x : Nat} {sv : Value} {ls : List RE} {v : Value} {k : KA} {e : Ending} {w' : World} (hf : Fr (rfoot x sv ls) (rfoot x sv ls) w w1) (h : RPostS x (rfoot x sv ls) w1 v k e w') : RPostS x (rfoot x sv ls) w v k e w' := by
  obtain ⟨G', h1, h2, h3⟩ := h
  exact ⟨G', h1, h2, hf.trans h3⟩
set_option maxRecDepth 100000 in
set_option maxHeartbeats 4000000 in
theorem alloc_ok1_R {w0 : World} {x : Nat} {ls : List RE} {sv : Value} {k0 : KA} (h0 : RM w0 x ls sv k0) (hw0 : WF k0) {s p : Int} (h1 : ¬ s < 1) (h2 : ¬ 1048576 < s) (h3 : ¬ p < 1) (h4 : ¬ 3 < p) {T : Nat} (ht : k0.til = T + 2) (hf : k0.live.length < 4096) (hm : k0.made + 1 < 4294967296) :
    Calls Try.prog 33 #[.pointer (some ⟨x, 0, none⟩), .int .i64 s, .int .i64 p] w0 (fun e w' => RPostS x (rfoot x sv ls) w0 (.tuple #[.int .u64 (((k0.made + 1) * 4294967296 : Nat) : Int), .int .i64 0]) ⟨k0.made + 1, T + 1, k0.live ++ [(k0.made + 1, ⟨List.replicate s.toNat 0, p.toNat, false⟩)]⟩ e w') := by
  have hL0 : (0 : Int) ≤ k0.live.length := by omega
  have hL1 : (k0.live.length : Int) < 4096 := by omega
  have htl := hw0.tl
  have htT : k0.til - 1 = T + 1 := by omega
  obtain ⟨d0, d1, d2, dz⟩ := h0.cells
  have dz2 := dz 2
  have hw : WF { k0 with til := T + 1 } := ⟨hw0.by_, hw0.ln, hw0.pm, hw0.lv, by show T + 1 ≤ 1048576; omega, hw0.mx⟩
  have hc1 : ((T + 1 : Nat) : Int) = (k0.til : Int) - 1 := by omega
  have h : RM (w0.setCell ⟨x, 2, none⟩ (.int .i64 ((T + 1 : Nat) : Int))) x ls sv { k0 with til := T + 1 } := h0.own _ (memO_til h0.hx (T + 1)) (fun b _ hb => setCell_other hb) (by simp [World.setCell]) rfl rfl
  have HFR : Hid (Fr (rfoot x sv ls) (rfoot x sv ls) w0 (w0.setCell ⟨x, 2, none⟩ (.int .i64 ((T + 1 : Nat) : Int)))) := hide (Fr.setCell (by unfold rfoot; simp) _)
  obtain ⟨A0, cap0, hsv0, -⟩ := h0.form
  rw [hsv0] at d0
  have ht1 : 1 < k0.til := by omega
  rw [hc1] at h HFR
  have htq : ((k0.til : Int) == 1) = false := by simp; omega
  have htp : (0 : Int) < k0.til := by omega
  subst hsv0
  have hmkk := run_mk s (by omega) (by omega)
  have hn33 : k0.made + 1 < 4294967296 := hm
  clear dz h0 hw0 hc1 htT hf ht
  go_enter Try.func33, Try.ntmps33
  go_wp2_with fail
  generalize w0.setCell _ _ = w at h HFR ⊢
  have H := hide h
  have HW := hide hw
  obtain ⟨c0, c1, c2, fz⟩ := h.cells
  have fz0 := fz 0
  have fz1 := fz 1
  have hO := h.hl
  have hmk := run_mk s (by omega) (by omega)
  obtain ⟨i0, hi, hz0, hz1, hz2⟩ := info_parts ptr_info
  have hmd : k0.made = ls.length := h.md
  have hn32 : ls.length + 1 < 4294967296 := by omega
  have c0a : ∀ o, (w.alloc o).cell? ⟨x, 0, none⟩ = some (.slice A0 ls.length cap0) := fun o => (memO_reads (heap_alloc_some (o := o) H.out.hx)).1
  have c0b : ∀ o o', ((w.alloc o).alloc o').cell? ⟨x, 0, none⟩ = some (.slice A0 ls.length cap0) := fun o o' => (memO_reads (heap_alloc_some (o := o') (heap_alloc_some (o := o) H.out.hx))).1
  have c0c : ∀ o o' o'', (((w.alloc o).alloc o').alloc o'').cell? ⟨x, 0, none⟩ = some (.slice A0 ls.length cap0) := fun o o' o'' => (memO_reads (heap_alloc_some (o := o'') (heap_alloc_some (o := o') (heap_alloc_some (o := o) H.out.hx)))).1
  have HOD := hide (allocH_own H.out s p)
  have HNB := hide (allocH_ptr w s p)
  have HSZ := hide (allocH_size w s p)
  have HAX := hide (fun W W4 hW hg => memO_reads (alloc_x (W := W) (W4 := W4) H.out s p hW hg))
  have HDN := hide (fun W3 W4 g cap' h1 h2 h3 h4 a b c => alloc_done (W3 := W3) (W4 := W4) (g := g) (cap := cap') H.out HW.out (s := s) (p := p) h1 h2 h3 h4 (by omega) a b c)
  unfold allocH newRO ptrO at HOD HNB HSZ HAX HDN
  dsimp only at HDN HAX
  have hLw : ((k0.live.length + 1 : Nat) : Int) = (k0.live.length : Int) + 1 := by omega
  have HV := hide (made_val k0.made ls.length hmd)
  have HV2 := hide (made_val k0.made k0.made rfl)
  have HV3 := hide (made_val2 k0.made ls.length hmd)
  clear hO fz h hw hm hmd d0 d1 d2 dz2
  go_region_law (refine step_append_lies _ rfl (.tmp 52) (.tmp 58) 49 rfl 0 105 i0 (.pointer none) 1 8 ptrs_und hi hz0 hz1 hz2 rfl (by decide) (.slice A0 ls.length cap0) ls.length (ls.map fun e => Value.pointer (some ⟨e.r, 0, none⟩)) (by simp [Act.eval, Act.put]) (by refine HOD.out _ ?_; rfl) ⟨w.heap.size + 2, 0, none⟩ 1 1 [.pointer (some ⟨w.heap.size + 1, 0, none⟩)] (by simp [Act.eval, Act.put]) rfl (by refine World.news_of_block (HNB.out _ ?_); rfl) (by simp [Value.oneCell']) (by decide) (by unfold maxLen; omega) (by omega) (Nat.zero_le _) (w.heap.size + 3) (by refine HSZ.out _ ?_; rfl) ?_; intro g cap' w4 hown hgrow hat hlt; have ⟨e0, e1, e2, ez⟩ := HAX.out _ _ (by rfl) hgrow; have ez0 := ez 0; have ez1 := ez 1; have HD := hide (HDN.out _ _ _ _ (by rfl) (by rfl) (by rfl) (by rfl) hown hgrow hat); clear ez hown hgrow hat hlt)
  all_goals
    rw [hLw] at HD
    go_wp2_with fail
    go_ret2
    rw [← HV2.out] at HD
    try rw [HV3.out]
    exact alloc_fr HFR.out HD.out
end Go.Proofs.Ytmgocjclopfeeaa
