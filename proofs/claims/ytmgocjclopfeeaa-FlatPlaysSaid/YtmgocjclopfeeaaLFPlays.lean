/- FlatPlays: whatever the spec and the deeds, both arrays tell the same, and both memories hold the same regions at the end; condition: the deeds lie in memory. -/
import Derived.Test.YtmgocjclopfeeaaKRegs
import Derived.Test.YtmgocjclopfeeaaFDo
import Derived.Test.YtmgocjclopfeeaaFNewB
import Derived.Test.YtmgocjclopfeeaaSameRows
import Derived.Test.YtmgocjclopfeeaaOpen
set_option linter.unusedVariables false
set_option linter.unusedSimpArgs false
namespace Go.Proofs.Ytmgocjclopfeeaa
open Go.RowKit Go.MapKept

/-- The deeds of a row. -/
def FDeedAt (w : World) (a : Option Addr) (i : Nat) : Prop := ∃ (b o : Nat) (kd : Int) (key value : ByteArray) (fl cpu : Int) (u : Nat), a = some ⟨b, o, none⟩ ∧ b < w.heap.size ∧ u < 18446744073709551616 ∧
  w.cell? ⟨b, o + i * 6, none⟩ = some (.int .i64 kd) ∧ w.cell? ⟨b, o + i * 6 + 1, none⟩ = some (.string key) ∧ w.cell? ⟨b, o + i * 6 + 2, none⟩ = some (.string value) ∧ w.cell? ⟨b, o + i * 6 + 3, none⟩ = some (.int .i64 fl) ∧ w.cell? ⟨b, o + i * 6 + 4, none⟩ = some (.int .i64 cpu) ∧ w.cell? ⟨b, o + i * 6 + 5, none⟩ = some (.int .u64 u)
abbrev fdeedFs : List FK := [.int .i64, .str, .str, .int .i64, .int .i64, .int .u64]
theorem u64_nat {n : Int} (h : (Lit.int .u64 n).wf = true) : ∃ m : Nat, n = m ∧ m < 18446744073709551616 := by
  simp [Lit.wf, IntKind.min, IntKind.max, IntKind.signed, IntKind.bits] at h
  exact ⟨n.toNat, by omega, by omega⟩
theorem row_fdeeds {w : World} {a : Option Addr} {len cap : Nat} (h : RowF w a len cap fdeedFs) (i : Nat) (hi : i < len) : FDeedAt w a i := by
  rcases h with rfl | ⟨b, o, rfl, h1, h2, h3⟩
  · omega
  · obtain ⟨v0, c0, n0, rfl, _⟩ := h3 i hi 0 _ rfl
    obtain ⟨v1, c1, n1, rfl, _⟩ := h3 i hi 1 _ rfl
    obtain ⟨v2, c2, n2, rfl, _⟩ := h3 i hi 2 _ rfl
    obtain ⟨v3, c3, n3, rfl, _⟩ := h3 i hi 3 _ rfl
    obtain ⟨v4, c4, n4, rfl, _⟩ := h3 i hi 4 _ rfl
    obtain ⟨v5, c5, n5, rfl, f5⟩ := h3 i hi 5 _ rfl
    obtain ⟨m5, rfl, l5⟩ := u64_nat f5
    exact ⟨b, o, n0, n1, n2, n3, n4, m5, rfl, World.block_lt_of_cell? _ _ c0, l5, c0, c1, c2, c3, c4, c5⟩
def FPlRel (wb : World) (m n x y : Nat) (s : FSpec) (cpus : Int) (v : Value) (wr : World) : Prop := ∃ i : Nat, i ≤ 100 ∧ v = .int .i64 i ∧ ∃ R l sv gone k F G, BoF wb wr m n x y s cpus R l sv gone k F G
def FNilRel (wb : World) (m n : Nat) (v : Value) (wr : World) : Prop := v = .int .i64 0 ∧ ∃ k F G, BoW wb wr m n k F G
theorem box2_cells {W : World} {b : Nat} {c0 c1 : Int} {t : TypeId} (h : W.heap[b]? = some (.cells #[.int .i64 c0, .int .i64 c1] t (0, 0))) : W.cell? ⟨b, 0, none⟩ = some (.int .i64 c0) ∧ W.cell? ⟨b, 1, none⟩ = some (.int .i64 c1) := ⟨rk_cell h 0, rk_cell h 1⟩
theorem box4_cells {W : World} {b : Nat} {c0 c1 c2 c3 : Int} {t : TypeId} (h : W.heap[b]? = some (.cells #[.int .i64 c0, .int .i64 c1, .int .i64 c2, .int .i64 c3] t (0, 0))) : W.cell? ⟨b, 0, none⟩ = some (.int .i64 c0) ∧ W.cell? ⟨b, 1, none⟩ = some (.int .i64 c1) ∧ W.cell? ⟨b, 2, none⟩ = some (.int .i64 c2) ∧ W.cell? ⟨b, 3, none⟩ = some (.int .i64 c3) := ⟨rk_cell h 0, rk_cell h 1, rk_cell h 2, rk_cell h 3⟩
theorem fail_wu (n : Int) : WU (KA.fail n ⟨0, 0, []⟩).2 ∧ (KA.fail n ⟨0, 0, []⟩).2.made = 0 := by
  unfold KA.fail
  split
  · exact ⟨⟨⟨by simp, by simp, by simp, by simp, by simp, by simp⟩, by simp, by simp⟩, rfl⟩
  · refine ⟨⟨⟨by simp, by simp, by simp, by simp, ?_, by simp⟩, by simp, by simp⟩, rfl⟩
    simp only
    omega
set_option maxRecDepth 100000 in
set_option maxHeartbeats 4000000 in
theorem fplays_calls (kd key v mx c0 c1 : Int) (a : Option Addr) (len cap : Nat) (w : World) (hrow : ∀ i, i < len → FDeedAt w a i) (hlen : len ≤ 9223372036854775807) :
    Calls Try.prog 7 #[.agg #[.int .i64 kd, .int .i64 key, .int .i64 v, .int .i64 mx], .agg #[.int .i64 c0, .int .i64 c1], .slice a len cap] w fun e W => e = .returned (.bool true) ∧ Below w.heap.size w W := by
  have hu := Try.underlying46
  have HROW := hide hrow
  have HAW := hide (fun W => fawake W)
  clear hrow
  by_cases hbig : 300 < mx ∧ mx ≤ 4096
  · obtain ⟨g1, g2⟩ := hbig
    go_enter Try.func7, Try.ntmps7
    go_wp2_with fail
    refine (HAW.out _).mono ?_
    rintro e w1 ⟨rfl, hb1⟩
    have HE : Hid (Below w.heap.size w w1) := hide (by
      have hf := ((Fr.refl [] w).alloc (.cells #[.int .i64 kd, .int .i64 key, .int .i64 v, .int .i64 mx] 29)).alloc (.cells #[.int .i64 c0, .int .i64 c1] 46)
      exact hf.below0.trans (hb1.mono hf.size))
    clear hb1
    go_wp2
    go_ret
    exact ⟨rfl, HE.out⟩
  have hsm : mx ≤ 300 ∨ (300 < mx ∧ 4096 < mx) := by omega
  clear hbig
  rcases hsm with g1 | ⟨g1, g2⟩
  all_goals
    go_enter Try.func7, Try.ntmps7
    go_wp2_with fail
    refine (new_S _).mono ?_
    rintro e w1 ⟨m, F, rfl, h1, f1⟩
    obtain ⟨wb, hwb⟩ : ∃ wb, wb = (w.alloc (.cells #[.int .i64 kd, .int .i64 key, .int .i64 v, .int .i64 mx] 29)).alloc (.cells #[.int .i64 c0, .int .i64 c1] 46) := ⟨_, rfl⟩
    have hb0 := bow_start h1 f1
    rw [← hwb] at f1 hb0
    have hx3 : wb.heap[w.heap.size]? = some (.cells #[.int .i64 kd, .int .i64 key, .int .i64 v, .int .i64 mx] 29 (0, 0)) := by rw [hwb]; exact heap_alloc_some (heap_alloc_new _ _)
    have hx4 : wb.heap[w.heap.size + 1]? = some (.cells #[.int .i64 c0, .int .i64 c1] 46 (0, 0)) := by
      have := heap_alloc_new (w.alloc (.cells #[.int .i64 kd, .int .i64 key, .int .i64 v, .int .i64 mx] 29)) (.cells #[.int .i64 c0, .int .i64 c1] 46)
      rw [← hwb, World.size_alloc] at this
      exact this
    have HWB : Hid (Below w.heap.size w wb) := hide (by rw [hwb]; exact (((Fr.refl [] w).alloc _).alloc _).below0)
    have HX3 := hide hx3
    have HX4 := hide hx4
    have HKEEP : Hid (∀ W, Below wb.heap.size wb W → (W.cell? ⟨w.heap.size, 0, none⟩ = some (.int .i64 kd) ∧ W.cell? ⟨w.heap.size, 1, none⟩ = some (.int .i64 key) ∧ W.cell? ⟨w.heap.size, 2, none⟩ = some (.int .i64 v) ∧ W.cell? ⟨w.heap.size, 3, none⟩ = some (.int .i64 mx)) ∧ W.cell? ⟨w.heap.size + 1, 0, none⟩ = some (.int .i64 c0) ∧ W.cell? ⟨w.heap.size + 1, 1, none⟩ = some (.int .i64 c1)) := hide fun W hW =>
      ⟨box4_cells ((hW.block _ (lt_of_heap HX3.out)).trans HX3.out), box2_cells ((hW.block _ (lt_of_heap HX4.out)).trans HX4.out)⟩
    have HB0 : Hid (BoW wb (w1.alloc (.cells #[.slice none 0 0, .int .i64 0, .int .i64 0] 51)) m w1.heap.size ⟨0, 0, []⟩ F [w1.heap.size]) := hide hb0
    obtain ⟨⟨s0, s1, s2, s3⟩, p0, p1⟩ := HKEEP.out (w1.alloc (.cells #[.slice none 0 0, .int .i64 0, .int .i64 0] 51)) hb0.bl
    obtain ⟨e0, k1, E0⟩ : ∃ e k1, KA.fail c1 ⟨0, 0, []⟩ = (e, k1) := ⟨_, _, rfl⟩
    have hk1 := fail_wu c1
    rw [E0] at hk1
    have HK1 := hide hk1
    have E0 := hide E0
    clear hb0 h1 f1 hx3 hx4 hwb hk1
    go_wp2_with fail
    refine (fail_S HB0.out.a E0.out).mono ?_
    rintro e W1 ⟨F1, rfl, h1, f1⟩
    obtain ⟨r1, -, -, bl1⟩ := HB0.out.left h1 f1
    have H1 := hide (And.intro h1 f1)
    have R1 := hide r1
    clear s0 s1 s2 s3 p0 p1 h1 f1 r1
    obtain ⟨⟨s0, s1, s2, s3⟩, p0, p1⟩ := HKEEP.out _ bl1
    clear bl1
    go_wp2_with fail
    refine (fail_R R1.out E0.out).mono ?_
    rintro e W2 ⟨G1, rfl, h2, f2⟩
    have HB2 := hide (HB0.out.both H1.out.1 H1.out.2 h2 f2)
    clear s0 s1 s2 s3 p0 p1 h2 f2 H1 R1
    obtain ⟨⟨s0, s1, s2, s3⟩, p0, p1⟩ := HKEEP.out _ HB2.out.bl
    obtain ⟨er, P1, hN1, hN2⟩ := new_both HB2.out HK1.out.1 (by have h0 : k1.made = 0 := HK1.out.2; omega) kd key v mx c0
    unfold newArgs at hN1 hN2
    have HN1 := hide hN1
    have HN2 := hide hN2
    clear hN1 hN2
    go_wp2_with fail
    refine HN1.out.mono ?_
    rintro e W3 ⟨xv, F3, rfl, hp, f3⟩
    have HN3 := hide (HN2.out xv W3 hp)
    clear s0 s1 s2 s3 p0 p1 hp HN1 HN2
    obtain ⟨⟨s0, s1, s2, s3⟩, p0, p1⟩ := HKEEP.out W3 (HB2.out.bl.trans (f3.below HB2.out.bl.size HB2.out.nf))
    clear f3
    go_wp2_with fail
    refine HN3.out.mono ?_
    rintro e W4 ⟨yv, rfl, (⟨rfl, rfl, k, F4, G4, hb4, hw4⟩ | ⟨x, y, s, cpus, R, l, sv, k, F4, G4, rfl, rfl, hb4⟩)⟩
    · have H0 : Hid (FNilRel wb m w1.heap.size (.int .i64 0) W4) := hide ⟨rfl, k, F4, G4, hb4⟩
      clear hb4 hw4 s0 s1 s2 s3 p0 p1
      go_wp2_with fail
      go_loopw [13] (fun v wr => FNilRel wb m w1.heap.size v wr) (fun v _ => 1)
      case atStart => exact H0.out
      case round =>
        clear H0
        obtain ⟨rfl, k, F4, G4, hbo⟩ := hrel
        have HBO := hide hbo
        clear hbo
        have hln : (0 : Int) < len ∨ ¬ (0 : Int) < len := by omega
        obtain ⟨c, hkm, habs, hfoot⟩ := HBO.out.a
        obtain ⟨ls, sv0, hrm, hg⟩ := HBO.out.b
        have hasc : k.live.Pairwise fun x y => x.1 < y.1 := by rw [hrm.lv]; exact liveOf_asc ls 1
        have HRK := hide (regions_K m c wr hkm (L := k.live) (by rw [← habs]; rfl) hasc)
        have HRM := hide (fun W (hf : Fr [] [] wr W) => regions_R (hrm.frame (w' := W) (fun b hb => hf.block b (hrm.lt b hb) (by simp)) hf.size) HBO.out.a.wf)
        have hkl : k.live.length < 4294967296 := by have := HBO.out.a.wf.lv; omega
        clear hkm hrm hasc
        rcases hln with hln | hln
        · skip
          go_wp2_with fail
          refine HRK.out.mono ?_
          rintro e W1 ⟨v1, rfl, r1, f1⟩
          have HR1 := hide r1
          have HF1 := hide f1
          have HRM1 := hide (HRM.out W1 f1)
          clear r1 f1
          go_wp2_with fail
          refine HRM1.out.mono ?_
          rintro e W2 ⟨v2, rfl, r2, f2⟩
          have HSM := hide (same_rows (HR1.out.keep (fun b hb => f2.block b hb (by simp)) f2.size) (RowIs.of_own r2 rfl) hkl)
          have HF2 := hide (HF1.out.trans f2)
          clear r2 f2
          go_wp2_with fail
          refine HSM.out.mono ?_
          rintro e W3 ⟨rfl, f3⟩
          have HF3 := hide (HF2.out.trans f3)
          clear f3
          go_wp2_with fail
          refine (HAW.out W3).mono ?_
          rintro e W4 ⟨rfl, hb4⟩
          have hb3 := HF3.out.below (B := wr.heap.size) (Nat.le_refl _) (by simp)
          have HEND : Hid (Below w.heap.size w W4) := hide (HWB.out.trans ((HBO.out.bl.trans ((hb3.mono HBO.out.bl.size).trans (hb4.mono (Nat.le_trans HBO.out.bl.size hb3.size)))).mono HWB.out.size))
          clear hb3 hb4
          go_wp2
          go_ret
          exact ⟨rfl, HEND.out⟩
        · skip
          go_wp2_with fail
          refine HRK.out.mono ?_
          rintro e W1 ⟨v1, rfl, r1, f1⟩
          have HR1 := hide r1
          have HF1 := hide f1
          have HRM1 := hide (HRM.out W1 f1)
          clear r1 f1
          go_wp2_with fail
          refine HRM1.out.mono ?_
          rintro e W2 ⟨v2, rfl, r2, f2⟩
          have HSM := hide (same_rows (HR1.out.keep (fun b hb => f2.block b hb (by simp)) f2.size) (RowIs.of_own r2 rfl) hkl)
          have HF2 := hide (HF1.out.trans f2)
          clear r2 f2
          go_wp2_with fail
          refine HSM.out.mono ?_
          rintro e W3 ⟨rfl, f3⟩
          have HF3 := hide (HF2.out.trans f3)
          clear f3
          go_wp2_with fail
          refine (HAW.out W3).mono ?_
          rintro e W4 ⟨rfl, hb4⟩
          have hb3 := HF3.out.below (B := wr.heap.size) (Nat.le_refl _) (by simp)
          have HEND : Hid (Below w.heap.size w W4) := hide (HWB.out.trans ((HBO.out.bl.trans ((hb3.mono HBO.out.bl.size).trans (hb4.mono (Nat.le_trans HBO.out.bl.size hb3.size)))).mono HWB.out.size))
          clear hb3 hb4
          go_wp2
          go_ret
          exact ⟨rfl, HEND.out⟩
    · have H0 : Hid (FPlRel wb m w1.heap.size x y s cpus (.int .i64 0) W4) := hide ⟨0, by omega, rfl, _, _, _, _, _, _, _, hb4⟩
      clear hb4 s0 s1 s2 s3 p0 p1
      go_wp2_with fail
      go_loopw [13] (fun v wr => FPlRel wb m w1.heap.size x y s cpus v wr) (fun v _ => 100 - (intOf v).toNat)
      case atStart => exact H0.out
      case round =>
        clear H0
        obtain ⟨i, hi, rfl, R, l, sv, gone, k, F5, G5, hb⟩ := hrel
        by_cases hlt : i < len ∧ i < 100
        · obtain ⟨hl1, hl2⟩ := hlt
          obtain ⟨b, o, dk, dkey, dval, dfl, dcpu, u, rfl, hbl, hu, d0, d1, d2, d3, d4, d5⟩ := HROW.out i hl1
          have hbw : Below w.heap.size w wr := HWB.out.trans (hb.bo.bl.mono HWB.out.size)
          have hk : ∀ j v, w.cell? ⟨b, j, none⟩ = some v → wr.cell? ⟨b, j, none⟩ = some v := fun j v h => by
            rw [World.cell?_of_block (w := w) (hbw.block b hbl)]; exact h
          replace d0 := hk _ _ d0
          replace d1 := hk _ _ d1
          replace d2 := hk _ _ d2
          replace d3 := hk _ _ d3
          replace d4 := hk _ _ d4
          replace d5 := hk _ _ d5
          have hi0 : (0 : Int) ≤ i := by omega
          have hi1 : (i : Int) < len := by omega
          have hi2 : (i : Int) < 100 := by omega
          have HDO := hide (fdo_calls hb dk dkey dval dfl dcpu u hu)
          unfold fdeedV at HDO
          clear hk hb hbw
          go_wp2_with fail
          refine HDO.out.mono ?_
          rintro e W5 ⟨rfl, R', l', sv', gone', k', F', G', h5⟩
          have HN : Hid (FPlRel wb m w1.heap.size x y s cpus (.int .i64 ((i : Int) + 1)) W5) := hide ⟨i + 1, by omega, by simp, _, _, _, _, _, _, _, h5⟩
          clear h5
          go_wp2
          exact ⟨HN.out, by show 100 - ((i : Int) + 1).toNat < 100 - ((i : Int)).toNat; omega⟩
        · have HBO := hide hb.bo
          clear hb
          obtain ⟨c, hkm, habs, hfoot⟩ := HBO.out.a
          obtain ⟨ls, sv0, hrm, hg⟩ := HBO.out.b
          have hasc : k.live.Pairwise fun x y => x.1 < y.1 := by rw [hrm.lv]; exact liveOf_asc ls 1
          have HRK := hide (regions_K m c wr hkm (L := k.live) (by rw [← habs]; rfl) hasc)
          have HRM := hide (fun W (hf : Fr [] [] wr W) => regions_R (hrm.frame (w' := W) (fun b hb => hf.block b (hrm.lt b hb) (by simp)) hf.size) HBO.out.a.wf)
          have hkl : k.live.length < 4294967296 := by have := HBO.out.a.wf.lv; omega
          clear hkm hrm hasc
          by_cases hst1 : (i : Int) < len
          · have hst2 : ¬ ((i : Int) < 100) := by omega
            clear hlt
            go_wp2_with fail
            refine HRK.out.mono ?_
            rintro e W1 ⟨v1, rfl, r1, f1⟩
            have HR1 := hide r1
            have HF1 := hide f1
            have HRM1 := hide (HRM.out W1 f1)
            clear r1 f1
            go_wp2_with fail
            refine HRM1.out.mono ?_
            rintro e W2 ⟨v2, rfl, r2, f2⟩
            have HSM := hide (same_rows (HR1.out.keep (fun b hb => f2.block b hb (by simp)) f2.size) (RowIs.of_own r2 rfl) hkl)
            have HF2 := hide (HF1.out.trans f2)
            clear r2 f2
            go_wp2_with fail
            refine HSM.out.mono ?_
            rintro e W3 ⟨rfl, f3⟩
            have HF3 := hide (HF2.out.trans f3)
            clear f3
            go_wp2_with fail
            refine (HAW.out W3).mono ?_
            rintro e W4 ⟨rfl, hb4⟩
            have hb3 := HF3.out.below (B := wr.heap.size) (Nat.le_refl _) (by simp)
            have HEND : Hid (Below w.heap.size w W4) := hide (HWB.out.trans ((HBO.out.bl.trans ((hb3.mono HBO.out.bl.size).trans (hb4.mono (Nat.le_trans HBO.out.bl.size hb3.size)))).mono HWB.out.size))
            clear hb3 hb4
            go_wp2
            go_ret
            exact ⟨rfl, HEND.out⟩
          · clear hlt
            go_wp2_with fail
            refine HRK.out.mono ?_
            rintro e W1 ⟨v1, rfl, r1, f1⟩
            have HR1 := hide r1
            have HF1 := hide f1
            have HRM1 := hide (HRM.out W1 f1)
            clear r1 f1
            go_wp2_with fail
            refine HRM1.out.mono ?_
            rintro e W2 ⟨v2, rfl, r2, f2⟩
            have HSM := hide (same_rows (HR1.out.keep (fun b hb => f2.block b hb (by simp)) f2.size) (RowIs.of_own r2 rfl) hkl)
            have HF2 := hide (HF1.out.trans f2)
            clear r2 f2
            go_wp2_with fail
            refine HSM.out.mono ?_
            rintro e W3 ⟨rfl, f3⟩
            have HF3 := hide (HF2.out.trans f3)
            clear f3
            go_wp2_with fail
            refine (HAW.out W3).mono ?_
            rintro e W4 ⟨rfl, hb4⟩
            have hb3 := HF3.out.below (B := wr.heap.size) (Nat.le_refl _) (by simp)
            have HEND : Hid (Below w.heap.size w W4) := hide (HWB.out.trans ((HBO.out.bl.trans ((hb3.mono HBO.out.bl.size).trans (hb4.mono (Nat.le_trans HBO.out.bl.size hb3.size)))).mono HWB.out.size))
            clear hb3 hb4
            go_wp2
            go_ret
            exact ⟨rfl, HEND.out⟩
theorem fplays_row {kd key v mx c0 c1 : Int} {w : World} {a : Option Addr} {len cap : Nat} (h : RowF w a len cap fdeedFs) :
    Calls Try.prog 7 #[.agg #[.int .i64 kd, .int .i64 key, .int .i64 v, .int .i64 mx], .agg #[.int .i64 c0, .int .i64 c1], .slice a len cap] w fun e W => e = .returned (.bool true) ∧ Below w.heap.size w W := by
  refine fplays_calls kd key v mx c0 c1 a len cap w (fun i hi => row_fdeeds h i hi) ?_
  rcases h with rfl | ⟨b, o, rfl, h1, h2, h3⟩
  · omega
  · exact Nat.le_trans h1 (Nat.le_trans h2 (by decide))
end Go.Proofs.Ytmgocjclopfeeaa
