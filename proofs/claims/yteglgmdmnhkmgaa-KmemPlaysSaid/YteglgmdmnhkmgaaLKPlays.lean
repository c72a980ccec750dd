/- KmemPlays: whatever the deeds, the program's memory and the reference's tell the same, and hold the same regions at the end; condition: the deeds lie in memory. -/
import Derived.Test.YteglgmdmnhkmgaaKRegs
import Derived.Test.YteglgmdmnhkmgaaKDo
import Derived.Test.YteglgmdmnhkmgaaKAwake
import Derived.Test.YteglgmdmnhkmgaaOpen
set_option linter.unusedVariables false
set_option linter.unusedSimpArgs false
namespace Go.Proofs.Yteglgmdmnhkmgaa
open Go.RowKit Go.MapKept
attribute [local go_sem high] eqReg

set_option maxRecDepth 100000 in
set_option maxHeartbeats 2000000 in
theorem same_rows {w : World} {v1 v2 : Value} {l : List (Nat × RA)} (h1 : RowIs w v1 l) (h2 : RowIs w v2 l) (hn : l.length < 4294967296) :
    Calls Try.prog 19 #[v1, v2] w fun e W => e = .returned (.bool true) ∧ Fr [] [] w W := by
  have hu := Try.underlying68
  obtain ⟨A1, k1, rfl, g1⟩ := h1
  obtain ⟨A2, k2, rfl, g2⟩ := h2
  have G1 := hide g1
  have G2 := hide g2
  obtain ⟨n, hln⟩ : ∃ n, l.length = n := ⟨_, rfl⟩
  have HL := hide hln
  rw [hln] at hn ⊢
  clear g1 g2 hln
  go_enter Try.func19, Try.ntmps19
  go_wp2_with fail
  go_loopw [5] (fun v wr => ∃ i : Nat, i ≤ n ∧ v = .int .i64 i ∧ Fr [] [] w wr) (fun v _ => n - (intOf v).toNat)
  case atStart => exact ⟨0, by omega, rfl, Fr.refl _ _⟩
  case round =>
    obtain ⟨i, hi, rfl, hf⟩ := hrel
    have HF := hide hf
    by_cases hlt : i < n
    · obtain ⟨y, hy⟩ : ∃ y, l[i]? = some y := ⟨l[i]'(by rw [HL.out]; exact hlt), List.getElem?_eq_getElem _⟩
      have h0 : 0 < l.length := by rw [HL.out]; omega
      obtain ⟨ga, rfl, la, ca⟩ := G1.out h0
      obtain ⟨gb, rfl, lb, cb⟩ := G2.out h0
      have ea : ∀ j, wr.cell? ⟨ga, j, none⟩ = w.cell? ⟨ga, j, none⟩ := fun j => by simp only [World.cell?]; rw [hf.block ga la (by simp)]
      have eb : ∀ j, wr.cell? ⟨gb, j, none⟩ = w.cell? ⟨gb, j, none⟩ := fun j => by simp only [World.cell?]; rw [hf.block gb lb (by simp)]
      obtain ⟨a0, a1, a2⟩ := ca i y hy
      obtain ⟨d0, d1, d2⟩ := cb i y hy
      rw [← ea] at a0 a1 a2
      rw [← eb] at d0 d1 d2
      have hi0 : (0 : Int) ≤ i := by omega
      have hi1 : (i : Int) < n := by omega
      clear ca cb hy hf ea eb la lb h0
      go_wp2_with fail
      go_region
      go_wp2
      exact ⟨⟨i + 1, by omega, by simp, HF.out.trans ⟨rfl, rfl, rfl, Nat.le_refl _, fun _ _ _ => rfl, fun _ h => .inl h⟩⟩, by show n - ((i : Int) + 1).toNat < n - ((i : Int)).toNat; omega⟩
    · obtain rfl : i = n := by omega
      go_wp2
      go_ret
      exact ⟨rfl, HF.out⟩
/-- The deeds of a row. -/
def DeedAt (w : World) (a : Option Addr) (i : Nat) : Prop := ∃ (b o : Nat) (kd n mm : Int) (at_ u : Nat) (s : ByteArray), a = some ⟨b, o, none⟩ ∧ b < w.heap.size ∧ at_ < 18446744073709551616 ∧ u < 18446744073709551616 ∧
  w.cell? ⟨b, o + i * 6, none⟩ = some (.int .i64 kd) ∧ w.cell? ⟨b, o + i * 6 + 1, none⟩ = some (.int .i64 n) ∧ w.cell? ⟨b, o + i * 6 + 2, none⟩ = some (.int .i64 mm) ∧ w.cell? ⟨b, o + i * 6 + 3, none⟩ = some (.int .u64 at_) ∧ w.cell? ⟨b, o + i * 6 + 4, none⟩ = some (.int .u64 u) ∧ w.cell? ⟨b, o + i * 6 + 5, none⟩ = some (.string s)
abbrev deedFs : List FK := [.int .i64, .int .i64, .int .i64, .int .u64, .int .u64, .str]
theorem u64_nat {n : Int} (h : (Lit.int .u64 n).wf = true) : ∃ m : Nat, n = m ∧ m < 18446744073709551616 := by
  simp [Lit.wf, IntKind.min, IntKind.max, IntKind.signed, IntKind.bits] at h
  exact ⟨n.toNat, by omega, by omega⟩
theorem row_deeds {w : World} {a : Option Addr} {len cap : Nat} (h : RowF w a len cap deedFs) (i : Nat) (hi : i < len) : DeedAt w a i := by
  rcases h with rfl | ⟨b, o, rfl, h1, h2, h3⟩
  · omega
  · obtain ⟨v0, c0, n0, rfl, _⟩ := h3 i hi 0 _ rfl
    obtain ⟨v1, c1, n1, rfl, _⟩ := h3 i hi 1 _ rfl
    obtain ⟨v2, c2, n2, rfl, _⟩ := h3 i hi 2 _ rfl
    obtain ⟨v3, c3, n3, rfl, f3⟩ := h3 i hi 3 _ rfl
    obtain ⟨v4, c4, n4, rfl, f4⟩ := h3 i hi 4 _ rfl
    obtain ⟨v5, c5, n5, rfl, _⟩ := h3 i hi 5 _ rfl
    obtain ⟨m3, rfl, l3⟩ := u64_nat f3
    obtain ⟨m4, rfl, l4⟩ := u64_nat f4
    exact ⟨b, o, n0, n1, n2, m3, m4, n5, rfl, World.block_lt_of_cell? _ _ c0, l3, l4, c0, c1, c2, c3, c4, c5⟩
def PlayRel (w : World) (m x : Nat) (v : Value) (wr : World) : Prop := ∃ i : Nat, i ≤ 300 ∧ v = .int .i64 i ∧ ∃ k F G, BoW w wr m x k F G ∧ k.made ≤ i
theorem RS.start (w : World) : RS (w.alloc (memO (.slice none 0 0) 0 0)) w.heap.size ⟨0, 0, []⟩ [w.heap.size] := by
  refine ⟨[], .slice none 0 0, ⟨heap_alloc_new w _, World.ownsRow_nil _ _ _ _, fun e he => by simp at he, fun e he => by simp at he, fun e he => by simp at he, ?_, rfl, rfl⟩, rfl⟩
  simp [rfoot, Value.ownBlock]
theorem bow_start {w w1 : World} {m : Nat} {F : List Nat} (h : KS w1 m ⟨0, 0, []⟩ F) (hf : Fr [] F w w1) : BoW w (w1.alloc (memO (.slice none 0 0) 0 0)) m w1.heap.size ⟨0, 0, []⟩ F [w1.heap.size] := by
  refine ⟨h.alloc _, RS.start w1, fun b hb hb2 => ?_, fun b hb => ?_, fun b hb => ?_, ?_⟩
  · simp at hb2; subst hb2; exact Nat.lt_irrefl _ (h.lt _ hb)
  · rcases hf.foot b hb with h2 | h2
    · simp at h2
    · exact h2
  · simp at hb; subst hb; exact hf.size
  · exact (hf.alloc _).below (Nat.le_refl _) (by simp)
set_option maxRecDepth 100000 in
set_option maxHeartbeats 4000000 in
theorem plays_calls (a : Option Addr) (len cap : Nat) (w : World) (hrow : ∀ i, i < len → DeedAt w a i) (hlen : len ≤ 9223372036854775807) :
    Calls Try.prog 6 #[.slice a len cap] w fun e W => e = .returned (.bool true) ∧ Below w.heap.size w W := by
  have HROW := hide hrow
  clear hrow
  go_enter Try.func6, Try.ntmps6
  go_wp2_with fail
  refine (new_S w).mono ?_
  rintro e w1 ⟨m, F, rfl, h1, f1⟩
  have HB0 := hide (bow_start h1 f1)
  unfold memO at HB0
  clear h1 f1
  have HS0 : Hid (PlayRel w m w1.heap.size (.int .i64 0) (w1.alloc (.cells #[.slice none 0 0, .int .i64 ((0 : Nat) : Int), .int .i64 ((0 : Nat) : Int)] 47))) := hide ⟨0, by omega, rfl, _, _, _, HB0.out, Nat.le_refl _⟩
  have HAW := hide (fun W => kawake W)
  generalize hx : w1.heap.size = x at HS0
  clear HB0
  go_wp2_with fail
  clear hx
  go_loopw [5] (fun v wr => PlayRel w m x v wr) (fun v _ => 300 - (intOf v).toNat)
  case atStart => exact HS0.out
  case round =>
    obtain ⟨i, hi, rfl, k, F, G, hb, hmd⟩ := hrel
    have HB := hide hb
    clear HS0
    by_cases hlt : i < len ∧ i < 300
    · obtain ⟨hl1, hl2⟩ := hlt
      obtain ⟨b, o, kd, n, mm, at_, u, s, rfl, hbl, hat, hu, c0, c1, c2, c3, c4, c5⟩ := HROW.out i hl1
      have hk : ∀ j v, w.cell? ⟨b, j, none⟩ = some v → wr.cell? ⟨b, j, none⟩ = some v := fun j v h => by
        rw [World.cell?_of_block (w := w) (hb.bl.block b hbl)]; exact h
      replace c0 := hk _ _ c0
      replace c1 := hk _ _ c1
      replace c2 := hk _ _ c2
      replace c3 := hk _ _ c3
      replace c4 := hk _ _ c4
      replace c5 := hk _ _ c5
      have hi0 : (0 : Int) ≤ i := by omega
      have hi1 : (i : Int) < len := by omega
      have hi2 : (i : Int) < 300 := by omega
      have HB2 := hide (hb.frame ((Fr.refl [] wr).alloc (deedO kd n mm at_ u s)))
      have HD := hide (heap_alloc_new wr (deedO kd n mm at_ u s))
      obtain ⟨d0, d1, d2, d3, d4, d5⟩ := deed_cells HD.out
      have HDO := hide (do_calls HB2.out (by omega) kd n mm at_ u s hat hu)
      have HSK : Hid (PlayRel w m x (.int .i64 ((i : Int) + 1)) (wr.alloc (deedO kd n mm at_ u s))) := hide ⟨i + 1, by omega, by simp, _, _, _, HB2.out, by omega⟩
      unfold deedO at *
      unfold deedV at HDO
      clear hk hb
      by_cases hskip : kd = 0 ∧ 5000 < n ∧ n ≤ 1048576
      · obtain ⟨rfl, e1, e2⟩ := hskip
        go_wp2
        exact ⟨HSK.out, by show 300 - ((i : Int) + 1).toNat < 300 - ((i : Int)).toNat; omega⟩
      · have hsk : kd ≠ 0 ∨ n ≤ 5000 ∨ 1048576 < n := by omega
        clear hskip
        have HDO2 : Hid (∀ W, W = wr.alloc (.cells #[.int .i64 kd, .int .i64 n, .int .i64 mm, .int .u64 at_, .int .u64 u, .string s] 49) → Calls Try.prog 18 #[.pointer (some ⟨m, 0, none⟩), .pointer (some ⟨x, 0, none⟩), .agg #[.int .i64 kd, .int .i64 n, .int .i64 mm, .int .u64 at_, .int .u64 u, .string s]] W (DoPost w m x k)) := hide fun W hW => hW ▸ HDO.out
        by_cases hk0 : kd = 0
        · subst hk0
          have hsk2 : n ≤ 5000 ∨ 1048576 < n := by omega
          clear hsk
          rcases hsk2 with hsk | hsk
          all_goals
            go_wp2_with fail
            refine HDO.out.mono ?_
            rintro e W2 ⟨rfl, k', F', G', h2, hm2⟩
            have HN : Hid (PlayRel w m x (.int .i64 ((i : Int) + 1)) W2) := hide ⟨i + 1, by omega, by simp, _, _, _, h2, by omega⟩
            clear h2 hm2
            go_wp2
            exact ⟨HN.out, by show 300 - ((i : Int) + 1).toNat < 300 - ((i : Int)).toNat; omega⟩
        · clear hsk
          go_wp2_with fail
          refine HDO.out.mono ?_
          rintro e W2 ⟨rfl, k', F', G', h2, hm2⟩
          have HN : Hid (PlayRel w m x (.int .i64 ((i : Int) + 1)) W2) := hide ⟨i + 1, by omega, by simp, _, _, _, h2, by omega⟩
          clear h2 hm2
          go_wp2
          exact ⟨HN.out, by show 300 - ((i : Int) + 1).toNat < 300 - ((i : Int)).toNat; omega⟩
    · obtain ⟨c, hkm, habs, hfoot⟩ := hb.a
      obtain ⟨ls, sv, hrm, hg⟩ := hb.b
      have hasc : k.live.Pairwise fun x y => x.1 < y.1 := by rw [hrm.lv]; exact liveOf_asc ls 1
      have HRK := hide (regions_K m c wr hkm (L := k.live) (by rw [← habs]; rfl) hasc)
      have HRM := hide (fun W (hf : Fr [] [] wr W) => regions_R (hrm.frame (w' := W) (fun b hb => hf.block b (hrm.lt b hb) (by simp)) hf.size) hb.a.wf)
      have hkl : k.live.length < 4294967296 := by have := hb.a.wf.lv; omega
      have hst : ¬ ((i : Int) < len) ∨ ¬ ((i : Int) < 300) := by omega
      have hi3 : (0 : Int) ≤ i := by omega
      clear hkm hrm hasc hb
      by_cases hst1 : (i : Int) < len
      · have hst2 : ¬ ((i : Int) < 300) := by omega
        clear hst hlt
        go_wp2_with fail
        refine HRK.out.mono ?_
        rintro e W1 ⟨v1, rfl, r1, f1⟩
        have HR1 := hide r1
        have HF1 := hide f1
        have HRM1 := hide (HRM.out W1 f1)
        clear r1 f1
        go_wp2_with fail
        refine HRM1.out.mono ?_
        rintro e W2 ⟨v2, rfl, r2, f2⟩
        have HSM := hide (same_rows (HR1.out.keep (fun b hb => f2.block b hb (by simp)) f2.size) (RowIs.of_own r2 rfl) hkl)
        have HF2 := hide (HF1.out.trans f2)
        clear r2 f2
        go_wp2_with fail
        refine HSM.out.mono ?_
        rintro e W3 ⟨rfl, f3⟩
        have HF3 := hide (HF2.out.trans f3)
        clear f3
        go_wp2_with fail
        refine (HAW.out W3).mono ?_
        rintro e W4 ⟨rfl, hb4⟩
        have hb3 := HF3.out.below (B := wr.heap.size) (Nat.le_refl _) (by simp)
        have HEND : Hid (Below w.heap.size w W4) := hide (HB.out.bl.trans ((hb3.mono HB.out.bl.size).trans (hb4.mono (Nat.le_trans HB.out.bl.size hb3.size))))
        clear hb3 hb4
        go_wp2
        go_ret
        exact ⟨rfl, HEND.out⟩
      · clear hst hlt
        go_wp2_with fail
        refine HRK.out.mono ?_
        rintro e W1 ⟨v1, rfl, r1, f1⟩
        have HR1 := hide r1
        have HF1 := hide f1
        have HRM1 := hide (HRM.out W1 f1)
        clear r1 f1
        go_wp2_with fail
        refine HRM1.out.mono ?_
        rintro e W2 ⟨v2, rfl, r2, f2⟩
        have HSM := hide (same_rows (HR1.out.keep (fun b hb => f2.block b hb (by simp)) f2.size) (RowIs.of_own r2 rfl) hkl)
        have HF2 := hide (HF1.out.trans f2)
        clear r2 f2
        go_wp2_with fail
        refine HSM.out.mono ?_
        rintro e W3 ⟨rfl, f3⟩
        have HF3 := hide (HF2.out.trans f3)
        clear f3
        go_wp2_with fail
        refine (HAW.out W3).mono ?_
        rintro e W4 ⟨rfl, hb4⟩
        have hb3 := HF3.out.below (B := wr.heap.size) (Nat.le_refl _) (by simp)
        have HEND : Hid (Below w.heap.size w W4) := hide (HB.out.bl.trans ((hb3.mono HB.out.bl.size).trans (hb4.mono (Nat.le_trans HB.out.bl.size hb3.size))))
        clear hb3 hb4
        go_wp2
        go_ret
        exact ⟨rfl, HEND.out⟩
theorem plays_row {w : World} {a : Option Addr} {len cap : Nat} (h : RowF w a len cap deedFs) :
    Calls Try.prog 6 #[.slice a len cap] w fun e W => e = .returned (.bool true) ∧ Below w.heap.size w W := by
  refine plays_calls a len cap w (fun i hi => row_deeds h i hi) ?_
  rcases h with rfl | ⟨b, o, rfl, h1, h2, h3⟩
  · omega
  · exact Nat.le_trans h1 (Nat.le_trans h2 (by decide))
end Go.Proofs.Yteglgmdmnhkmgaa
