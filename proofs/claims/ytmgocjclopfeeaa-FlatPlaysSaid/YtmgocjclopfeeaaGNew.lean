/- Contract of the reference's New of an array where the spec may be: all allocations go well, or one fails and what was made is freed; condition: the memory is held. -/
import Derived.Test.YtmgocjclopfeeaaGMay
import Derived.Test.YtmgocjclopfeeaaGFree
import Derived.Test.YtmgocjclopfeeaaFNewF
set_option linter.unusedVariables false
set_option linter.unusedSimpArgs false
namespace Go.Proofs.Ytmgocjclopfeeaa
open Go.RowKit Go.MapKept

theorem K.undU64s : Try.prog.underlying 65 = some (.slice 33) := by kernel_rfl
theorem gmap_at {w : World} {y n : Nat} {s : FSpec} {cpus : Int} {sv : Value} {gone : Bool} (h : w.heap[y]? = some (gmapO n s cpus sv gone)) (v' : Value) : (w.setCell ⟨y, 6, none⟩ v').heap[y]? = some (gmapO n s cpus v' gone) := by
  unfold gmapO at h ⊢
  exact heap_setCell_same h
/-- A block that was made behind w need not be counted. -/
theorem Fr.made {F F1 F2 : List Nat} {w w1 w2 : World} {y : Nat} (h : Fr F F1 w w1) (g : Fr (y :: F1) (y :: F2) w1 w2) (hy : w.heap.size ≤ y) : Fr F F2 w w2 where
  os := g.os.trans h.os
  tape := g.tape.trans h.tape
  output := g.output.trans h.output
  size := Nat.le_trans h.size g.size
  block := fun k hk hn => by
    rw [g.block k (Nat.lt_of_lt_of_le hk h.size) (fun e => by
      rcases List.mem_cons.1 e with rfl | e
      · omega
      · rcases h.foot k e with h1 | h1
        · exact hn h1
        · omega)]
    exact h.block k hk hn
  foot := fun k hk => by
    rcases g.foot k (List.mem_cons_of_mem _ hk) with h1 | h1
    · rcases List.mem_cons.1 h1 with rfl | h1
      · exact .inr hy
      · exact h.foot k h1
    · exact .inr (Nat.le_trans h.size h1)
def GNRel (w : World) (n : Nat) (s : FSpec) (cpus : Int) (G : List Nat) (A : Nat → KA) (ad : Nat → Nat) (y : Nat) (j : Nat) (wr : World) : Prop :=
  ∃ G' sv, RS wr n (A j) G' ∧ Fr G G' w wr ∧ GM wr y n s cpus ((List.range j).map ad) sv false ∧ (∀ b ∈ gfoot y sv, b ∉ G' ∧ w.heap.size < b) ∧ wr.heap[w.heap.size]? = some (boxK s.kind s.value s.max) ∧ w.heap.size ∉ G'
def GNPost (w : World) (n : Nat) (G : List Nat) (s : FSpec) (cpus er : Int) (l : List Nat) (ko kf : KA) (ok : Prop) (e : Ending) (w' : World) : Prop :=
  (ok ∧ ∃ y sv G', e = .returned (.tuple #[.pointer (some ⟨y, 0, none⟩), .int .i64 0]) ∧ GM w' y n s cpus l sv false ∧ RS w' n ko G' ∧ (∀ b ∈ gfoot y sv, b ∉ G' ∧ w.heap.size < b) ∧ Fr G G' w w') ∨
  (¬ ok ∧ ∃ G', e = .returned (.tuple #[.pointer none, .int .i64 er]) ∧ RS w' n (ffrees l kf) G' ∧ Fr G G' w w')
set_option maxRecDepth 100000 in
set_option maxHeartbeats 4000000 in
theorem gnew_calls {w : World} {n v mx N cpus J : Nat} {kd : Int} {G : List Nat} (A : Nat → KA) (ad : Nat → Nat) (a' : Nat) (er : Int) (kf : KA) (hk : RS w n (A 0) G) (hwf : ∀ j, j ≤ J → WF (A j)) (hwu : WU kf) (hN : (kd = 2 ∧ N = 1) ∨ (kd = 6 ∧ N = cpus)) (hc : 1 ≤ cpus ∧ cpus ≤ 8) (hv : 1 ≤ v ∧ v ≤ 4096) (hn : 1 ≤ mx ∧ mx ≤ 4096) (hs : mx * fwide v ≤ 1048576)
    (hJ : J ≤ N) (hm : ∀ j, j < N → (A j).made + 1 < 4294967296) (ha : ∀ j, j < J → (A j).alloc (mx * fwide v : Nat) 3 = (ad j, 0, A (j + 1))) (he : J < N → (A J).alloc (mx * fwide v : Nat) 3 = (a', er, kf) ∧ er ≠ 0) (hal : ∀ a ∈ (List.range J).map ad, a < 9223372036854775808) :
    Calls Try.prog 20 #[.pointer (some ⟨n, 0, none⟩), .agg #[.int .i64 kd, .int .i64 4, .int .i64 v, .int .i64 mx], .int .i64 cpus] w (GNPost w n G ⟨kd, v, mx⟩ cpus er ((List.range J).map ad) (A J) kf (J = N)) := by
  have HW := fun w => hide (Wide_calls v hv.2 w)
  have hb1 : (1 : Int) ≤ v := by omega
  have hb2 : (v : Int) ≤ 4096 := by omega
  have hb3 : (1 : Int) ≤ mx := by omega
  have hb4 : (mx : Int) ≤ 4096 := by omega
  have hfw := fwide_le v hv.2
  have hp : ((mx : Int) * (fwide v : Nat)) ≤ 1048576 := by rw [← Int.natCast_mul]; omega
  have HMAY : ∀ W, Hid (Calls Try.prog 32 #[.agg #[.int .i64 kd, .int .i64 4, .int .i64 v, .int .i64 mx], .int .i64 cpus] W (BoolPost W true)) := fun W => hide (May_yes ⟨by rcases hN with h | h; exact .inl h.1; exact .inr h.1, rfl, hb1, hb2, hb3, hb4, by omega, by omega, by rw [Int.toNat_natCast]; exact hp⟩ W)
  have HA : ∀ j, j < J → ∀ W z F, RS W n (A j) F → z = ((mx * fwide v : Nat) : Int) → Hid (Calls Try.prog 33 #[.pointer (some ⟨n, 0, none⟩), .int .i64 z, .int .i64 3] W (RPostS n F W (.tuple #[.int .u64 (ad j), .int .i64 0]) (A (j + 1)))) := fun j hj W z F hW hz =>
    hide (by subst hz; exact alloc_R hW (hwf j (by omega)) (hm j (by omega)) (ha j hj))
  have HB : J < N → ∀ W z F, RS W n (A J) F → z = ((mx * fwide v : Nat) : Int) → Hid (Calls Try.prog 33 #[.pointer (some ⟨n, 0, none⟩), .int .i64 z, .int .i64 3] W (RPostS n F W (.tuple #[.int .u64 a', .int .i64 er]) kf)) := fun hj W z F hW hz =>
    hide (by subst hz; exact alloc_R hW (hwf J (Nat.le_refl _)) (hm J hj) (he hj).1)
  have hp1 : wrap64 ((mx : Int) * (fwide v : Nat)) = ((mx * fwide v : Nat) : Int) := by rw [Int.natCast_mul]; unfold wrap64; omega
  have hp2 : IntKind.i64.wrap ((mx : Int) * (fwide v : Nat)) = ((mx * fwide v : Nat) : Int) := by rw [IntWalk.i64_left]; exact hp1
  have hp1 := hide hp1
  have hp2 := hide hp2
  have HAL := hide hal
  have HER := hide (fun hj => (he hj).2)
  have HWU := hide hwu
  have HV := hide (And.intro hv hn)
  obtain ⟨hc1, hc2⟩ := hc
  have hc1' : (1 : Int) ≤ cpus := by omega
  have hc2' : (cpus : Int) ≤ 8 := by omega
  have hN8 : N ≤ 8 := by omega
  clear hm ha hal he hwf hwu hv hn
  obtain ⟨i0, hi, hz0, hz1, hz2⟩ := info_parts K.info64
  have HBX := hide (boxK_new w kd v mx)
  have HK := hide hk
  have hwG := hide (show w.heap.size ∉ G from fun hf => Nat.lt_irrefl _ (hk.lt _ hf))
  clear hk
  obtain ⟨NN, hNN⟩ : ∃ NN, NN = N := ⟨_, rfl⟩
  replace hN : (kd = 2 ∧ N = 1) ∨ (kd = 6 ∧ cpus = N) := hN.imp id fun h => ⟨h.1, h.2.symm⟩
  rcases hN with ⟨rfl, rfl⟩ | ⟨rfl, rfl⟩
  all_goals
    go_enter Try.func20, Try.ntmps20
    go_wp2_with fail
    refine (HMAY _).out.mono ?_
    rintro e w1 ⟨rfl, f1⟩
    have hsz1 : w.heap.size < w1.heap.size := by have := f1.size; rwa [World.size_alloc] at this
    have hbx1 := f1.block w.heap.size (by rw [World.size_alloc]; omega) (by simp)
    rw [HBX.out] at hbx1
    have hr1 := (HK.out.fr ((Fr.refl [] w).alloc (.cells #[.int .i64 _, .int .i64 4, .int .i64 v, .int .i64 mx] 29))).fr f1
    have hf1 := ((Fr.refl G w).alloc _).more f1
    obtain ⟨c0, c1, c2, c3⟩ := boxK_cells hbx1
    have H0 := hide (show GNRel w n ⟨_, v, mx⟩ cpus G A ad w1.heap.size 0 (w1.alloc (.cells #[.pointer (some ⟨n, 0, none⟩), .int .i64 _, .int .i64 4, .int .i64 v, .int .i64 mx, .int .i64 cpus, .slice none 0 0, .bool false] 87)) from
      ⟨G, .slice none 0 0, hr1.fr ((Fr.refl [] w1).alloc _), hf1.alloc _, ⟨heap_alloc_new _ _, World.ownsRow_nil _ _ _ _, (fun g hg => by cases hg), HV.out.1, HV.out.2, (fun a ha => by simp at ha), Nat.zero_le _⟩,
        fun b hb => by
          have e : b = w1.heap.size := by simpa [gfoot, Value.ownBlock] using hb
          subst e
          exact ⟨fun hf => by have := HK.out.lt _ hf; omega, hsz1⟩,
        heap_alloc_some hbx1, hwG.out⟩)
    clear hbx1 hr1 hf1 f1
    go_wp2_with fail
    go_loopw [10] (fun i wr => ∃ j : Nat, j ≤ J ∧ i = .int .i64 j ∧ GNRel w n ⟨_, v, mx⟩ cpus G A ad w1.heap.size j wr) (fun i _ => J + 1 - (intOf i).toNat)
    case atStart => exact ⟨0, Nat.zero_le _, rfl, H0.out⟩
    case round =>
      clear H0 c0 c1 c2 c3
      obtain ⟨j, hj, rfl, G1, sv, hk1, hf1, hgm, hft, hst1, hni⟩ := hrel
      obtain ⟨c0, c1, c2, c3⟩ := boxK_cells hst1
      obtain ⟨e0, e1, e2, e3, e4, e5, e6, e7, efz⟩ := hgm.cells
      have HR := hide hk1
      have HF := hide hf1
      have HG := hide hgm
      have HFT := hide hft
      have HS := hide (And.intro hst1 hni)
      by_cases hlt : j < J
      · have HAj : Hid (∀ W z, Same wr W → z = ((mx * fwide v : Nat) : Int) → Calls Try.prog 33 #[.pointer (some ⟨n, 0, none⟩), .int .i64 z, .int .i64 3] W (RPostS n G1 W (.tuple #[.int .u64 (ad j), .int .i64 0]) (A (j + 1)))) := hide fun W z hW hz =>
          (HA j hlt W z G1 (HR.out.frame (fun b _ => by rw [hW.heap]) (by rw [hW.heap]; exact Nat.le_refl _)) hz).out
        (try have hjn1 : (j : Int) < 1 := by omega)
        (try have hjn2 : (j : Int) < (cpus : Nat) := by omega)
        clear HA HB hk1 hf1 hgm hft hst1 hni
        go_wp2_with fail
        go_region_with (first | (go_at_call 34; refine (HW _).out.mono ?_; rintro e w' ⟨rfl, rfl⟩) | (go_at_call 33; refine (HAj.out _ _ ?_ ?_).mono ?_; exact ⟨rfl, rfl, rfl, rfl⟩; (first | exact (Int.natCast_mul _ _).symm | exact hp1.out | exact hp2.out); rintro e w2 ⟨G2, rfl, hk2, f2⟩))
        all_goals
          have f2' : Fr G1 G2 wr w2 := ⟨f2.os, f2.tape, f2.output, f2.size, f2.block, f2.foot⟩
          have hgm2 := HG.out.fr f2' (fun b hb => (HFT.out b hb).1)
          have hft2 : ∀ b ∈ gfoot w1.heap.size sv, b ∉ G2 ∧ w.heap.size < b := fun b hb => ⟨f2'.notin (HG.out.lt b hb) (HFT.out b hb).1, (HFT.out b hb).2⟩
          have HG2 := hide hgm2
          have HFT2 := hide hft2
          have HR2 := hide hk2
          have HF2 := hide (HF.out.trans f2')
          have HS2 := hide (And.intro (f2'.keep HS.out.1 HS.out.2) (f2'.notin (lt_of_heap HS.out.1) HS.out.2))
          have HO : w2.ownsRow 0 33 1 sv j ((List.range j).map fun i => Value.int .u64 (ad i)) := by
            have := hgm2.own
            rwa [List.length_map, List.length_range, List.map_map] at this
          clear e0 e1 e2 e3 e4 e5 e6 e7 efz c0 c1 c2 c3 f2 f2' hk2 hft2
          obtain ⟨e0, e1, e2, e3, e4, e5, e6, e7, efz⟩ := hgm2.cells
          clear hgm2
          go_wp2_with (at_builtin; refine wpList_append_own_at _ rfl _ _ 65 rfl 0 33 i0 (.int .u64 0) 1 8 K.undU64s hi hz0 hz1 hz2 rfl (by decide) _ _ _ rfl (HO.alloc _) ⟨w2.heap.size, 0, none⟩ 1 1 [.int .u64 (ad j)] rfl rfl (cell_one_new _ _ _) ?c1 ?c2 ?c3 (Nat.zero_le _) ?_)
          case c1 => simp [Value.oneCell']
          case c2 => unfold maxLen; omega
          case c3 => omega
          intro v' w6 hown' hgrow hnil hat
          obtain ⟨g6, cap6, hv6⟩ : ∃ g c, v' = .slice (some ⟨g, 0, none⟩) (j + 1) c := by
            rcases hown'.2 with ⟨_, hz⟩ | ⟨g, cap, cur, hv, _⟩
            · omega
            · exact ⟨g, cap, hv⟩
          have hyl := lt_of_heap HG2.out.hy
          have hk6 : ∀ b, b < w2.heap.size → sv.ownBlock ≠ some b → w6.heap[b]? = w2.heap[b]? := fun b hb hne => by
            rw [hgrow.block b (by rw [World.size_alloc]; omega) (fun e => hne e.symm)]
            exact Below.heap_alloc _ _ _ hb
          have hvy : ∀ g, v'.ownBlock = some g → g ≠ w1.heap.size ∧ g ∉ G2 ∧ w.heap.size < g := fun g hg => by
            rcases hat with hat | hat
            · rw [hg] at hat
              have hm : g ∈ gfoot w1.heap.size sv := by simp [gfoot, ← hat]
              exact ⟨HG2.out.ne g hat.symm, HFT2.out g hm⟩
            · rw [hg] at hat
              have hg' : g = w2.heap.size + 1 := by simpa using hat
              have := HF2.out.size
              exact ⟨by omega, fun hf => by have := HR2.out.lt g hf; omega, by omega⟩
          have hy6 : w6.heap[w1.heap.size]? = some (gmapO n _ cpus sv false) := (hk6 _ hyl fun e => HG2.out.ne _ e rfl).trans HG2.out.hy
          have k6 : w6.cell? ⟨w1.heap.size, 6, none⟩ = some sv ∧ w6.frozen? ⟨w1.heap.size, 6, none⟩ = false := by
            have := hy6
            unfold gmapO at this
            exact ⟨rk_cell this 6, rk_frozen this 6⟩
          have HN : Hid (GNRel w n ⟨_, v, mx⟩ cpus G A ad w1.heap.size (j + 1) (w6.setCell ⟨w1.heap.size, 6, none⟩ v')) := hide (by
            have hyG : w1.heap.size ∉ G2 := (HFT2.out _ (by simp [gfoot])).1
            have hgf : ∀ b ∈ gfoot w1.heap.size v', b ∉ G2 ∧ w.heap.size < b := fun b hb => by
              simp only [gfoot, List.mem_cons, Option.mem_toList] at hb
              rcases hb with rfl | hb
              · exact HFT2.out _ (by simp [gfoot])
              · exact (hvy b hb).2
            refine ⟨G2, v', ?_, ?_, ⟨gmap_at hy6 v', ?_, fun g hg => (hvy g hg).1, HV.out.1, HV.out.2, ?_, by rw [List.length_map, List.length_range]; omega⟩, hgf, ?_, HS2.out.2⟩
            · refine HR2.out.frame (fun b hb => ?_) (by have := hgrow.size; rw [World.size_alloc] at this; simp only [World.setCell, Array.size_modify]; omega)
              rw [setCell_other (fun e => hyG (by have e2 : b = w1.heap.size := e; exact e2 ▸ hb))]
              exact hk6 b (HR2.out.lt b hb) fun e => by
                have hm : b ∈ gfoot w1.heap.size sv := by simp [gfoot, e]
                exact (HFT2.out b hm).1 hb
            · refine ((HF2.out.alloc _).own hgrow (fun b hb => ?_)).made (y := w1.heap.size) (fr_store (List.mem_cons_self ..)) (by omega)
              have hm : b ∈ gfoot w1.heap.size sv := by simp [gfoot, hb]
              have := (HFT2.out b hm).2
              omega
            · have e1 : (((List.range (j + 1)).map ad).map fun (a : Nat) => Value.int .u64 a) = (List.range j).map (fun i => Value.int .u64 (ad i)) ++ [.int .u64 (ad j)] := by
                rw [List.range_succ, List.map_map]; simp
              rw [e1, List.length_map, List.length_range]
              exact ownsRow_keep hown' fun g hg => setCell_other (hvy g hg).1
            · intro a ha
              obtain ⟨i, hi2, rfl⟩ := List.mem_map.1 ha
              exact HAL.out _ (List.mem_map_of_mem (List.mem_range.2 (by have := List.mem_range.1 hi2; omega)))
            · rw [setCell_other (by show w.heap.size ≠ w1.heap.size; omega)]
              rw [hk6 _ (lt_of_heap HS2.out.1) fun e => by
                have hm : w.heap.size ∈ gfoot w1.heap.size sv := by simp [gfoot, e]
                have := (HFT2.out _ hm).2
                omega]
              exact HS2.out.1)
          obtain ⟨k6, k7⟩ := k6
          subst hv6
          clear hown' hgrow hnil hat hk6 hvy hy6 HO hyl e0 e1 e2 e3 e4 e5 e6 e7 efz
          go_wp2
          exact ⟨⟨j + 1, by omega, by go_num, HN.out⟩, by simp [intOf]; omega⟩
      · obtain rfl : j = J := by omega
        by_cases hjN : j < NN
        · have HBj : Hid (∀ W z, Same wr W → z = ((mx * fwide v : Nat) : Int) → Calls Try.prog 33 #[.pointer (some ⟨n, 0, none⟩), .int .i64 z, .int .i64 3] W (RPostS n G1 W (.tuple #[.int .u64 a', .int .i64 er]) kf)) := hide fun W z hW hz =>
            (HB (by omega) W z G1 (HR.out.frame (fun b _ => by rw [hW.heap]) (by rw [hW.heap]; exact Nat.le_refl _)) hz).out
          have heb : (er != 0) = true := by simpa using HER.out (by omega)
          (try have hjn1 : (j : Int) < 1 := by omega)
          (try have hjn2 : (j : Int) < (cpus : Nat) := by omega)
          clear HA HB hk1 hf1 hgm hft hst1 hni
          go_wp2_with fail
          go_region_with (first | (go_at_call 34; refine (HW _).out.mono ?_; rintro e w' ⟨rfl, rfl⟩) | (go_at_call 33; refine (HBj.out _ _ ?_ ?_).mono ?_; exact ⟨rfl, rfl, rfl, rfl⟩; (first | exact (Int.natCast_mul _ _).symm | exact hp1.out | exact hp2.out); rintro e w2 ⟨G2, rfl, hk2, f2⟩))
          all_goals
            have f2' : Fr G1 G2 wr w2 := ⟨f2.os, f2.tape, f2.output, f2.size, f2.block, f2.foot⟩
            have hgm2 := HG.out.fr f2' (fun b hb => (HFT.out b hb).1)
            have HFR := hide (gfree_calls hgm2 hk2 HWU.out (fun b hb => f2'.notin (HG.out.lt b hb) (HFT.out b hb).1))
            have HF2 := hide (HF.out.trans f2')
            clear e0 e1 e2 e3 e4 e5 e6 e7 efz c0 c1 c2 c3 f2 f2' hk2 hgm2
            go_wp2_with fail
            refine HFR.out.mono ?_
            rintro e w3 ⟨G3, rfl, r3, -, -, f3⟩
            have HE : Hid (∀ (kq : Int) (P : Prop), ¬ P → GNPost w n G ⟨kq, v, mx⟩ cpus er ((List.range j).map ad) (A j) kf P (.returned (.tuple #[.pointer none, .int .i64 er])) w3) := hide fun _ P hP => .inr ⟨hP, G3, rfl, r3, HF2.out.made f3 (by omega)⟩
            clear r3 f3
            go_wp2
            go_ret2
            exact HE.out _ _ (by omega)
        · have HE : Hid (∀ P : Prop, P → GNPost w n G ⟨_, v, mx⟩ cpus er ((List.range j).map ad) (A j) kf P (.returned (.tuple #[.pointer (some ⟨w1.heap.size, 0, none⟩), .int .i64 0])) wr) := hide fun P hP => .inl ⟨hP, w1.heap.size, sv, G1, rfl, HG.out, HR.out, HFT.out, HF.out⟩
          (try have hjn1 : ¬ (j : Int) < 1 := by omega)
          (try have hjn2 : ¬ (j : Int) < (cpus : Nat) := by omega)
          clear HA HB hk1 hf1 hgm hft hst1 hni e0 e1 e2 e3 e4 e5 e6 e7 efz c0 c1 c2 c3
          go_wp2
          go_ret2
          exact HE.out _ (by omega)
end Go.Proofs.Ytmgocjclopfeeaa
