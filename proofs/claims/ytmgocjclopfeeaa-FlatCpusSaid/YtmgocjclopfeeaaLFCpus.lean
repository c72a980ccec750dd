/- The law FlatCpus computes true for every argument and leaves old memory alone; no condition. -/
import Derived.Test.YtmgocjclopfeeaaFPure3
import Derived.Test.YtmgocjclopfeeaaFWalk8
set_option linter.unusedVariables false
set_option linter.unusedSimpArgs false
namespace Go.Proofs.Ytmgocjclopfeeaa
open Go.RowKit Go.MapKept
open Go.ChangeMaps (setBlock)

theorem update_own_one {w : World} {x m : Nat} {s : FSpec} {k : KA} {F : List Nat} {g cap : Nat} {l : List Nat} (h : FM w x m s (.own g cap l)) (hk : KS w m k F) (hd : x ∉ F) (hdg : g ∉ F) (key value : ByteArray) (fl : Int) (c a i : Nat) (hc : l[c]? = some a)
    (hf : findex key = i) (hi : i < s.max) (hv : value.size = s.value) (h0 : 0 ≤ fl) (h2 : fl ≤ 2) (h1 : fl ≠ 1) :
    Calls Try.prog 13 #[.pointer (some ⟨x, 0, none⟩), .string key, .string value, .int .i64 fl, .int .i64 c] w (FPost m F w (.int .i64 0) (fputs s i (nats value) [a] k)) := by
  refine update_own_go h hk hd hdg key value fl c i w.heap.size 1 [a] (fun w1 hs => ?_) (fun hf => Nat.lt_irrefl _ (hk.lt _ hf)) (fun a' ha' => ?_) (by simp) hf hi hv h0 h2 h1
  · have hcl : c < l.length := by
      rw [List.getElem?_eq_some_iff] at hc
      exact hc.1
    have hsz : w1.heap.size = w.heap.size := by rw [hs.heap]
    refine (own_each_one _ c a true w1 (by omega) (own_base_yes g l.length cap c a w1 hcl ((h.same hs).ownCells c a hc))).mono ?_
    rintro e w' ⟨rfl, rfl⟩
    refine ⟨by rw [hsz]; rfl, (Fr.refl [] w1).alloc _, fun j b hj => ?_⟩
    rw [← hsz]
    cases j with
    | zero =>
      simp at hj
      subst hj
      simp only [World.cell?, heap_alloc_new]; rfl
    | succ j => simp at hj
  · simp at ha'
    subst ha'
    exact h.ad _ (List.mem_of_getElem? hc)
theorem update_own_all {w : World} {x m : Nat} {s : FSpec} {k : KA} {F : List Nat} {g cap : Nat} {l : List Nat} (h : FM w x m s (.own g cap l)) (hk : KS w m k F) (hd : x ∉ F) (hdg : g ∉ F) (key value : ByteArray) (fl : Int) (i : Nat)
    (hf : findex key = i) (hi : i < s.max) (hv : value.size = s.value) (h0 : 0 ≤ fl) (h2 : fl ≤ 2) (h1 : fl ≠ 1) :
    Calls Try.prog 13 #[.pointer (some ⟨x, 0, none⟩), .string key, .string value, .int .i64 fl, .int .i64 (-1)] w (FPost m F w (.int .i64 0) (fputs s i (nats value) l k)) := by
  obtain ⟨-, -, -, hl8, -⟩ := h.own g cap l rfl
  refine update_own_go h hk hd hdg key value fl (-1) i g cap l (fun w1 hs => ?_) hdg h.ad hl8 hf hi hv h0 h2 h1
  refine (own_each_all _ w1).mono ?_
  rintro e w' ⟨rfl, rfl⟩
  exact ⟨rfl, Fr.refl [] w1, fun j b hj => (h.same hs).ownCells j b hj⟩
theorem flookup_own (v M i c a : Nat) (g cap : Nat) (l : List Nat) (key : ByteArray) (hf : findex key = i) (h : i < M) (hc : l[c]? = some a) : flookup ⟨6, v, M⟩ (.own g cap l) key c = a + i * fwide v := by
  unfold flookup
  rw [hf, if_neg (by show ¬ ((i : Int) < 0 ∨ (M : Int) ≤ i); omega)]
  simp only [FR.base]
  rw [if_neg (by omega), Int.toNat_natCast, hc]
  rfl
theorem ck1 : findex ⟨#[1, 0, 0, 0]⟩ = (1 : Nat) := by decide +kernel
set_option maxRecDepth 100000 in
theorem law_fcpus_no (value : ByteArray) (a o : Int) (hv : value.size < 1 ∨ 40 < value.size) (w : World) : Calls Try.prog 5 #[.string value, .int .i64 a, .int .i64 o] w fun e w' => e = .returned (.bool true) ∧ Below w.heap.size w w' := by
  obtain ⟨N, hN⟩ : ∃ N : Nat, (N : Int) = max 1 (min a 8) := ⟨(max 1 (min a 8)).toNat, by omega⟩
  have hN1 : 1 ≤ N ∧ N ≤ 8 := by omega
  obtain ⟨C, hC⟩ : ∃ C : Nat, (C : Int) = max 0 (min o ((N : Int) - 1)) := ⟨(max 0 (min o ((N : Int) - 1))).toNat, by omega⟩
  have hmn : ∀ W, (Builtin.min_ #[3, 3] 3 #[.int .i64 a, .int .i64 8]).run Try.prog W = .ok (.int .i64 (min a 8)) W := fun W => by
    rw [run_min_int2]
    congr 2
    split <;> omega
  have hmx : ∀ W, (Builtin.max_ #[3, 3] 3 #[.int .i64 1, .int .i64 (min a 8)]).run Try.prog W = .ok (.int .i64 N) W := fun W => by
    rw [run_max_int2]
    congr 2
    split <;> omega
  have hmn2 : ∀ W, (Builtin.min_ #[3, 3] 3 #[.int .i64 o, .int .i64 ((N : Int) - 1)]).run Try.prog W = .ok (.int .i64 (min o ((N : Int) - 1))) W := fun W => by
    rw [run_min_int2]
    congr 2
    split <;> omega
  have hmx2 : ∀ W, (Builtin.max_ #[3, 3] 3 #[.int .i64 0, .int .i64 (min o ((N : Int) - 1))]).run Try.prog W = .ok (.int .i64 C) W := fun W => by
    rw [run_max_int2]
    congr 2
    split <;> omega
  obtain ⟨hN1, hN2⟩ := hN1
  have hN1' : 1 ≤ (N : Int) := by omega
  have hN2' : (N : Int) ≤ 8 := by omega
  clear hN hC
  rcases hv with hv | hv
  · have hv2 : (value.size : Int) < 1 := by omega
    clear hv
    go_enter Try.func5, Try.ntmps5
    go_wp2_with fail
    refine (fawake _).mono ?_
    rintro e w5 ⟨rfl, hb⟩
    go_wp2
    go_ret
    exact ⟨rfl, hb⟩
  · have hv2 : 40 < (value.size : Int) := by omega
    clear hv
    go_enter Try.func5, Try.ntmps5
    go_wp2_with fail
    refine (fawake _).mono ?_
    rintro e w5 ⟨rfl, hb⟩
    go_wp2
    go_ret
    exact ⟨rfl, hb⟩
def CL (w : World) (m x g cap v N : Nat) (f : Nat → List Nat) (wr : World) : Prop :=
  ∃ F', FM wr x m ⟨6, v, 2⟩ (.own g cap ((List.range N).map cad)) ∧ KS wr m (KN f N) F' ∧ x ∉ F' ∧ g ∉ F' ∧ Fr [] F' w wr
theorem cad_at (N i : Nat) (h : i < N) : ((List.range N).map cad)[i]? = some (cad i) := by simp [h]
set_option maxRecDepth 100000 in
set_option maxHeartbeats 3000000 in
theorem law_fcpus_yes (value : ByteArray) (a o : Int) (hv1 : 1 ≤ value.size) (hv2 : value.size ≤ 40) (w : World) : Calls Try.prog 5 #[.string value, .int .i64 a, .int .i64 o] w fun e w' => e = .returned (.bool true) ∧ Below w.heap.size w w' := by
  obtain ⟨N, hN⟩ : ∃ N : Nat, (N : Int) = max 1 (min a 8) := ⟨(max 1 (min a 8)).toNat, by omega⟩
  have hN1 : 1 ≤ N ∧ N ≤ 8 := by omega
  obtain ⟨C, hC⟩ : ∃ C : Nat, (C : Int) = max 0 (min o ((N : Int) - 1)) := ⟨(max 0 (min o ((N : Int) - 1))).toNat, by omega⟩
  have hmn : ∀ W, (Builtin.min_ #[3, 3] 3 #[.int .i64 a, .int .i64 8]).run Try.prog W = .ok (.int .i64 (min a 8)) W := fun W => by
    rw [run_min_int2]
    congr 2
    split <;> omega
  have hmx : ∀ W, (Builtin.max_ #[3, 3] 3 #[.int .i64 1, .int .i64 (min a 8)]).run Try.prog W = .ok (.int .i64 N) W := fun W => by
    rw [run_max_int2]
    congr 2
    split <;> omega
  have hmn2 : ∀ W, (Builtin.min_ #[3, 3] 3 #[.int .i64 o, .int .i64 ((N : Int) - 1)]).run Try.prog W = .ok (.int .i64 (min o ((N : Int) - 1))) W := fun W => by
    rw [run_min_int2]
    congr 2
    split <;> omega
  have hmx2 : ∀ W, (Builtin.max_ #[3, 3] 3 #[.int .i64 0, .int .i64 (min o ((N : Int) - 1))]).run Try.prog W = .ok (.int .i64 C) W := fun W => by
    rw [run_max_int2]
    congr 2
    split <;> omega
  obtain ⟨hN1, hN2⟩ := hN1
  have hN1' : 1 ≤ (N : Int) := by omega
  have hN2' : (N : Int) ≤ 8 := by omega
  have hC1 : C < N := by omega
  have hv3 : 1 ≤ (value.size : Int) := by omega
  have hv4 : (value.size : Int) ≤ 40 := by omega
  have hfw : fwide value.size ≤ 47 := by unfold fwide; omega
  have hfl := le_fwide value.size
  have hln := length_nats value
  clear hN hC
  go_enter Try.func5, Try.ntmps5
  go_wp2_with fail
  refine (new_S w).mono ?_
  rintro e w1 ⟨m, F, rfl, k1, f1⟩
  clear hmn hmx hmn2 hmx2
  have hsz : 1 ≤ 2 * fwide value.size ∧ 2 * fwide value.size ≤ 94 := by omega
  go_wp2_with fail
  refine (fnew_cpus (v := value.size) (n := 2) (N := N) (KN (fun _ => List.replicate (2 * fwide value.size) 0)) cad k1 ⟨by omega, by omega⟩ (by omega) (by decide) (by omega) (fun j hj => ?_) (fun j hj => KN.alloc _ hsz.1 (by omega) j (by omega)) (fun j hj => cad_lt j (by omega))).mono ?_
  · show j + 1 < 4294967296
    omega
  rintro e w2 ⟨x, g, cap, F2, rfl, hx, hk, hnx, hng, hxs, hgs, f2⟩
  replace f2 := f1.trans f2
  clear k1 f1 hxs hgs
  go_wp2_with fail
  refine (update_own_one hx hk hnx hng _ value 0 C (cad C) 1 (cad_at N C hC1) ck1 (by show 1 < 2; omega) rfl (by decide) (by decide) (by decide)).mono ?_
  rintro e w3 ⟨F3, rfl, hk3, f3⟩
  have hnx3 : x ∉ F3 := f3.notin (hx.lt x (by simp [FR.foot])) hnx
  have hng3 : g ∉ F3 := f3.notin (hx.lt g (by simp [FR.foot])) hng
  replace hx := hx.fr f3 (by simp [FR.foot, hnx, hng])
  replace f3 := f2.trans f3
  have e1 : fputs ⟨6, value.size, 2⟩ 1 (nats value) [cad C] (KN (fun _ => List.replicate (2 * fwide value.size) 0) N) = KN (fun q => if q = C then splice (List.replicate (2 * fwide value.size) 0) (1 * fwide value.size) (nats value) else List.replicate (2 * fwide value.size) 0) N := by
    show ((KN _ N).put (cad C + 1 * fwide value.size) (nats value)).2 = _
    rw [KN.put _ N C _ _ hC1 (by omega) (by omega) (by rw [List.length_replicate]; omega)]
  replace hk3 := e1 ▸ hk3
  clear hk f2 hnx hng
  have hmk := run_mk value.size (by omega) (by omega)
  simp only [Int.toNat_natCast] at hmk
  have hcv : ∀ W : World, (convert 39 9 (.slice (some ⟨W.heap.size, 0, none⟩) value.size value.size)).run Try.prog (W.alloc (byteCells (List.replicate value.size 0))) = .ok (.string (bstr (List.replicate value.size 0))) (W.alloc (byteCells (List.replicate value.size 0))) := fun W =>
    run_bytes _ List.length_replicate (fun i hi => by rw [Nat.zero_add]; exact byte_reads (heap_alloc_new _ _) i (by rw [List.length_replicate]; exact hi))
  obtain ⟨f1, hf1⟩ : ∃ f1 : Nat → List Nat, f1 = fun q => if q = C then splice (List.replicate (2 * fwide value.size) 0) (1 * fwide value.size) (nats value) else List.replicate (2 * fwide value.size) 0 := ⟨_, rfl⟩
  rw [← hf1] at hk3
  have hl1 : ∀ q, (f1 q).length = 2 * fwide value.size := fun q => by
    rw [hf1]
    simp only
    split
    · rw [length_splice _ _ _ (by rw [List.length_replicate]; omega), List.length_replicate]
    · rw [List.length_replicate]
  have hsame : ((f1 C).drop (1 * fwide value.size)).take value.size = nats value := by
    rw [hf1]
    simp only [if_true]
    have := splice_same (List.replicate (2 * fwide value.size) 0) (1 * fwide value.size) (nats value) (by rw [List.length_replicate]; omega)
    rwa [hln] at this
  have hother : ∀ q, q ≠ C → ((f1 q).drop (1 * fwide value.size)).take value.size = List.replicate value.size 0 := fun q hq => by
    rw [hf1]
    simp only [if_neg hq]
    exact zeros_part _ _ _ (by omega)
  have HSA := hide hsame
  have HOT := hide hother
  have hb1 : ∀ q, q < N → (KN f1 N).bytes (cad q + 1 * fwide value.size) value.size = (((f1 q).drop (1 * fwide value.size)).take value.size, 0) := fun q hq => KN.bytes f1 N q _ _ hq (by omega) (by omega) (by rw [hl1]; omega)
  have e2 := KN.fputs ⟨6, value.size, 2⟩ 1 (nats value) f1 N N (Nat.le_refl _) (by show 1 * fwide value.size < 4294967296; omega) (by omega) (fun q hq => by rw [hl1]; show 1 * fwide value.size + _ ≤ _; omega)
  have E2 := hide e2
  have HB1 := hide hb1
  have HLL := hide hl1
  clear hsame hother hb1 e2 e1 hl1 hf1
  have hx := hx.fr ((Fr.refl [] w3).alloc (byteCells (List.replicate value.size 0))) (by simp)
  have hk3 := hk3.alloc (byteCells (List.replicate value.size 0))
  have f3 := f3.alloc (byteCells (List.replicate value.size 0))
  go_wp2_with fail
  go_loopw [12] (fun iv wr => ∃ q : Nat, q ≤ N ∧ iv = .int .i64 q ∧ CL w m x g cap value.size N f1 wr) (fun iv _ => N - (intOf iv).toNat)
  case atStart => exact ⟨0, Nat.zero_le _, rfl, F3, hx, hk3, hnx3, hng3, f3⟩
  case round =>
    obtain ⟨q, hq, rfl, F4, hx4, hk4, hnx4, hng4, f4⟩ := hrel
    clear hx hk3 hnx3 hng3 f3 hmk hcv
    by_cases hlt : q < N
    · have l1 := lookup_calls hx4 ⟨#[1, 0, 0, 0]⟩ q
      rw [flookup_own value.size 2 1 q (cad q) g cap _ _ ck1 (by omega) (cad_at N q hlt)] at l1
      have hcl := cad_lt q (by omega)
      have b1 := HB1.out q hlt
      have hA : cad q + 1 * fwide value.size < 18446744073709551616 := by omega
      generalize cad q + 1 * fwide value.size = A at l1 b1 hA
      clear hcl
      go_wp2_with fail
      refine l1.mono ?_
      rintro e w6 ⟨rfl, s6⟩
      replace hx4 := hx4.same s6
      replace hk4 := hk4.same s6
      replace f4 := f4.more (s6.fr [])
      clear l1
      go_wp2_with fail
      refine (bytes_S hk4 rfl hA b1).mono ?_
      rintro e w' ⟨rfl, rfl⟩
      unfold strOf
      by_cases hqC : q = C
      · subst hqC
        rw [HSA.out, bstr_nats]
        go_wp2
        exact ⟨⟨q + 1, by omega, by go_num, F4, hx4, hk4, hnx4, hng4, f4⟩, by simp [intOf]; omega⟩
      · rw [HOT.out q hqC]
        have hq1 : ((q : Int) == (C : Int)) = false := by rw [beq_eq_false_iff_ne]; omega
        have hq2 : ((q : Int) != (C : Int)) = true := by rw [bne_iff_ne]; omega
        go_wp2
        exact ⟨⟨q + 1, by omega, by go_num, F4, hx4, hk4, hnx4, hng4, f4⟩, by simp [intOf]; omega⟩
    · obtain rfl : q = N := by omega
      go_wp2_with fail
      refine (update_own_all hx4 hk4 hnx4 hng4 _ value 0 1 ck1 (by show 1 < 2; omega) rfl (by decide) (by decide) (by decide)).mono ?_
      rintro e w7 ⟨F7, rfl, hk7, f7⟩
      have hnx7 : x ∉ F7 := f7.notin (hx4.lt x (by simp [FR.foot])) hnx4
      have hng7 : g ∉ F7 := f7.notin (hx4.lt g (by simp [FR.foot])) hng4
      have hx7 := hx4.fr f7 (by simp [FR.foot, hnx4, hng4])
      replace f7 := f4.trans f7
      rw [E2.out] at hk7
      obtain ⟨f2, hf2⟩ : ∃ f2 : Nat → List Nat, f2 = fun j => if j < q then splice (f1 j) (1 * fwide value.size) (nats value) else f1 j := ⟨_, rfl⟩
      replace hk7 : KS w7 m (KN f2 q) F7 := by rw [hf2]; exact hk7
      have HB2 : Hid (∀ j, j < q → (KN f2 q).bytes (cad j + 1 * fwide value.size) value.size = (nats value, 0)) := hide fun j hj => by
        have hl := HLL.out j
        have e : f2 j = splice (f1 j) (1 * fwide value.size) (nats value) := by rw [hf2]; simp only [if_pos hj]
        rw [KN.bytes f2 q j _ _ hj (by omega) (by omega) (by rw [e, length_splice _ _ _ (by omega)]; omega), e]
        have := splice_same (f1 j) (1 * fwide value.size) (nats value) (by omega)
        rw [hln] at this
        rw [this]
      clear hf2 hx4 hk4 hnx4 hng4 f4 HSA HOT HB1 E2 HLL
      go_wp2_with fail
      go_loopw [15] (fun iv wr => ∃ j : Nat, j ≤ q ∧ iv = .int .i64 j ∧ CL w m x g cap value.size q f2 wr) (fun iv _ => q - (intOf iv).toNat)
      case atStart => exact ⟨0, Nat.zero_le _, rfl, F7, hx7, hk7, hnx7, hng7, f7⟩
      case round =>
        obtain ⟨j, hj, rfl, F8, hx8, hk8, hnx8, hng8, f8⟩ := hrel
        clear hx7 hk7 hnx7 hng7 f7
        by_cases hlt2 : j < q
        · have l1 := lookup_calls hx8 ⟨#[1, 0, 0, 0]⟩ j
          rw [flookup_own value.size 2 1 j (cad j) g cap _ _ ck1 (by omega) (cad_at q j hlt2)] at l1
          have hcl := cad_lt j (by omega)
          have b1 := HB2.out j hlt2
          have hA : cad j + 1 * fwide value.size < 18446744073709551616 := by omega
          generalize cad j + 1 * fwide value.size = A at l1 b1 hA
          clear hcl
          go_wp2_with fail
          refine l1.mono ?_
          rintro e w6 ⟨rfl, s6⟩
          replace hx8 := hx8.same s6
          replace hk8 := hk8.same s6
          replace f8 := f8.more (s6.fr [])
          clear l1
          go_wp2_with fail
          refine (bytes_S hk8 rfl hA b1).mono ?_
          rintro e w' ⟨rfl, rfl⟩
          unfold strOf
          rw [bstr_nats]
          go_wp2
          exact ⟨⟨j + 1, by omega, by go_num, F8, hx8, hk8, hnx8, hng8, f8⟩, by simp [intOf]; omega⟩
        · obtain rfl : j = q := by omega
          go_wp2_with fail
          refine (fawake _).mono ?_
          rintro e w9 ⟨rfl, hb⟩
          go_wp2
          go_ret
          exact ⟨rfl, f8.below0.trans (hb.mono f8.size)⟩
theorem law_fcpus (value : ByteArray) (a o : Int) (w : World) : Calls Try.prog 5 #[.string value, .int .i64 a, .int .i64 o] w fun e w' => e = .returned (.bool true) ∧ Below w.heap.size w w' := by
  by_cases h : value.size < 1 ∨ 40 < value.size
  · exact law_fcpus_no value a o h w
  · exact law_fcpus_yes value a o (by omega) (by omega) w
end Go.Proofs.Ytmgocjclopfeeaa
