/- ObjsFds: the least free fd is given, and there are just sixty-four; no condition. -/
import Derived.Test.YtfdkemkfiddmjaaOAwake
import Derived.Test.YtfdkemkfiddmjaaOpen
import Derived.Laws.Small
set_option linter.unusedVariables false
set_option linter.unusedSimpArgs false
namespace Go.Proofs.Ytfdkemkfiddmjaa
open Go.RowKit Go.MapKept Go.Maps

/-- A table behind k Adds. -/
structure FI (s : OSt) (k : Nat) : Prop where
  md : s.made = k
  fd : ∀ j : Nat, j < 64 → s.fds (ik j) = if j < k then some ((j : Int) + 1) else none
  n1 : ∀ j : Nat, j < k → s.n (ik ((j : Int) + 1)) = some 1
  n0 : ∀ j : Nat, k ≤ j → s.n (ik ((j : Int) + 1)) = none
theorem FI.start : FI oempty 0 := ⟨rfl, fun j _ => by simp [oempty], fun j hj => by omega, fun j _ => rfl⟩
theorem FI.add {s : OSt} {k : Nat} (h : FI s k) (hk : k < 64) (x : Int) : (s.add x).1 = ((k : Int), (k : Int) + 1, 0) ∧ FI (s.add x).2 (k + 1) := by
  have ho := open_at (s := s) hk (by rw [h.fd k hk, if_neg (Nat.lt_irrefl _)]) (fun j hj => by rw [h.fd j (by omega), if_pos hj]; simp) ((s.made : Int) + 1)
  unfold OSt.add
  rw [ho]
  simp only [if_true]
  rw [h.md]
  refine ⟨rfl, ⟨rfl, fun j hj => ?_, fun j hj => ?_, fun j hj => ?_⟩⟩
  · show upd s.fds (ik k) (some ((k : Int) + 1)) (ik j) = _
    by_cases e : j = k
    · subst e
      rw [upd_same, if_pos (by omega)]
    · rw [upd_other _ _ (ik_ne (by omega)), h.fd j hj]
      by_cases hlt : j < k
      · rw [if_pos hlt, if_pos (by omega)]
      · rw [if_neg hlt, if_neg (by omega)]
  · show upd s.n (ik ((k : Int) + 1)) (some (at0 s.n ((k : Int) + 1) + 1)) (ik ((j : Int) + 1)) = _
    by_cases e : j = k
    · subst e
      rw [upd_same]
      unfold at0
      rw [h.n0 j (Nat.le_refl _)]
      rfl
    · rw [upd_other _ _ (ik_ne (by omega))]
      exact h.n1 j (by omega)
  · show upd s.n (ik ((k : Int) + 1)) (some (at0 s.n ((k : Int) + 1) + 1)) (ik ((j : Int) + 1)) = _
    rw [upd_other _ _ (ik_ne (by omega))]
    exact h.n0 j (by omega)
theorem FI.full {s : OSt} (h : FI s 64) (x : Int) : s.add x = ((0, 0, 8), s) := by
  have ho : ofree s = none := by
    rcases range_find (fun fd => (s.fds (ik fd)).isNone) 64 with ⟨h2, _⟩ | ⟨i, hi, _, h3, _⟩
    · exact h2
    · rw [h.fd i hi, if_pos hi] at h3
      cases h3
  unfold OSt.add OSt.open_
  rw [ho]
  simp
theorem FI.close {s : OSt} {k g : Nat} (h : FI s k) (hg : g < k) (hk : k ≤ 64) (x : Int) :
    (s.close g).1 = ([(g : Int) + 1], 0) ∧ ((s.close g).2.add x).1 = ((g : Int), (k : Int) + 1, 0) := by
  have hgt : s.get g = (at0 s.kinds ((g : Int) + 1), (g : Int) + 1, 0) := by
    unfold OSt.get
    rw [h.fd g (by omega), if_pos hg]
  have hd : (s.unfd g).dead ((g : Int) + 1) = [(g : Int) + 1] := by
    unfold OSt.dead at0
    rw [show (s.unfd g).n = s.n from rfl, h.n1 g hg]
    rfl
  unfold OSt.close
  rw [hgt]
  simp only [if_true]
  refine ⟨by rw [hd], ?_⟩
  have hm : ((s.unfd g).less ((g : Int) + 1)).made = k := h.md
  have hf : ((s.unfd g).less ((g : Int) + 1)).fds = upd s.fds (ik g) none := rfl
  generalize (s.unfd g).less ((g : Int) + 1) = s1 at *
  have ho := open_at (s := s1) (k := g) (by omega) (by rw [hf, upd_same]) (fun j hj => by rw [hf, upd_other _ _ (ik_ne (by omega)), h.fd j (by omega), if_pos (by omega)]; simp) ((s1.made : Int) + 1)
  unfold OSt.add
  rw [ho]
  simp only [if_true]
  rw [hm]
def FdsRel (w : World) (t : Nat) (F : List Nat) (N : Nat) (v : Value) (wr : World) : Prop := ∃ (i : Nat) (s : OSt), i ≤ N ∧ v = .int .i64 i ∧ OS wr t s (3 * i) F ∧ FI s (min i 64) ∧ Below w.heap.size w wr
set_option maxRecDepth 100000 in
set_option maxHeartbeats 2000000 in
theorem ofds_calls (n g : Int) (w : World) : Calls Try.prog 3 #[.int .i64 n, .int .i64 g] w fun e w' => e = .returned (.bool true) ∧ Below w.heap.size w w' := by
  obtain ⟨N, hN⟩ : ∃ N : Nat, (N : Int) = max 1 (min n 70) := ⟨(max 1 (min n 70)).toNat, by omega⟩
  have hN1 : 1 ≤ N ∧ N ≤ 70 := by omega
  obtain ⟨K, hK⟩ : ∃ K : Nat, K = min N 64 := ⟨_, rfl⟩
  obtain ⟨C, hC⟩ : ∃ C : Nat, (C : Int) = max 0 (min g ((K : Int) - 1)) := ⟨(max 0 (min g ((K : Int) - 1))).toNat, by omega⟩
  have hmn : ∀ W, (Builtin.min_ #[3, 3] 3 #[.int .i64 n, .int .i64 70]).run Try.prog W = .ok (.int .i64 (min n 70)) W := fun W => by
    rw [run_min_int2]
    congr 2
    split <;> omega
  have hmx : ∀ W, (Builtin.max_ #[3, 3] 3 #[.int .i64 1, .int .i64 (min n 70)]).run Try.prog W = .ok (.int .i64 N) W := fun W => by
    rw [run_max_int2]
    congr 2
    split <;> omega
  have hmn3 : ∀ W, (Builtin.min_ #[3, 3] 3 #[.int .i64 N, .int .i64 64]).run Try.prog W = .ok (.int .i64 K) W := fun W => by
    rw [run_min_int2]
    congr 2
    split <;> omega
  have hmn2 : ∀ W, (Builtin.min_ #[3, 3] 3 #[.int .i64 g, .int .i64 ((K : Int) - 1)]).run Try.prog W = .ok (.int .i64 (min g ((K : Int) - 1))) W := fun W => by
    rw [run_min_int2]
    congr 2
    split <;> omega
  have hmx2 : ∀ W, (Builtin.max_ #[3, 3] 3 #[.int .i64 0, .int .i64 (min g ((K : Int) - 1))]).run Try.prog W = .ok (.int .i64 C) W := fun W => by
    rw [run_max_int2]
    congr 2
    split <;> omega
  have hKN : K ≤ 64 ∧ 1 ≤ K ∧ C < K := by omega
  obtain ⟨hK64, hK1, hCK⟩ := hKN
  obtain ⟨hN1, hN70⟩ := hN1
  have HK := hide hK
  have HA := hide (fun W => oawake W)
  have i1 : (1 : Int) ≤ K := by omega
  have i2 : (K : Int) ≤ 64 := by omega
  have i3 : (C : Int) < K := by omega
  clear hN hC hK
  go_enter Try.func3, Try.ntmps3
  go_wp2_with fail
  refine (onew_calls w).mono ?_
  rintro e w1 ⟨t, F, rfl, h1, f1, hF⟩
  have HF := hide hF
  have H0 := hide (show FdsRel w t F N (.int .i64 0) w1 from ⟨0, oempty, by omega, rfl, h1, FI.start, f1.below (Nat.le_refl _) (fun k hk => by simp at hk)⟩)
  clear h1 f1 hF
  go_wp2_with fail
  go_loopw [6] (fun v wr => FdsRel w t F N v wr) (fun v _ => N - (RowKit.intOf v).toNat)
  case atStart => exact H0.out
  case round =>
    clear H0
    obtain ⟨i, s, hi, rfl, hs, hfi, hbl⟩ := hrel
    have HB := hide hbl
    by_cases hlt : i < N
    · have hi1 : (i : Int) < N := by omega
      have hkw : W64 (i : Int) := (w64_iff _).2 (by omega)
      have HAD := hide (add_calls hs (by omega) hkw)
      clear hs hbl hkw hmn hmx hmn2 hmx2 hmn3
      by_cases h64 : i < 64
      · have hi64 : (i : Int) < 64 := by omega
        have hi65 : ¬ (64 : Int) ≤ i := by omega
        rw [show min i 64 = i by omega] at hfi
        obtain ⟨q1, q2⟩ := hfi.add h64 (i : Int)
        rw [q1] at HAD
        have HQ := hide q2
        clear q1 q2 hfi
        unfold OPost3 v3 at HAD
        go_wp2_with fail
        refine HAD.out.mono ?_
        rintro e w2 ⟨rfl, h2, f2⟩
        have HE : Hid (FdsRel w t F N (.int .i64 ((i : Int) + 1)) w2) := hide ⟨i + 1, _, by omega, by simp, h2.mono (by omega), by rw [show min (i + 1) 64 = i + 1 by omega]; exact HQ.out, HB.out.trans (f2.below HB.out.size HF.out)⟩
        clear h2 f2
        go_wp2
        exact ⟨HE.out, by show N - ((i : Int) + 1).toNat < N - ((i : Int)).toNat; omega⟩
      · have hi64 : ¬ (i : Int) < 64 := by omega
        have hi65 : (64 : Int) ≤ i := by omega
        rw [show min i 64 = 64 by omega] at hfi
        rw [hfi.full] at HAD
        have HQ := hide hfi
        clear hfi
        unfold OPost3 v3 at HAD
        go_wp2_with fail
        refine HAD.out.mono ?_
        rintro e w2 ⟨rfl, h2, f2⟩
        have HE : Hid (FdsRel w t F N (.int .i64 ((i : Int) + 1)) w2) := hide ⟨i + 1, _, by omega, by simp, h2.mono (by omega), by rw [show min (i + 1) 64 = 64 by omega]; exact HQ.out, HB.out.trans (f2.below HB.out.size HF.out)⟩
        clear h2 f2
        go_wp2
        exact ⟨HE.out, by show N - ((i : Int) + 1).toNat < N - ((i : Int)).toNat; omega⟩
    · obtain rfl : i = N := by omega
      rw [← HK.out] at hfi
      have hcw : W64 (C : Int) := (w64_iff _).2 (by omega)
      have HCL := hide (close_calls hs (by omega) hcw)
      obtain ⟨q1, q2⟩ := hfi.close hCK hK64 7
      rw [q1] at HCL
      have HQ := hide q2
      have HLT := hide hs.lt
      clear hs hbl hfi q1 q2
      go_wp2_with fail
      refine HCL.out.mono ?_
      rintro e w2 ⟨v2, rfl, j2, h2, f2⟩
      obtain ⟨g2, c2, rfl, hg2, d2⟩ := ints_one j2
      have HAD := hide (add_calls h2 (by omega) (kind := 7) (by decide))
      rw [HQ.out] at HAD
      have HB2 := hide (HB.out.trans (f2.below HB.out.size HF.out))
      have hng : g2 ∉ F := fun hm => by have := HLT.out g2 hm; omega
      have HD := hide (fun W (hf : Fr F F w2 W) => show W.cell? ⟨g2, 0, none⟩ = some (.int .i64 ((C : Int) + 1)) by
        rw [← d2]
        simp only [World.cell?]
        rw [hf.block g2 (World.block_lt_of_cell? _ _ d2) hng])
      clear h2 f2 j2 d2 hg2
      unfold OPost3 v3 at HAD
      go_wp2_with fail
      refine HAD.out.mono ?_
      rintro e w3 ⟨rfl, h3, f3⟩
      have d3 := HD.out w3 f3
      have HB3 := hide (HB2.out.trans (f3.below HB2.out.size HF.out))
      clear h3 f3
      go_wp2_with fail
      refine (HA.out w3).mono ?_
      rintro e w4 ⟨rfl, hb4⟩
      have HE := hide (HB3.out.trans (hb4.mono HB3.out.size))
      clear hb4
      go_wp2
      go_ret
      exact ⟨rfl, HE.out⟩
end Go.Proofs.Ytfdkemkfiddmjaa
