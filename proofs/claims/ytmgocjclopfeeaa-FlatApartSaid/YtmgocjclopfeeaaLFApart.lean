/- The law FlatApart computes true for every argument and leaves old memory alone; no condition. -/
import Derived.Test.YtmgocjclopfeeaaFPure2
set_option linter.unusedVariables false
set_option linter.unusedSimpArgs false
namespace Go.Proofs.Ytmgocjclopfeeaa
open Go.RowKit Go.MapKept
open Go.ChangeMaps (setBlock)

theorem mod8_nat (x : Int) : ∃ i : Nat, i < 8 ∧ (x.tmod 8 + 8).tmod 8 = (i : Int) ∧ -8 < x.tmod 8 ∧ x.tmod 8 < 8 := by
  have h1 : -8 < x.tmod 8 := by have := Int.lt_tmod_of_pos x (b := 8) (by omega); omega
  have h2 : x.tmod 8 < 8 := Int.tmod_lt_of_pos x (by omega)
  refine ⟨((x.tmod 8 + 8).tmod 8).toNat, ?_, ?_, h1, h2⟩
  · rw [Int.tmod_eq_emod_of_nonneg (by omega)]; omega
  · rw [Int.tmod_eq_emod_of_nonneg (by omega)]; omega
set_option maxRecDepth 100000 in
theorem law_fapart_no (value : ByteArray) (a o : Int) (hv : value.size < 1 ∨ 40 < value.size) (w : World) : Calls Try.prog 4 #[.string value, .int .i64 a, .int .i64 o] w fun e w' => e = .returned (.bool true) ∧ Below w.heap.size w w' := by
  rcases hv with hv | hv
  · have hv2 : (value.size : Int) < 1 := by omega
    clear hv
    go_enter Try.func4, Try.ntmps4
    go_wp2_with fail
    refine (fawake _).mono ?_
    rintro e w5 ⟨rfl, hb⟩
    go_wp2
    go_ret
    exact ⟨rfl, hb⟩
  · have hv2 : 40 < (value.size : Int) := by omega
    clear hv
    go_enter Try.func4, Try.ntmps4
    go_wp2_with fail
    refine (fawake _).mono ?_
    rintro e w5 ⟨rfl, hb⟩
    go_wp2
    go_ret
    exact ⟨rfl, hb⟩
theorem flookup_sh (v M a i : Nat) (c : Int) (h : i < M) (hM : M ≤ 4096) : flookup ⟨2, v, M⟩ (.shared a) (bstr (leBytes i 4)) c = a + i * fwide v := by
  unfold flookup
  rw [findex_le _ (by omega), if_neg (by show ¬ ((i : Int) < 0 ∨ (M : Int) ≤ i); omega)]
  rfl
set_option maxRecDepth 100000 in
theorem law_fapart_yes (value : ByteArray) (a o : Int) (hv1 : 1 ≤ value.size) (hv2 : value.size ≤ 40) (w : World) : Calls Try.prog 4 #[.string value, .int .i64 a, .int .i64 o] w fun e w' => e = .returned (.bool true) ∧ Below w.heap.size w w' := by
  obtain ⟨i, hi, ei, ei1, ei2⟩ := mod8_nat a
  obtain ⟨j, hj, ej, ej1, ej2⟩ := mod8_nat o
  have hv3 : 1 ≤ (value.size : Int) := by omega
  have hv4 : (value.size : Int) ≤ 40 := by omega
  have hfw : fwide value.size ≤ 47 := by unfold fwide; omega
  have hfl := le_fwide value.size
  have hln := length_nats value
  go_enter Try.func4, Try.ntmps4
  go_wp2_with fail
  refine (new_S w).mono ?_
  rintro e w1 ⟨m, F, rfl, k1, f1⟩
  go_wp2_with fail
  refine (fnew_array (v := value.size) (n := 8) k1 1 (by decide) (by omega) (by decide) (by omega) (by decide) (alloc0 (8 * fwide value.size) (by omega) (by omega)) (by decide)).mono ?_
  rintro e w2 ⟨x, F2, rfl, hx, hk, hn, hxs, f2⟩
  replace f2 := f1.trans f2
  clear k1 f1 hxs
  go_wp2_with fail
  refine (le_calls i 4 (by omega) _).mono ?_
  rintro e w3 ⟨rfl, f3⟩
  replace hx := hx.fr f3 (by simp)
  replace hk := hk.fr f3
  replace f3 := f2.more f3
  unfold strOf
  go_wp2_with fail
  refine (le_calls j 4 (by omega) _).mono ?_
  rintro e w4 ⟨rfl, f4⟩
  replace hx := hx.fr f4 (by simp)
  replace hk := hk.fr f4
  replace f4 := f3.more f4
  unfold strOf
  clear f2 f3
  have hin := slot_within i 8 (fwide value.size) value.size hfl hi
  have hjn := slot_within j 8 (fwide value.size) value.size hfl hj
  have e1 : fputs ⟨2, value.size, 8⟩ i (nats value) [4294967296] (KA1 (List.replicate (8 * fwide value.size) 0)) = KA1 (splice (List.replicate (8 * fwide value.size) 0) (i * fwide value.size) (nats value)) :=
    apart_put (8 * fwide value.size) (i * fwide value.size) (nats value) (by omega) (by omega)
  go_wp2_with fail
  refine (update_sh hx hk hn _ value 0 0 i (findex_le i (by omega)) (by show i < 8; exact hi) rfl (by decide) (by decide) (by decide)).mono ?_
  rintro e w5 ⟨F5, rfl, hk5, f5⟩
  have hn5 : x ∉ F5 := f5.notin (hx.lt x (by simp [FR.foot])) hn
  replace hx := hx.fr f5 (by simpa [FR.foot] using hn)
  replace f5 := f4.trans f5
  replace hk5 : KS w5 m (KA1 (splice (List.replicate (8 * fwide value.size) 0) (i * fwide value.size) (nats value))) F5 := by rw [← e1]; exact hk5
  clear hk f4 hn
  have l1 := lookup_calls hx (bstr (leBytes i 4)) 0
  rw [flookup_sh value.size 8 _ i 0 hi (by omega)] at l1
  go_wp2_with fail
  refine l1.mono ?_
  rintro e w6 ⟨rfl, s6⟩
  replace hx := hx.same s6
  replace hk5 := hk5.same s6
  replace f6 := f5.more (s6.fr [])
  have b1 := apart_same (8 * fwide value.size) (i * fwide value.size) (nats value) (by omega) (by omega)
  rw [hln] at b1
  go_wp2_with fail
  refine (bytes_S hk5 rfl (by omega) b1).mono ?_
  rintro e w' ⟨rfl, rfl⟩
  have l2 := lookup_calls hx (bstr (leBytes j 4)) 0
  rw [flookup_sh value.size 8 _ j 0 hj (by omega)] at l2
  unfold strOf
  rw [bstr_nats]
  clear l1 f5
  go_wp2_with fail
  refine l2.mono ?_
  rintro e w7 ⟨rfl, s7⟩
  replace hk5 := hk5.same s7
  replace f7 := f6.more (s7.fr [])
  clear l2 hx s6 s7 f6
  go_wp2_with fail
  by_cases hij : i = j
  · subst hij
    refine (bytes_S hk5 rfl (by omega) b1).mono ?_
    rintro e w' ⟨rfl, rfl⟩
    unfold strOf
    rw [bstr_nats]
    go_wp2_with fail
    refine (fawake _).mono ?_
    rintro e w9 ⟨rfl, hb⟩
    go_wp2
    go_ret
    exact ⟨rfl, f7.below0.trans (hb.mono f7.size)⟩
  · have b2 := apart_other (8 * fwide value.size) (i * fwide value.size) (j * fwide value.size) (nats value) (by omega) (by omega) (by omega) (by have := slots_apart i j (fwide value.size) value.size hfl hij; omega)
    rw [hln] at b2
    refine (bytes_S hk5 rfl (by omega) b2).mono ?_
    rintro e w' ⟨rfl, rfl⟩
    unfold strOf
    have hijI : ((i : Int) == (j : Int)) = false := by rw [beq_eq_false_iff_ne]; omega
    have hcomm : ((bstr (List.replicate value.size 0)).toList == value.toList) = (value.toList == (bstr (List.replicate value.size 0)).toList) := Bool.beq_comm
    have hmk := run_mk value.size (by omega) (by omega)
    simp only [Int.toNat_natCast] at hmk
    have hcv : ∀ W : World, (convert 39 9 (.slice (some ⟨W.heap.size, 0, none⟩) value.size value.size)).run Try.prog (W.alloc (byteCells (List.replicate value.size 0))) = .ok (.string (bstr (List.replicate value.size 0))) (W.alloc (byteCells (List.replicate value.size 0))) := fun W =>
      run_bytes _ List.length_replicate (fun i hi => by rw [Nat.zero_add]; exact byte_reads (heap_alloc_new _ _) i (by rw [List.length_replicate]; exact hi))
    replace f7 := f7.alloc (byteCells (List.replicate value.size 0))
    go_wp2_with fail
    refine (fawake _).mono ?_
    rintro e w9 ⟨rfl, hb⟩
    go_wp2
    go_ret
    exact ⟨rfl, f7.below0.trans (hb.mono f7.size)⟩
theorem law_fapart (value : ByteArray) (a o : Int) (w : World) : Calls Try.prog 4 #[.string value, .int .i64 a, .int .i64 o] w fun e w' => e = .returned (.bool true) ∧ Below w.heap.size w w' := by
  by_cases h : value.size < 1 ∨ 40 < value.size
  · exact law_fapart_no value a o h w
  · exact law_fapart_yes value a o (by omega) (by omega) w
end Go.Proofs.Ytmgocjclopfeeaa
