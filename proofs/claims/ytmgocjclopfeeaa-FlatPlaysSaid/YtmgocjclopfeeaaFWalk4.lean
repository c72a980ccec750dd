/- Contracts of flat's Next, Update and Free on an array that a world holds; each contract's conditions are its own. -/
import Derived.Test.YtmgocjclopfeeaaFWalk3
import Derived.StillTailTactics
import Derived.Deep.RegionWith
set_option linter.unusedVariables false
set_option linter.unusedSimpArgs false
namespace Go.Proofs.Ytmgocjclopfeeaa
open Go.RowKit Go.MapKept
open Go.ChangeMaps (setBlock)

theorem le4_cells (i : Nat) (hi : i ≤ 4096) (W : World) : (convert 39 9 (.slice (some ⟨W.heap.size, 0, none⟩) 4 4)).run Try.prog (W.alloc (.cells #[.int .u8 ((i : Int) % 256), .int .u8 ((i : Int) / 256), .int .u8 ((i : Int) / 65536), .int .u8 ((i : Int) / 16777216)] 5)) =
    .ok (.string (bstr (leBytes i 4))) (W.alloc (.cells #[.int .u8 ((i : Int) % 256), .int .u8 ((i : Int) / 256), .int .u8 ((i : Int) / 65536), .int .u8 ((i : Int) / 16777216)] 5)) := by
  refine run_bytes (leBytes i 4) rfl (fun j hj => ?_)
  rw [getD_leBytes i 4 j hj, Nat.zero_add]
  simp only [World.cell?, heap_alloc_new]
  obtain rfl | rfl | rfl | rfl : j = 0 ∨ j = 1 ∨ j = 2 ∨ j = 3 := by omega
  all_goals simp
  all_goals omega
set_option maxRecDepth 100000 in
theorem next_some {w : World} {x m : Nat} {s : FSpec} {R : FR} (h : FM w x m s R) (hR : R.isB = true) (key : ByteArray) (i : Nat) (hi : i < s.max) (hk : findex key + 1 = i ∨ ((s.max : Int) < findex key + 1 ∧ i = 0)) : Calls Try.prog 10 #[.pointer (some ⟨x, 0, none⟩), .string key] w (FNextPost w (.tuple #[strOf (leBytes i 4), .int .i64 0])) := by
  have HT := hide (there_calls h)
  rw [hR] at HT
  have HI := hide (index_calls key w)
  have hb := findex_lt key
  have hm := h.m1
  have HC := fun W => hide (le4_cells i (by omega) W)
  generalize findex key = q at HI hk hb
  clear hR
  rcases hk with hk | ⟨hk, rfl⟩
  · obtain rfl : q = (i : Int) - 1 := by omega
    have hne : ((i : Int) == (s.max : Int)) = false := by rw [beq_eq_false_iff_ne]; omega
    have hnm : ¬ (s.max : Int) < i := by omega
    clear hk
    go_enter Try.func10, Try.ntmps10
    go_wp2_with fail
    refine HT.out.mono ?_
    rintro e w' ⟨rfl, rfl⟩
    go_wp2_with fail
    refine HI.out.mono ?_
    rintro e w1 ⟨rfl, hs⟩
    obtain ⟨c0, c1, c2, c3, c4, c5, f5⟩ := (h.same hs).cells
    have hcv := (HC w1).out
    go_wp2
    go_ret2
    exact ⟨rfl, (hs.fr []).alloc _⟩
  · have hne : ((0 : Int) == (s.max : Int)) = false := by rw [beq_eq_false_iff_ne]; omega
    go_enter Try.func10, Try.ntmps10
    go_wp2_with fail
    refine HT.out.mono ?_
    rintro e w' ⟨rfl, rfl⟩
    go_wp2_with fail
    refine HI.out.mono ?_
    rintro e w1 ⟨rfl, hs⟩
    obtain ⟨c0, c1, c2, c3, c4, c5, f5⟩ := (h.same hs).cells
    have hcv := (HC w1).out
    simp only [Int.natCast_zero, Int.zero_emod, Int.zero_ediv] at hcv
    go_wp2
    go_ret2
    exact ⟨rfl, (hs.fr []).alloc _⟩
/-- Next answers as the plain data say. -/
theorem next_calls {w : World} {x m : Nat} {s : FSpec} {R : FR} (h : FM w x m s R) (key : ByteArray) :
    Calls Try.prog 10 #[.pointer (some ⟨x, 0, none⟩), .string key] w (FNextPost w (.tuple #[strOf (fnext s R key).1, .int .i64 (fnext s R key).2])) := by
  have key1 : R.isB = true → Calls Try.prog 10 #[.pointer (some ⟨x, 0, none⟩), .string key] w (FNextPost w (.tuple #[strOf (if (if (s.max : Int) < findex key + 1 then 0 else (findex key + 1).toNat) = s.max then ([], (4 : Int)) else (leBytes (if (s.max : Int) < findex key + 1 then 0 else (findex key + 1).toNat) 4, 0)).1, .int .i64 (if (if (s.max : Int) < findex key + 1 then 0 else (findex key + 1).toNat) = s.max then (([] : List Nat), (4 : Int)) else (leBytes (if (s.max : Int) < findex key + 1 then 0 else (findex key + 1).toNat) 4, 0)).2])) := by
    intro hR
    have hb := findex_lt key
    have hm := h.m1
    by_cases h1 : (s.max : Int) < findex key + 1
    · rw [if_pos h1, if_neg (by omega)]
      exact next_some h hR key 0 (by omega) (.inr ⟨h1, rfl⟩)
    · rw [if_neg h1]
      by_cases h2 : (findex key + 1).toNat = s.max
      · rw [if_pos h2]
        exact next_none h hR key (by omega)
      · rw [if_neg h2]
        exact next_some h hR key _ (by omega) (.inl (by omega))
  cases R with
  | gone => exact (next_gone h rfl key).mono fun e w' ⟨h1, h2⟩ => ⟨h1, h2 ▸ Fr.refl _ _⟩
  | shared a => exact key1 rfl
  | own g cap l => exact key1 rfl
theorem delete_calls (v : Value) (key : ByteArray) (w : World) : Calls Try.prog 16 #[v, .string key] w (Tells w (.int .i64 1)) := by
  go_enter Try.func16, Try.ntmps16
  go_wp2
  go_ret
  exact ⟨rfl, rfl⟩
/-! ### Update -/
/-- The checks at Update's head. -/
theorem update_arg {w : World} {x m : Nat} {s : FSpec} {R : FR} (h : FM w x m s R) (key value : ByteArray) (fl cpu : Int) (hk : R.isB = false ∨ findex key < 0 ∨ value.size ≠ s.value ∨ fl < 0 ∨ 2 < fl) :
    Calls Try.prog 13 #[.pointer (some ⟨x, 0, none⟩), .string key, .string value, .int .i64 fl, .int .i64 cpu] w (TellsS w (.int .i64 1)) := by
  have HI := hide (index_calls key w)
  generalize findex key = q at HI hk
  by_cases k1 : R.isB = false
  · have HR := hide k1
    clear hk k1
    go_enter Try.func13, Try.ntmps13
    go_wp2_with fail
    refine HI.out.mono ?_
    rintro e w1 ⟨rfl, hs⟩
    have HT := hide (there_calls (h.same hs))
    rw [HR.out] at HT
    go_wp2_with (go_at_call 28; refine HT.out.mono ?_; rintro e w' ⟨rfl, rfl⟩)
    go_ret
    exact ⟨rfl, hs⟩
  have k1' : R.isB = true := by simpa using k1
  have HR := hide k1'
  by_cases k2 : q < 0
  · clear hk k1 k1'
    go_enter Try.func13, Try.ntmps13
    go_wp2_with fail
    refine HI.out.mono ?_
    rintro e w1 ⟨rfl, hs⟩
    have HT := hide (there_calls (h.same hs))
    rw [HR.out] at HT
    go_wp2_with (go_at_call 28; refine HT.out.mono ?_; rintro e w' ⟨rfl, rfl⟩)
    go_ret
    exact ⟨rfl, hs⟩
  by_cases k3 : value.size ≠ s.value
  · have k3' : ((value.size : Int) != (s.value : Int)) = true := by rw [bne_iff_ne]; omega
    clear hk k1 k1' k3
    go_enter Try.func13, Try.ntmps13
    go_wp2_with fail
    refine HI.out.mono ?_
    rintro e w1 ⟨rfl, hs⟩
    have HT := hide (there_calls (h.same hs))
    rw [HR.out] at HT
    obtain ⟨c0, c1, c2, c3, c4, c5, f5⟩ := (h.same hs).cells
    go_wp2_with (go_at_call 28; refine HT.out.mono ?_; rintro e w' ⟨rfl, rfl⟩)
    go_ret
    exact ⟨rfl, hs⟩
  have k3' : ((value.size : Int) != (s.value : Int)) = false := by
    rw [bne_eq_false_iff_eq]; omega
  by_cases k4 : fl < 0
  · clear hk k1 k1' k3
    go_enter Try.func13, Try.ntmps13
    go_wp2_with fail
    refine HI.out.mono ?_
    rintro e w1 ⟨rfl, hs⟩
    have HT := hide (there_calls (h.same hs))
    rw [HR.out] at HT
    obtain ⟨c0, c1, c2, c3, c4, c5, f5⟩ := (h.same hs).cells
    go_wp2_with (go_at_call 28; refine HT.out.mono ?_; rintro e w' ⟨rfl, rfl⟩)
    go_ret
    exact ⟨rfl, hs⟩
  have k5 : 2 < fl := by
    rcases hk with hk | hk | hk | hk | hk
    · exact absurd hk k1
    · exact absurd hk k2
    · exact absurd hk k3
    · exact absurd hk k4
    · exact hk
  clear hk k1 k1' k3
  go_enter Try.func13, Try.ntmps13
  go_wp2_with fail
  refine HI.out.mono ?_
  rintro e w1 ⟨rfl, hs⟩
  have HT := hide (there_calls (h.same hs))
  rw [HR.out] at HT
  obtain ⟨c0, c1, c2, c3, c4, c5, f5⟩ := (h.same hs).cells
  go_wp2_with (go_at_call 28; refine HT.out.mono ?_; rintro e w' ⟨rfl, rfl⟩)
  go_ret
  exact ⟨rfl, hs⟩
theorem Fr.drew {F F' : List Nat} {w w1 : World} (h : Fr F F' w w1) : Fr F F' w w1.drew := ⟨h.os, h.tape, h.output, h.size, h.block, h.foot⟩
theorem Fr.drewN {F F' : List Nat} {w w1 : World} (h : Fr F F' w w1) (n : Nat) : Fr F F' w (w1.drewN n) := ⟨h.os, h.tape, h.output, h.size, h.block, h.foot⟩
theorem KS.drewN {w : World} {m : Nat} {k : KA} {F : List Nat} (h : KS w m k F) (n : Nat) : KS (w.drewN n) m k F := h.frame fun _ _ => rfl
def FPost (m : Nat) (F : List Nat) (w : World) (v : Value) (k : KA) (e : Ending) (w' : World) : Prop := ∃ F', e = .returned v ∧ KS w' m k F' ∧ Fr F F' w w'
def fputs (s : FSpec) (i : Nat) (v : List Nat) (l : List Nat) (k : KA) : KA := l.foldl (fun k a => (k.put (a + i * fwide s.value) v).2) k
set_option maxRecDepth 100000 in
set_option maxHeartbeats 800000 in
theorem update_sh {w : World} {x m : Nat} {s : FSpec} {a : Nat} {k : KA} {F : List Nat} (h : FM w x m s (.shared a)) (hk : KS w m k F) (hd : x ∉ F) (key value : ByteArray) (fl cpu : Int) (i : Nat) (hf : findex key = i) (hi : i < s.max) (hv : value.size = s.value) (h0 : 0 ≤ fl) (h2 : fl ≤ 2) (h1 : fl ≠ 1) :
    Calls Try.prog 13 #[.pointer (some ⟨x, 0, none⟩), .string key, .string value, .int .i64 fl, .int .i64 cpu] w (FPost m F w (.int .i64 0) (fputs s i (nats value) [a] k)) := by
  have HI := hide (index_calls key w)
  rw [hf] at HI
  have hi2 : ¬ (s.max : Int) ≤ i := by omega
  have hvv := h.v1.2
  have hm := h.m1.2
  have HW := fun w => hide (wide_calls s.value hvv w)
  have HS := hide (u64_sum a i (fwide s.value) (h.ad a (by simp [FR.ads])) (by omega) (fwide_le _ hvv))
  have hfw := fwide_le _ hvv
  have hfl : (fl == 1) = false := by simpa using h1
  have hvb : ((value.size : Int) != (s.value : Int)) = false := by rw [bne_eq_false_iff_eq]; omega
  have HV := hide hv
  obtain ⟨n3, hn3⟩ : ∃ n, n = (k.put (a + i * fwide s.value) (nats value)).1 := ⟨_, rfl⟩
  obtain ⟨k3, hk3⟩ : ∃ n, n = (k.put (a + i * fwide s.value) (nats value)).2 := ⟨_, rfl⟩
  have HS2 := hide (show IntKind.u64.wrap ((a : Int) + IntKind.u64.wrap (IntKind.i64.wrap ((i : Int) * (fwide s.value : Nat)))) = ((a + i * fwide s.value : Nat) : Int) by rw [IntWalk.i64_left]; exact HS.out)
  have HP : ∀ W z, KS W m k F → z = ((a + i * fwide s.value : Nat) : Int) → Hid (Calls Try.prog 30 #[.pointer (some ⟨m, 0, none⟩), .int .u64 z, .string value] W (KPostS m F W (.int .i64 n3) k3)) := fun W z hW hz =>
    hide (put_S hW hz (by have : i * fwide s.value ≤ 4096 * 4096 := Nat.mul_le_mul (by omega) hfw
                          have := h.ad a (by simp [FR.ads]); omega) (by rw [hn3, hk3]))
  clear hf hv h1
  go_enter Try.func13, Try.ntmps13
  go_wp2_with fail
  refine HI.out.mono ?_
  rintro e w1 ⟨rfl, hs⟩
  have HT := hide (there_calls (h.same hs))
  obtain ⟨c0, c1, c2, c3, c4, c5, f5⟩ := (h.same hs).cells
  have hk1 := hk.same hs
  have hxl : x < w1.heap.size := lt_of_cell c0
  simp only [FR.val] at c5
  go_wp2_with fail
  refine HT.out.mono ?_
  rintro e w' ⟨rfl, rfl⟩
  simp only [FR.isB]
  go_wp2_with fail
  refine (sh_each _ _ _).mono ?_
  rintro e w2 ⟨rfl, rfl⟩
  go_wp2_with fail
  refine wp_loop_rounds 2 ?_
  rw [rounds_succ]
  go_wp2_with fail
  go_region_with (first | (go_at_call 25; refine (HW _).out.mono ?_; rintro e w' ⟨rfl, rfl⟩) | (go_at_call 30; refine (HP _ _ ?_ ?_).out.mono ?_; exact (hk1.alloc _).drew; (first | exact HS.out | exact HS2.out); rintro e w' ⟨F3, rfl, hk3', hf3'⟩))
  all_goals
    go_wp2
    rw [rounds_succ]
    go_wp2
    go_ret
    exact ⟨F3, rfl, by rw [hk3] at hk3'; exact hk3', ((hs.fr F).alloc _).drew.trans hf3'⟩
end Go.Proofs.Ytmgocjclopfeeaa
