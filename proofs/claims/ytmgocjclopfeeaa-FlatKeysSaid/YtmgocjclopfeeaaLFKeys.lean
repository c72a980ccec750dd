/- The law FlatKeys computes true for every argument and leaves old memory alone; no condition. -/
import Derived.Test.YtmgocjclopfeeaaFPure
set_option linter.unusedVariables false
set_option linter.unusedSimpArgs false
namespace Go.Proofs.Ytmgocjclopfeeaa
open Go.RowKit Go.MapKept
open Go.ChangeMaps (setBlock)

theorem clamp40 (n : Int) : ∃ N : Nat, 1 ≤ N ∧ N ≤ 40 ∧ max 1 (min n 40) = (N : Int) := ⟨(max 1 (min n 40)).toNat, by omega, by omega, by omega⟩
def FLoop (w : World) (x m : Nat) (s : FSpec) (R : FR) (F : List Nat) (wr : World) : Prop := FM wr x m s R ∧ Fr [] F w wr
theorem key_next (s : FSpec) (a k : Nat) (h : k < s.max) (h2 : s.max ≤ 4096) : bstr (leBytes k 4) = fkeyOf (k + 1) := by simp [fkeyOf]

set_option maxRecDepth 100000 in
theorem law_fkeys (n : Int) (w : World) : Calls Try.prog 3 #[.int .i64 n] w fun e w' => e = .returned (.bool true) ∧ Below w.heap.size w w' := by
  obtain ⟨N, hN1, hN2, hc⟩ := clamp40 n
  have hw1 : N * fwide 1 = N * 8 := rfl
  go_enter Try.func3, Try.ntmps3
  go_wp2_with fail
  all_goals
    have hN : ∃ V : Int, V = N := ⟨_, rfl⟩
    first
      | (have hV : (1 : Int) = N := by omega
         rw [hV])
      | (have hV : (40 : Int) = N := by omega
         rw [hV])
      | (have hV : n = (N : Int) := by omega
         rw [hV])
    clear hV hc
    refine (new_S w).mono ?_
    rintro e w1 ⟨m, F, rfl, k1, f1⟩
    go_wp2_with fail
    refine (fnew_array (n := N) k1 1 (by decide) (by decide) (by omega) (by rw [hw1]; omega) (by decide) (alloc0 (N * fwide 1) (by rw [hw1]; omega) (by rw [hw1]; omega)) (by decide)).mono ?_
    rintro e w2 ⟨x, F2, rfl, hx, hk, hn, hxs, f2⟩
    replace f2 := f1.trans f2
    go_wp2_with fail
    clear hk hxs k1 f1 hn
    go_loopw [6, 7] (fun key i wr => ∃ k : Nat, k ≤ N ∧ key = .string (fkeyOf k) ∧ i = .int .i64 k ∧ FLoop w x m ⟨2, 1, N⟩ (.shared 4294967296) F2 wr) (fun _ i _ => N - (intOf i).toNat)
    case atStart => exact ⟨0, Nat.zero_le _, rfl, rfl, hx, f2⟩
    case round =>
      obtain ⟨k, hk, rfl, rfl, hx2, f3⟩ := hrel
      clear hx f2
      by_cases hlt : k < N
      · have HE := hide (fnext_some ⟨2, 1, N⟩ 4294967296 k hlt (by show N ≤ 4096; omega))
        go_wp2_with fail
        refine (next_calls hx2 _).mono ?_
        rintro e w4 ⟨rfl, f4⟩
        rw [HE.out]
        replace hx2 := hx2.fr f4 (by simp)
        replace f4 := f3.more f4
        unfold strOf
        go_wp2_with fail
        refine (le_calls k 4 (by omega) _).mono ?_
        rintro e w5 ⟨rfl, f5⟩
        replace hx2 := hx2.fr f5 (by simp)
        replace f5 := f4.more f5
        unfold strOf
        clear f3 f4
        go_wp2
        exact ⟨⟨k + 1, by omega, by simp [fkeyOf], by go_num, hx2, f5⟩, by simp [intOf]; omega⟩
      · obtain rfl : k = N := by omega
        have HE := hide (fnext_none ⟨2, 1, k⟩ 4294967296 (by show k ≤ 4096; omega))
        go_wp2_with fail
        refine (next_calls hx2 _).mono ?_
        rintro e w4 ⟨rfl, f4⟩
        rw [HE.out]
        replace f4 := f3.more f4
        unfold strOf
        go_wp2_with fail
        refine (fawake _).mono ?_
        rintro e w5 ⟨rfl, hb⟩
        go_wp2
        go_ret
        exact ⟨rfl, f4.below0.trans (hb.mono f4.size)⟩
end Go.Proofs.Ytmgocjclopfeeaa
