/- The law KmemNone returns true for every input; no condition. -/
import Derived.Test.YteglgmdmnhkmgaaKAwake
set_option linter.unusedVariables false
set_option linter.unusedSimpArgs false
namespace Go.Proofs.Yteglgmdmnhkmgaa
open Go.RowKit Go.MapKept
open Go.ChangeMaps (setBlock)

theorem nil_grace (w : World) : Calls Try.prog 15 #[.pointer none] w (Tells w (.tuple #[])) := by
  go_enter Try.func15, Try.ntmps15
  go_wp2
  refine bodyPost_ret (results_none rfl _ _ _) rfl ?_
  exact ⟨rfl, rfl⟩
theorem nil_alloc (s p : Int) (w : World) : Calls Try.prog 9 #[.pointer none, .int .i64 s, .int .i64 p] w (Tells w (.tuple #[.int .u64 0, .int .i64 1])) := by
  go_enter Try.func9, Try.ntmps9
  go_wp2
  go_ret2
  exact ⟨rfl, rfl⟩
theorem nil_read (x n : Int) (w : World) : Calls Try.prog 14 #[.pointer none, .int .u64 x, .int .i64 n] w (Tells w (.tuple #[.int .u64 0, .int .i64 1])) := by
  go_enter Try.func14, Try.ntmps14
  go_wp2
  go_ret2
  exact ⟨rfl, rfl⟩
theorem nil_bytes (x n : Int) (w : World) : Calls Try.prog 11 #[.pointer none, .int .u64 x, .int .i64 n] w (Tells w (.tuple #[strOf [], .int .i64 1])) := by
  go_enter Try.func11, Try.ntmps11
  go_wp2
  go_ret2
  exact ⟨rfl, rfl⟩
theorem nil_size (x : Int) (w : World) : Calls Try.prog 21 #[.pointer none, .int .u64 x] w (Tells w (.tuple #[.int .i64 0, .int .i64 1])) := by
  go_enter Try.func21, Try.ntmps21
  go_wp2
  go_ret2
  exact ⟨rfl, rfl⟩
theorem nil_fail (n : Int) (w : World) : Calls Try.prog 22 #[.pointer none, .int .i64 n] w (Tells w (.int .i64 1)) := by
  go_enter Try.func22, Try.ntmps22
  go_wp2
  go_ret
  exact ⟨rfl, rfl⟩
set_option maxRecDepth 100000 in
theorem nil_free (x : Int) (w : World) : Calls Try.prog 16 #[.pointer none, .int .u64 x] w (Tells w (.int .i64 1)) := by
  go_enter Try.func16, Try.ntmps16
  go_wp2_with (go_at_call 26; refine (first_nil x w).mono ?_; rintro e w' ⟨rfl, rfl⟩)
  go_ret
  exact ⟨rfl, rfl⟩
set_option maxRecDepth 100000 in
theorem nil_retire (x : Int) (w : World) : Calls Try.prog 13 #[.pointer none, .int .u64 x] w (Tells w (.int .i64 1)) := by
  go_enter Try.func13, Try.ntmps13
  go_wp2_with (go_at_call 26; refine (first_nil x w).mono ?_; rintro e w' ⟨rfl, rfl⟩)
  go_ret
  exact ⟨rfl, rfl⟩
theorem nil_write (x n y : Int) (w : World) : Calls Try.prog 10 #[.pointer none, .int .u64 x, .int .i64 n, .int .u64 y] w (Tells w (.int .i64 1)) := by
  go_enter Try.func10, Try.ntmps10
  go_wp2
  go_ret
  exact ⟨rfl, rfl⟩
theorem nil_put (x : Int) (s : ByteArray) (w : World) : Calls Try.prog 23 #[.pointer none, .int .u64 x, .string s] w (Tells w (.int .i64 1)) := by
  go_enter Try.func23, Try.ntmps23
  go_wp2
  go_ret
  exact ⟨rfl, rfl⟩
theorem nil_regions (w : World) : Calls Try.prog 17 #[.pointer none] w (Tells w (.slice none 0 0)) := by
  go_enter Try.func17, Try.ntmps17
  go_wp2
  go_ret
  exact ⟨rfl, rfl⟩

set_option maxRecDepth 100000 in
set_option maxHeartbeats 2000000 in
theorem law_none (kd n m at_ u : Int) (s : ByteArray) (w : World) : Calls Try.prog 7 #[.agg #[.int .i64 kd, .int .i64 n, .int .i64 m, .int .u64 at_, .int .u64 u, .string s]] w fun e w' => e = .returned (.bool true) ∧ Below w.heap.size w w' := by
  have hb0 := (Below.refl w.heap.size w).alloc (Nat.le_refl _) (.cells #[.int .i64 kd, .int .i64 n, .int .i64 m, .int .u64 at_, .int .u64 u, .string s] 49)
  have HB := hide hb0
  clear hb0
  go_enter Try.func7, Try.ntmps7
  go_wp2_with fail
  refine (nil_grace _).mono ?_
  rintro e w' ⟨rfl, rfl⟩
  go_wp2_with fail
  refine (nil_alloc _ _ _).mono ?_
  rintro e w' ⟨rfl, rfl⟩
  go_wp2_with fail
  refine (nil_read _ _ _).mono ?_
  rintro e w' ⟨rfl, rfl⟩
  go_wp2_with fail
  refine (nil_bytes _ _ _).mono ?_
  rintro e w' ⟨rfl, rfl⟩
  go_wp2_with fail
  refine (nil_size _ _).mono ?_
  rintro e w' ⟨rfl, rfl⟩
  go_wp2_with fail
  refine (nil_fail _ _).mono ?_
  rintro e w' ⟨rfl, rfl⟩
  go_wp2_with fail
  refine (nil_free _ _).mono ?_
  rintro e w' ⟨rfl, rfl⟩
  go_wp2_with fail
  refine (nil_retire _ _).mono ?_
  rintro e w' ⟨rfl, rfl⟩
  go_wp2_with fail
  refine (nil_write _ _ _ _).mono ?_
  rintro e w' ⟨rfl, rfl⟩
  go_wp2_with fail
  refine (nil_put _ _ _).mono ?_
  rintro e w' ⟨rfl, rfl⟩
  go_wp2_with fail
  refine (nil_regions _).mono ?_
  rintro e w' ⟨rfl, rfl⟩
  go_wp2_with fail
  refine (kawake _).mono ?_
  rintro e w' ⟨rfl, hb⟩
  go_wp2
  go_ret
  exact ⟨rfl, HB.out.trans (hb.mono (by simp))⟩
end Go.Proofs.Yteglgmdmnhkmgaa
