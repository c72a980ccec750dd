/- ObjsNone: a table that is none tells the error of its arguments everywhere; no condition. -/
import Derived.Test.YtfdkemkfiddmjaaOAwake
import Derived.Test.YtfdkemkfiddmjaaOpen
set_option linter.unusedVariables false
set_option linter.unusedSimpArgs false
namespace Go.Proofs.Ytfdkemkfiddmjaa
open Go.RowKit Go.MapKept Go.Maps

set_option maxRecDepth 100000 in
set_option maxHeartbeats 2000000 in
theorem onone_calls (kd n m : Int) (p : ByteArray) (w : World) : Calls Try.prog 6 #[.agg #[.int .i64 kd, .int .i64 n, .int .i64 m, .string p]] w fun e w' => e = .returned (.bool true) ∧ Below w.heap.size w w' := by
  have H1 := hide (fun W => add_nil n W)
  have H2 := hide (fun W => get_nil n W)
  have H3 := hide (fun W => dup_nil n W)
  have H4 := hide (fun W => close_nil n W)
  have H5 := hide (fun W => drop_nil n W)
  have H6 := hide (fun W => unpin_nil p W)
  have H7 := hide (fun W => opened_nil p W)
  have H8 := hide (fun W => hold_nil n W)
  have H9 := hide (fun W => pin_nil p n W)
  have H10 := hide (fun W => live_nil W)
  have HA := hide (fun W => oawake W)
  have HF := hide (((Fr.refl [] w).alloc' (.cells #[.int .i64 kd, .int .i64 n, .int .i64 m, .string p] 41)))
  unfold v3 at H1 H2
  go_enter Try.func6, Try.ntmps6
  go_wp2_with (first
    | (go_at_call 8; refine (H1.out _).mono ?_; rintro e w' ⟨rfl, rfl⟩)
    | (go_at_call 20; refine (H2.out _).mono ?_; rintro e w' ⟨rfl, rfl⟩)
    | (go_at_call 15; refine (H3.out _).mono ?_; rintro e w' ⟨rfl, rfl⟩)
    | (go_at_call 9; refine (H4.out _).mono ?_; rintro e w' ⟨rfl, rfl⟩)
    | (go_at_call 19; refine (H5.out _).mono ?_; rintro e w' ⟨rfl, rfl⟩)
    | (go_at_call 18; refine (H6.out _).mono ?_; rintro e w' ⟨rfl, rfl⟩)
    | (go_at_call 21; refine (H7.out _).mono ?_; rintro e w' ⟨rfl, rfl⟩)
    | (go_at_call 17; refine (H8.out _).mono ?_; rintro e w' ⟨rfl, rfl⟩)
    | (go_at_call 16; refine (H9.out _).mono ?_; rintro e w' ⟨rfl, rfl⟩)
    | (go_at_call 13; refine (H10.out _).mono ?_; rintro e w' ⟨rfl, rfl⟩)
    | (go_at_call 10; refine (HA.out _).mono ?_; rintro e w' ⟨rfl, hb⟩; have HE := hide ((HF.out.below (Nat.le_refl _) (fun k hk => by simp at hk)).trans (hb.mono HF.out.size)); clear hb))
  go_ret
  exact ⟨rfl, HE.out⟩
end Go.Proofs.Ytfdkemkfiddmjaa
