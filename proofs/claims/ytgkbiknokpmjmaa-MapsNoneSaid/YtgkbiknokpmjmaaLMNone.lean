/- MapsNone: a map that is none tells the error of its arguments everywhere; no condition. -/
import Derived.Test.YtgkbiknokpmjmaaMAwake
import Derived.Test.YtgkbiknokpmjmaaOpen
set_option linter.unusedVariables false
set_option linter.unusedSimpArgs false
namespace Go.Proofs.Ytgkbiknokpmjmaa
open Go.RowKit Go.MapKept Go.Maps

set_option maxRecDepth 100000 in
theorem mprog_nil {i : Int} (hi : W64 i) (w : World) : Calls Try.prog 10 #[.pointer none, .int .i64 i] w (MTells w (.tuple #[.int .i64 0, .bool false])) := by
  have HI := hide (min_nil w)
  have a5 := MA.nil5
  have l1 : ∀ W, (Instr.lookup 68 (.map none) (.int .i64 i) true).run Try.prog W = .ok (.tuple #[.int .i64 0, .bool false]) W := fun W => Maps.look_nil true P.ki P.und (P.zero W) (P.keyi hi)
  go_enter Try.func10, Try.ntmps10
  go_wp2_with fail
  refine HI.out.mono ?_
  rintro e w' ⟨rfl, rfl⟩
  go_wp2
  go_ret2
  exact ⟨rfl, rfl⟩
theorem MW.eqs (W : World) : (binOp .eql 30 (.agg #[.int .i64 0, .int .i64 0, .int .i64 0, .int .i64 0]) (.agg #[.int .i64 0, .int .i64 0, .int .i64 0, .int .i64 0])).run Try.prog W = .ok (.bool true) W := by kernel_rfl
set_option maxRecDepth 100000 in
set_option maxHeartbeats 4000000 in
theorem mnone_calls (kd fl cpu n : Int) (key value : ByteArray) (a : Int) (kp : Bool) (hn : W64 n) (w : World) : Calls Try.prog 4 #[.agg #[.int .i64 kd, .int .i64 fl, .int .i64 cpu, .int .i64 n, .string key, .string value, .int .u64 a, .bool kp]] w fun e w' => e = .returned (.bool true) ∧ Below w.heap.size w w' := by
  have H0 := hide (fun W => mnext_nil key W)
  have H1 := hide (fun W => mpop_nil W)
  have H2 := hide (fun W => mpeek_nil W)
  have H3 := hide (fun W => mreserve_nil n W)
  have H4 := hide (fun W => mprog_nil hn W)
  have H5 := hide (fun W => mlookup_nil key cpu W)
  have H6 := hide (fun W => mupdate_nil key value fl cpu W)
  have H7 := hide (fun W => mdelete_nil key W)
  have H8 := hide (fun W => mpush_nil value fl W)
  have H9 := hide (fun W => mend_nil a kp W)
  have H10 := hide (fun W => moutput_nil value W)
  have H11 := hide (fun W => mdrain_nil W)
  have H12 := hide (fun W => mfree_nil W)
  have HS := hide (fun W => mspec_nil W)
  have HA := hide (fun W => mawake W)
  have hb := (Fr.refl [] w).alloc (.cells #[.int .i64 kd, .int .i64 fl, .int .i64 cpu, .int .i64 n, .string key, .string value, .int .u64 a, .bool kp] 43)
  have HF := hide hb
  have heq := MW.eqs
  clear hb
  go_enter Try.func4, Try.ntmps4
  go_wp2_with (first
    | (go_at_call 11; refine (H0.out _).mono ?_; rintro e w' ⟨rfl, rfl⟩)
    | (go_at_call 13; refine (H1.out _).mono ?_; rintro e w' ⟨rfl, rfl⟩)
    | (go_at_call 14; refine (H2.out _).mono ?_; rintro e w' ⟨rfl, rfl⟩)
    | (go_at_call 15; refine (H3.out _).mono ?_; rintro e w' ⟨rfl, rfl⟩)
    | (go_at_call 10; refine (H4.out _).mono ?_; rintro e w' ⟨rfl, rfl⟩)
    | (go_at_call 16; refine (H5.out _).mono ?_; rintro e w' ⟨rfl, rfl⟩)
    | (go_at_call 7; refine (H6.out _).mono ?_; rintro e w' ⟨rfl, rfl⟩)
    | (go_at_call 9; refine (H7.out _).mono ?_; rintro e w' ⟨rfl, rfl⟩)
    | (go_at_call 17; refine (H8.out _).mono ?_; rintro e w' ⟨rfl, rfl⟩)
    | (go_at_call 18; refine (H9.out _).mono ?_; rintro e w' ⟨rfl, rfl⟩)
    | (go_at_call 19; refine (H10.out _).mono ?_; rintro e w' ⟨rfl, rfl⟩)
    | (go_at_call 20; refine (H11.out _).mono ?_; rintro e w' ⟨rfl, rfl⟩)
    | (go_at_call 21; refine (H12.out _).mono ?_; rintro e w' ⟨rfl, rfl⟩)
    | (go_at_call 22; refine (HS.out _).mono ?_; rintro e w1 ⟨rfl, f1⟩; have HF1 := hide (HF.out.trans f1); clear f1)
    | (go_at_call 12; refine (HA.out _).mono ?_; rintro e w2 ⟨rfl, hb2⟩; have HE := hide (HF1.out.below0.trans (hb2.mono HF1.out.size)); clear hb2))
  go_ret
  exact ⟨rfl, HE.out⟩
end Go.Proofs.Ytgkbiknokpmjmaa
