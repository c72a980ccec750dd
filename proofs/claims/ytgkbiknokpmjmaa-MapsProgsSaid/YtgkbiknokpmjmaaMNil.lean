/- A map that is none: what each method tells; no condition. -/
import Derived.Test.YtgkbiknokpmjmaaMapRaw
import Derived.Test.YtgkbiknokpmjmaaProg
import Derived.Below
import Derived.BigQuiet
set_option linter.unusedVariables false
set_option linter.unusedSimpArgs false
namespace Go.Proofs.Ytgkbiknokpmjmaa
open Go.RowKit Go.MapKept

theorem MA.nil0 (W : World) : (Instr.typeAssert .nilIface 20 63 true).run Try.prog W = .ok (.tuple #[.pointer none, .bool false]) W := by kernel_rfl
theorem MA.nil1 (W : World) : (Instr.typeAssert .nilIface 20 64 true).run Try.prog W = .ok (.tuple #[.pointer none, .bool false]) W := by kernel_rfl
theorem MA.nil2 (W : World) : (Instr.typeAssert .nilIface 20 66 true).run Try.prog W = .ok (.tuple #[.pointer none, .bool false]) W := by kernel_rfl
theorem MA.nil3 (W : World) : (Instr.typeAssert .nilIface 20 75 true).run Try.prog W = .ok (.tuple #[.pointer none, .bool false]) W := by kernel_rfl
theorem MA.nil4 (W : World) : (Instr.typeAssert .nilIface 20 77 true).run Try.prog W = .ok (.tuple #[.pointer none, .bool false]) W := by kernel_rfl
theorem MA.nil5 (W : World) : (Instr.typeAssert .nilIface 20 68 true).run Try.prog W = .ok (.tuple #[.map none, .bool false]) W := by kernel_rfl
def MTells (w : World) (v : Value) (e : Ending) (w' : World) : Prop := e = .returned v ∧ w = w'
set_option maxRecDepth 100000 in
theorem min_nil (w : World) : Calls Try.prog 24 #[.pointer none] w (MTells w (.nilIface)) := by
  have nf0 := MA.nil0
  have nf1 := MA.nil1
  have nf2 := MA.nil2
  have nf3 := MA.nil3
  have nf4 := MA.nil4
  have nf5 := MA.nil5
  go_enter Try.func24, Try.ntmps24
  go_wp2
  go_ret
  exact ⟨rfl, rfl⟩
set_option maxRecDepth 100000 in
theorem mlookup_nil (key : ByteArray) (cpu : Int) (w : World) : Calls Try.prog 16 #[.pointer none, .string key, .int .i64 cpu] w (MTells w (.int .u64 0)) := by
  have nf0 := MA.nil0
  have nf1 := MA.nil1
  have nf2 := MA.nil2
  have nf3 := MA.nil3
  have nf4 := MA.nil4
  have nf5 := MA.nil5
  go_enter Try.func16, Try.ntmps16
  go_wp2_with (first | (go_at_call 24; refine (min_nil _).mono ?_; rintro e w' ⟨rfl, rfl⟩))
  go_ret
  exact ⟨rfl, rfl⟩
set_option maxRecDepth 100000 in
theorem mupdate_nil (key value : ByteArray) (fl cpu : Int) (w : World) : Calls Try.prog 7 #[.pointer none, .string key, .string value, .int .i64 fl, .int .i64 cpu] w (MTells w (.int .i64 1)) := by
  have nf0 := MA.nil0
  have nf1 := MA.nil1
  have nf2 := MA.nil2
  have nf3 := MA.nil3
  have nf4 := MA.nil4
  have nf5 := MA.nil5
  go_enter Try.func7, Try.ntmps7
  go_wp2_with (first | (go_at_call 24; refine (min_nil _).mono ?_; rintro e w' ⟨rfl, rfl⟩))
  go_ret
  exact ⟨rfl, rfl⟩
set_option maxRecDepth 100000 in
theorem mdelete_nil (key : ByteArray) (w : World) : Calls Try.prog 9 #[.pointer none, .string key] w (MTells w (.int .i64 1)) := by
  have nf0 := MA.nil0
  have nf1 := MA.nil1
  have nf2 := MA.nil2
  have nf3 := MA.nil3
  have nf4 := MA.nil4
  have nf5 := MA.nil5
  go_enter Try.func9, Try.ntmps9
  go_wp2_with (first | (go_at_call 24; refine (min_nil _).mono ?_; rintro e w' ⟨rfl, rfl⟩))
  go_ret
  exact ⟨rfl, rfl⟩
set_option maxRecDepth 100000 in
theorem mnext_nil (key : ByteArray) (w : World) : Calls Try.prog 11 #[.pointer none, .string key] w (MTells w (.tuple #[.string ⟨#[]⟩, .int .i64 1])) := by
  have nf0 := MA.nil0
  have nf1 := MA.nil1
  have nf2 := MA.nil2
  have nf3 := MA.nil3
  have nf4 := MA.nil4
  have nf5 := MA.nil5
  go_enter Try.func11, Try.ntmps11
  go_wp2_with (first | (go_at_call 24; refine (min_nil _).mono ?_; rintro e w' ⟨rfl, rfl⟩))
  go_ret2
  exact ⟨rfl, rfl⟩
set_option maxRecDepth 100000 in
theorem mline_nil (w : World) : Calls Try.prog 36 #[.pointer none] w (MTells w (.pointer none)) := by
  have nf0 := MA.nil0
  have nf1 := MA.nil1
  have nf2 := MA.nil2
  have nf3 := MA.nil3
  have nf4 := MA.nil4
  have nf5 := MA.nil5
  go_enter Try.func36, Try.ntmps36
  go_wp2_with (first | (go_at_call 24; refine (min_nil _).mono ?_; rintro e w' ⟨rfl, rfl⟩))
  go_ret
  exact ⟨rfl, rfl⟩
set_option maxRecDepth 100000 in
theorem qpush_nil (value : ByteArray) (fl : Int) (w : World) : Calls Try.prog 44 #[.pointer none, .string value, .int .i64 fl] w (MTells w (.int .i64 1)) := by
  have nf0 := MA.nil0
  have nf1 := MA.nil1
  have nf2 := MA.nil2
  have nf3 := MA.nil3
  have nf4 := MA.nil4
  have nf5 := MA.nil5
  go_enter Try.func44, Try.ntmps44
  go_wp2
  go_ret
  exact ⟨rfl, rfl⟩
set_option maxRecDepth 100000 in
theorem qpeek_nil (w : World) : Calls Try.prog 38 #[.pointer none] w (MTells w (.tuple #[.string ⟨#[]⟩, .int .i64 1])) := by
  have nf0 := MA.nil0
  have nf1 := MA.nil1
  have nf2 := MA.nil2
  have nf3 := MA.nil3
  have nf4 := MA.nil4
  have nf5 := MA.nil5
  go_enter Try.func38, Try.ntmps38
  go_wp2
  go_ret2
  exact ⟨rfl, rfl⟩
set_option maxRecDepth 100000 in
theorem qpop_nil (w : World) : Calls Try.prog 37 #[.pointer none] w (MTells w (.tuple #[.string ⟨#[]⟩, .int .i64 1])) := by
  have nf0 := MA.nil0
  have nf1 := MA.nil1
  have nf2 := MA.nil2
  have nf3 := MA.nil3
  have nf4 := MA.nil4
  have nf5 := MA.nil5
  go_enter Try.func37, Try.ntmps37
  go_wp2_with (first | (go_at_call 38; refine (qpeek_nil _).mono ?_; rintro e w' ⟨rfl, rfl⟩))
  go_ret2
  exact ⟨rfl, rfl⟩
set_option maxRecDepth 100000 in
theorem mpush_nil (value : ByteArray) (fl : Int) (w : World) : Calls Try.prog 17 #[.pointer none, .string value, .int .i64 fl] w (MTells w (.int .i64 1)) := by
  have nf0 := MA.nil0
  have nf1 := MA.nil1
  have nf2 := MA.nil2
  have nf3 := MA.nil3
  have nf4 := MA.nil4
  have nf5 := MA.nil5
  go_enter Try.func17, Try.ntmps17
  go_wp2_with (first | (go_at_call 36; refine (mline_nil _).mono ?_; rintro e w' ⟨rfl, rfl⟩) | (go_at_call 44; refine (qpush_nil value fl _).mono ?_; rintro e w' ⟨rfl, rfl⟩))
  go_ret
  exact ⟨rfl, rfl⟩
set_option maxRecDepth 100000 in
theorem mpop_nil (w : World) : Calls Try.prog 13 #[.pointer none] w (MTells w (.tuple #[.string ⟨#[]⟩, .int .i64 1])) := by
  have nf0 := MA.nil0
  have nf1 := MA.nil1
  have nf2 := MA.nil2
  have nf3 := MA.nil3
  have nf4 := MA.nil4
  have nf5 := MA.nil5
  go_enter Try.func13, Try.ntmps13
  go_wp2_with (first | (go_at_call 36; refine (mline_nil _).mono ?_; rintro e w' ⟨rfl, rfl⟩) | (go_at_call 37; refine (qpop_nil _).mono ?_; rintro e w' ⟨rfl, rfl⟩))
  go_ret2
  exact ⟨rfl, rfl⟩
set_option maxRecDepth 100000 in
theorem mpeek_nil (w : World) : Calls Try.prog 14 #[.pointer none] w (MTells w (.tuple #[.string ⟨#[]⟩, .int .i64 1])) := by
  have nf0 := MA.nil0
  have nf1 := MA.nil1
  have nf2 := MA.nil2
  have nf3 := MA.nil3
  have nf4 := MA.nil4
  have nf5 := MA.nil5
  go_enter Try.func14, Try.ntmps14
  go_wp2_with (first | (go_at_call 36; refine (mline_nil _).mono ?_; rintro e w' ⟨rfl, rfl⟩) | (go_at_call 38; refine (qpeek_nil _).mono ?_; rintro e w' ⟨rfl, rfl⟩))
  go_ret2
  exact ⟨rfl, rfl⟩
set_option maxRecDepth 100000 in
theorem mring_nil (w : World) : Calls Try.prog 39 #[.pointer none] w (MTells w (.pointer none)) := by
  have nf0 := MA.nil0
  have nf1 := MA.nil1
  have nf2 := MA.nil2
  have nf3 := MA.nil3
  have nf4 := MA.nil4
  have nf5 := MA.nil5
  go_enter Try.func39, Try.ntmps39
  go_wp2_with (first | (go_at_call 24; refine (min_nil _).mono ?_; rintro e w' ⟨rfl, rfl⟩))
  go_ret
  exact ⟨rfl, rfl⟩
set_option maxRecDepth 100000 in
theorem rreserve_nil (n : Int) (w : World) : Calls Try.prog 40 #[.pointer none, .int .i64 n] w (MTells w (.tuple #[.int .u64 0, .int .i64 1])) := by
  have nf0 := MA.nil0
  have nf1 := MA.nil1
  have nf2 := MA.nil2
  have nf3 := MA.nil3
  have nf4 := MA.nil4
  have nf5 := MA.nil5
  go_enter Try.func40, Try.ntmps40
  go_wp2
  go_ret2
  exact ⟨rfl, rfl⟩
set_option maxRecDepth 100000 in
theorem rend_nil (a : Int) (b : Bool) (w : World) : Calls Try.prog 77 #[.pointer none, .int .u64 a, .bool b] w (MTells w (.int .i64 1)) := by
  have nf0 := MA.nil0
  have nf1 := MA.nil1
  have nf2 := MA.nil2
  have nf3 := MA.nil3
  have nf4 := MA.nil4
  have nf5 := MA.nil5
  go_enter Try.func77, Try.ntmps77
  go_wp2
  go_ret
  exact ⟨rfl, rfl⟩
set_option maxRecDepth 100000 in
theorem rsubmit_nil (a : Int) (w : World) : Calls Try.prog 45 #[.pointer none, .int .u64 a] w (MTells w (.int .i64 1)) := by
  have nf0 := MA.nil0
  have nf1 := MA.nil1
  have nf2 := MA.nil2
  have nf3 := MA.nil3
  have nf4 := MA.nil4
  have nf5 := MA.nil5
  go_enter Try.func45, Try.ntmps45
  go_wp2_with (first | (go_at_call 77; refine (rend_nil a true _).mono ?_; rintro e w' ⟨rfl, rfl⟩))
  go_ret
  exact ⟨rfl, rfl⟩
set_option maxRecDepth 100000 in
theorem rdiscard_nil (a : Int) (w : World) : Calls Try.prog 46 #[.pointer none, .int .u64 a] w (MTells w (.int .i64 1)) := by
  have nf0 := MA.nil0
  have nf1 := MA.nil1
  have nf2 := MA.nil2
  have nf3 := MA.nil3
  have nf4 := MA.nil4
  have nf5 := MA.nil5
  go_enter Try.func46, Try.ntmps46
  go_wp2_with (first | (go_at_call 77; refine (rend_nil a false _).mono ?_; rintro e w' ⟨rfl, rfl⟩))
  go_ret
  exact ⟨rfl, rfl⟩
set_option maxRecDepth 100000 in
theorem routput_nil (s : ByteArray) (w : World) : Calls Try.prog 47 #[.pointer none, .string s] w (MTells w (.int .i64 1)) := by
  have nf0 := MA.nil0
  have nf1 := MA.nil1
  have nf2 := MA.nil2
  have nf3 := MA.nil3
  have nf4 := MA.nil4
  have nf5 := MA.nil5
  go_enter Try.func47, Try.ntmps47
  go_wp2_with (first | (go_at_call 40; refine (rreserve_nil s.size _).mono ?_; rintro e w' ⟨rfl, rfl⟩))
  go_ret
  exact ⟨rfl, rfl⟩
set_option maxRecDepth 100000 in
theorem rdrain_nil (w : World) : Calls Try.prog 48 #[.pointer none] w (MTells w (.slice none 0 0)) := by
  have nf0 := MA.nil0
  have nf1 := MA.nil1
  have nf2 := MA.nil2
  have nf3 := MA.nil3
  have nf4 := MA.nil4
  have nf5 := MA.nil5
  go_enter Try.func48, Try.ntmps48
  go_wp2
  go_ret
  exact ⟨rfl, rfl⟩
set_option maxRecDepth 100000 in
theorem mreserve_nil (n : Int) (w : World) : Calls Try.prog 15 #[.pointer none, .int .i64 n] w (MTells w (.tuple #[.int .u64 0, .int .i64 1])) := by
  have nf0 := MA.nil0
  have nf1 := MA.nil1
  have nf2 := MA.nil2
  have nf3 := MA.nil3
  have nf4 := MA.nil4
  have nf5 := MA.nil5
  go_enter Try.func15, Try.ntmps15
  go_wp2_with (first | (go_at_call 39; refine (mring_nil _).mono ?_; rintro e w' ⟨rfl, rfl⟩) | (go_at_call 40; refine (rreserve_nil n _).mono ?_; rintro e w' ⟨rfl, rfl⟩))
  go_ret2
  exact ⟨rfl, rfl⟩
set_option maxRecDepth 100000 in
theorem mend_nil_true (a : Int) (w : World) : Calls Try.prog 18 #[.pointer none, .int .u64 a, .bool true] w (MTells w (.int .i64 1)) := by
  have nf0 := MA.nil0
  have nf1 := MA.nil1
  have nf2 := MA.nil2
  have nf3 := MA.nil3
  have nf4 := MA.nil4
  have nf5 := MA.nil5
  go_enter Try.func18, Try.ntmps18
  go_wp2_with (first | (go_at_call 39; refine (mring_nil _).mono ?_; rintro e w' ⟨rfl, rfl⟩) | (go_at_call 45; refine (rsubmit_nil a _).mono ?_; rintro e w' ⟨rfl, rfl⟩) | (go_at_call 46; refine (rdiscard_nil a _).mono ?_; rintro e w' ⟨rfl, rfl⟩))
  go_ret
  exact ⟨rfl, rfl⟩
set_option maxRecDepth 100000 in
theorem mend_nil_false (a : Int) (w : World) : Calls Try.prog 18 #[.pointer none, .int .u64 a, .bool false] w (MTells w (.int .i64 1)) := by
  have nf0 := MA.nil0
  have nf1 := MA.nil1
  have nf2 := MA.nil2
  have nf3 := MA.nil3
  have nf4 := MA.nil4
  have nf5 := MA.nil5
  go_enter Try.func18, Try.ntmps18
  go_wp2_with (first | (go_at_call 39; refine (mring_nil _).mono ?_; rintro e w' ⟨rfl, rfl⟩) | (go_at_call 45; refine (rsubmit_nil a _).mono ?_; rintro e w' ⟨rfl, rfl⟩) | (go_at_call 46; refine (rdiscard_nil a _).mono ?_; rintro e w' ⟨rfl, rfl⟩))
  go_ret
  exact ⟨rfl, rfl⟩
set_option maxRecDepth 100000 in
theorem mend_nil (a : Int) (b : Bool) (w : World) : Calls Try.prog 18 #[.pointer none, .int .u64 a, .bool b] w (MTells w (.int .i64 1)) := by
  cases b
  · exact mend_nil_false a w
  · exact mend_nil_true a w
set_option maxRecDepth 100000 in
theorem moutput_nil (s : ByteArray) (w : World) : Calls Try.prog 19 #[.pointer none, .string s] w (MTells w (.int .i64 1)) := by
  have nf0 := MA.nil0
  have nf1 := MA.nil1
  have nf2 := MA.nil2
  have nf3 := MA.nil3
  have nf4 := MA.nil4
  have nf5 := MA.nil5
  go_enter Try.func19, Try.ntmps19
  go_wp2_with (first | (go_at_call 39; refine (mring_nil _).mono ?_; rintro e w' ⟨rfl, rfl⟩) | (go_at_call 47; refine (routput_nil s _).mono ?_; rintro e w' ⟨rfl, rfl⟩))
  go_ret
  exact ⟨rfl, rfl⟩
set_option maxRecDepth 100000 in
theorem mdrain_nil (w : World) : Calls Try.prog 20 #[.pointer none] w (MTells w (.slice none 0 0)) := by
  have nf0 := MA.nil0
  have nf1 := MA.nil1
  have nf2 := MA.nil2
  have nf3 := MA.nil3
  have nf4 := MA.nil4
  have nf5 := MA.nil5
  go_enter Try.func20, Try.ntmps20
  go_wp2_with (first | (go_at_call 39; refine (mring_nil _).mono ?_; rintro e w' ⟨rfl, rfl⟩) | (go_at_call 48; refine (rdrain_nil _).mono ?_; rintro e w' ⟨rfl, rfl⟩))
  go_ret
  exact ⟨rfl, rfl⟩
set_option maxRecDepth 100000 in
theorem mfree_nil (w : World) : Calls Try.prog 21 #[.pointer none] w (MTells w (.int .i64 1)) := by
  have nf0 := MA.nil0
  have nf1 := MA.nil1
  have nf2 := MA.nil2
  have nf3 := MA.nil3
  have nf4 := MA.nil4
  have nf5 := MA.nil5
  go_enter Try.func21, Try.ntmps21
  go_wp2_with (first | (go_at_call 24; refine (min_nil _).mono ?_; rintro e w' ⟨rfl, rfl⟩))
  go_ret
  exact ⟨rfl, rfl⟩
end Go.Proofs.Ytgkbiknokpmjmaa
