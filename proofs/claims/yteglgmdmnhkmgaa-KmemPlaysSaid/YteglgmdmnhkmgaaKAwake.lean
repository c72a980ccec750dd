/- kmem's example function awake returns true and leaves old memory alone; no condition. -/
import Derived.Test.YteglgmdmnhkmgaaKLaw
set_option linter.unusedVariables false
set_option linter.unusedSimpArgs false
namespace Go.Proofs.Yteglgmdmnhkmgaa
open Go.RowKit Go.MapKept
open Go.ChangeMaps (setBlock)

def KW1 : KA := ⟨1, 0, [(1, ⟨[0, 0, 0, 0, 0, 0, 0, 0], 3, false⟩)]⟩
def KW2 : KA := ⟨1, 0, [(1, ⟨[0, 0, 0, 0, 5, 0, 0, 0], 3, false⟩)]⟩
def KW3 : KA := ⟨1, 0, []⟩
theorem aw1 : KA.alloc 8 3 ⟨0, 0, []⟩ = (4294967296, 0, KW1) := by decide +kernel
theorem aw2 : KW1.write 4294967300 4 4294967301 = (0, KW2) := by decide +kernel
theorem aw3 : KW2.read 4294967296 8 = (21474836480, 0) := by decide +kernel
theorem aw4 : KW2.read 4294967301 4 = (0, 22) := by decide +kernel
theorem aw5 : KW2.read 0 1 = (0, 20) := by decide +kernel
theorem aw6 : KW2.free 4294967296 = (0, KW3) := by decide +kernel
theorem aw7 : KW3.read 4294967296 1 = (0, 21) := by decide +kernel

set_option maxRecDepth 100000 in
theorem kawake (w : World) : Calls Try.prog 12 #[] w fun e w' => e = .returned (.bool true) ∧ Below w.heap.size w w' := by
  go_enter Try.func12, Try.ntmps12
  go_wp2_with fail
  refine (new_S w).mono ?_
  rintro e w1 ⟨m, F, rfl, h0, f0⟩
  go_wp2_with fail
  refine (alloc_S h0 (by decide) aw1).mono ?_
  rintro e w2 ⟨F2, rfl, h2, f2⟩
  replace f2 := f0.trans f2
  go_wp2_with fail
  refine (write_S h2 rfl rfl (by decide) aw2).mono ?_
  rintro e w3 ⟨F3, rfl, h3, f3⟩
  replace f3 := f2.trans f3
  go_wp2_with fail
  refine (read_S h3 rfl (by decide) aw3).mono ?_
  rintro e w4 ⟨rfl, rfl⟩
  go_wp2_with fail
  refine (read_S h3 rfl (by decide) aw4).mono ?_
  rintro e w4 ⟨rfl, rfl⟩
  go_wp2_with fail
  refine (read_S h3 rfl (by decide) aw5).mono ?_
  rintro e w4 ⟨rfl, rfl⟩
  go_wp2_with fail
  refine (free_S h3 rfl (by decide) aw6).mono ?_
  rintro e w4 ⟨F4, rfl, h4, f4⟩
  replace f4 := f3.trans f4
  go_wp2_with fail
  refine (read_S h4 rfl (by decide) aw7).mono ?_
  rintro e w5 ⟨rfl, rfl⟩
  go_wp2
  go_ret
  exact ⟨rfl, f4.below0⟩
end Go.Proofs.Yteglgmdmnhkmgaa
