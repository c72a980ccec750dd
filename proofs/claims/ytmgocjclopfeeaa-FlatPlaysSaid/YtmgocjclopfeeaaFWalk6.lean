/- Contract of flat's Update at a number too large (no condition but the map's), and flat's example function awake returns true. -/
import Derived.Test.YtmgocjclopfeeaaFWalk5
set_option linter.unusedVariables false
set_option linter.unusedSimpArgs false
namespace Go.Proofs.Ytmgocjclopfeeaa
open Go.RowKit Go.MapKept
open Go.ChangeMaps (setBlock)

set_option maxRecDepth 100000 in
theorem update_full {w : World} {x m : Nat} {s : FSpec} {a : Nat} (h : FM w x m s (.shared a)) (key value : ByteArray) (fl cpu : Int) (i : Nat) (hf : findex key = i) (hi : s.max ≤ i) (hv : value.size = s.value) (h0 : 0 ≤ fl) (h2 : fl ≤ 2) :
    Calls Try.prog 13 #[.pointer (some ⟨x, 0, none⟩), .string key, .string value, .int .i64 fl, .int .i64 cpu] w (FNextPost w (.int .i64 3)) := by
  have HI := hide (index_calls key w)
  rw [hf] at HI
  have hi2 : (s.max : Int) ≤ i := by omega
  have hvb : ((value.size : Int) != (s.value : Int)) = false := by rw [bne_eq_false_iff_eq]; omega
  clear hf hv
  go_enter Try.func13, Try.ntmps13
  go_wp2_with fail
  refine HI.out.mono ?_
  rintro e w1 ⟨rfl, hs⟩
  have HT := hide (there_calls (h.same hs))
  obtain ⟨c0, c1, c2, c3, c4, c5, f5⟩ := (h.same hs).cells
  have hxl : x < w1.heap.size := lt_of_cell c0
  simp only [FR.val] at c5
  go_wp2_with fail
  refine HT.out.mono ?_
  rintro e w' ⟨rfl, rfl⟩
  simp only [FR.isB]
  go_wp2_with fail
  refine (sh_each _ _ _).mono ?_
  rintro e w2 ⟨rfl, rfl⟩
  go_wp2
  go_ret
  exact ⟨rfl, (hs.fr []).alloc _⟩
theorem FM.fr {w w' : World} {x m : Nat} {s : FSpec} {R : FR} {F F' : List Nat} (h : FM w x m s R) (hf : Fr F F' w w') (hd : ∀ b ∈ R.foot x, b ∉ F) : FM w' x m s R :=
  h.frame fun b hb => hf.block b (h.lt b hb) (hd b hb)
theorem KS.fr {w w' : World} {m : Nat} {k : KA} {F : List Nat} (h : KS w m k F) (hf : Fr [] [] w w') : KS w' m k F := h.frame fun b hb => hf.block b (h.lt b hb) (by simp)
theorem Fr.more {F F' : List Nat} {w w1 w2 : World} (h : Fr F F' w w1) (g : Fr [] [] w1 w2) : Fr F F' w w2 where
  os := g.os.trans h.os
  tape := g.tape.trans h.tape
  output := g.output.trans h.output
  size := Nat.le_trans h.size g.size
  block := fun k hk hn => by rw [g.block k (Nat.lt_of_lt_of_le hk h.size) (by simp), h.block k hk hn]
  foot := h.foot
def KF1 : KA := ⟨1, 0, [(1, ⟨[0, 0, 0, 0, 0, 0, 0, 0, 0, 0, 0, 0, 0, 0, 0, 0], 3, false⟩)]⟩
theorem faw1 : KA.alloc ((2 * fwide 4 : Nat) : Int) 3 ⟨0, 0, []⟩ = (4294967296, 0, KF1) := by decide +kernel
theorem faw2 : findex ⟨#[2, 0, 0, 0]⟩ = (2 : Nat) := by decide +kernel
theorem faw3 : strOf (fnext ⟨2, 4, 2⟩ (.shared 4294967296) ⟨#[]⟩).1 = .string ⟨#[0, 0, 0, 0]⟩ := congrArg Value.string (show bstr (fnext ⟨2, 4, 2⟩ (.shared 4294967296) ⟨#[]⟩).1 = ⟨#[0, 0, 0, 0]⟩ by decide +kernel)
theorem faw4 : (fnext ⟨2, 4, 2⟩ (.shared 4294967296) ⟨#[]⟩).2 = 0 := by decide +kernel
theorem faw5 : flookup ⟨2, 4, 2⟩ (.shared 4294967296) ⟨#[1, 0, 0, 0]⟩ 0 = 4294967304 := by decide +kernel
theorem faw6 : flookup ⟨2, 4, 2⟩ (.shared 4294967296) ⟨#[2, 0, 0, 0]⟩ 0 = 0 := by decide +kernel

set_option maxRecDepth 100000 in
theorem fawake (w : World) : Calls Try.prog 12 #[] w fun e w' => e = .returned (.bool true) ∧ Below w.heap.size w w' := by
  go_enter Try.func12, Try.ntmps12
  go_wp2_with fail
  refine (new_S w).mono ?_
  rintro e w1 ⟨m, F, rfl, h0, f0⟩
  go_wp2_with fail
  refine (fnew_array h0 1 (by decide) (by decide) (by decide) (by decide) (by decide) faw1 (by decide)).mono ?_
  rintro e w2 ⟨x, F2, rfl, hx, hk, hn, hxs, f2⟩
  replace f2 := f0.trans f2
  go_wp2_with fail
  refine (update_full hx _ _ _ _ 2 faw2 (by decide) (by decide) (by decide) (by decide)).mono ?_
  rintro e w3 ⟨rfl, f3⟩
  replace hx := hx.fr f3 (by simp)
  replace hk := hk.fr f3
  replace f3 := f2.more f3
  go_wp2_with fail
  refine (next_calls hx _).mono ?_
  rintro e w4 ⟨rfl, f4⟩
  rw [faw3, faw4]
  replace hx := hx.fr f4 (by simp)
  replace hk := hk.fr f4
  replace f4 := f3.more f4
  have l1 := lookup_calls hx ⟨#[1, 0, 0, 0]⟩ 0
  rw [faw5] at l1
  go_wp2_with fail
  refine l1.mono ?_
  rintro e w5 ⟨rfl, s5⟩
  have l2 := lookup_calls (hx.same s5) ⟨#[2, 0, 0, 0]⟩ 0
  rw [faw6] at l2
  go_wp2_with fail
  refine l2.mono ?_
  rintro e w6 ⟨rfl, s6⟩
  go_wp2_with fail
  refine (delete_calls _ _ _).mono ?_
  rintro e w7 ⟨rfl, rfl⟩
  go_wp2
  go_ret
  exact ⟨rfl, (f4.more ((s5.trans s6).fr [])).below0⟩
end Go.Proofs.Ytmgocjclopfeeaa
