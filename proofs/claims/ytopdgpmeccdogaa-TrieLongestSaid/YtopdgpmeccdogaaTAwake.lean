/- Chapter 11's examples: awake tells true; no condition. -/
import Derived.Test.YtopdgpmeccdogaaTDel2
import Derived.Test.YtopdgpmeccdogaaTLe
set_option linter.unusedVariables false
set_option linter.unusedSimpArgs false
namespace Go.Proofs.Ytopdgpmeccdogaa
open Go.RowKit Go.MapKept
open Go.ChangeMaps (setBlock)

theorem Fr.beside {F G : List Nat} {w w1 w2 : World} (f : Fr [] F w w1) (g : Fr [] G w1 w2) : Fr [] (G ++ F) w w2 where
  os := g.os.trans f.os
  tape := g.tape.trans f.tape
  output := g.output.trans f.output
  size := Nat.le_trans f.size g.size
  block := fun k hk hn => by rw [g.block k (Nat.lt_of_lt_of_le hk f.size) (by simp), f.block k hk hn]
  foot := fun k hk => by
    rcases List.mem_append.1 hk with h | h
    · rcases g.foot k h with h1 | h1
      · cases h1
      · exact .inr (Nat.le_trans f.size h1)
    · exact f.foot k h
def W4 : TSpec := ⟨8, 1, 4⟩
theorem W4.may : W4.May := ⟨by decide, by decide, by decide⟩
def W4.s1 : ByteArray := ⟨#[10, 0, 0, 0]⟩
def W4.s2 : ByteArray := ⟨#[10, 1, 0, 0]⟩
def W4.s3 : ByteArray := ⟨#[10, 1, 2, 3]⟩
def W4.s4 : ByteArray := ⟨#[10, 2, 2, 3]⟩
def W4.s5 : ByteArray := ⟨#[11, 0, 0, 1]⟩
def W4.f1 : List Bool → Nat := tset (fun _ => 0) (tpath (tkey 8 W4.s1)) 4294967296
def W4.k1 : KA := ⟨1, 0, [(1, ⟨[97], 3, false⟩)]⟩
def W4.f2 : List Bool → Nat := tset W4.f1 (tpath (tkey 16 W4.s2)) 8589934592
def W4.k2 : KA := ⟨2, 0, [(1, ⟨[97], 3, false⟩), (2, ⟨[98], 3, false⟩)]⟩
theorem W4.e1 : tupdate W4 (fun _ => 0) 0 ⟨0, 0, []⟩ (tkey 8 W4.s1) ⟨#[97]⟩ 0 = (0, W4.f1, 1, W4.k1) := by kernel_rfl
theorem W4.e2 : tupdate W4 W4.f1 1 W4.k1 (tkey 16 W4.s2) ⟨#[98]⟩ 0 = (0, W4.f2, 2, W4.k2) := by kernel_rfl
theorem W4.l1 : tlook W4 W4.f2 (tkey 32 W4.s3) = 8589934592 := by kernel_rfl
theorem W4.l2 : tlook W4 W4.f2 (tkey 32 W4.s4) = 4294967296 := by kernel_rfl
theorem W4.l3 : tlook W4 W4.f2 (tkey 32 W4.s5) = 0 := by kernel_rfl
theorem W4.l4 : tlook W4 W4.f2 (tkey 12 W4.s2) = 4294967296 := by kernel_rfl
theorem W4.e5 : tupdate W4 W4.f2 2 W4.k2 ⟨#[97, 98, 99]⟩ ⟨#[97]⟩ 0 = (1, W4.f2, 2, W4.k2) := by kernel_rfl
set_option maxRecDepth 100000 in
set_option maxHeartbeats 800000 in
theorem tawake (w : World) : Calls Try.prog 7 #[] w fun e w' => e = .returned (.bool true) ∧ Below w.heap.size w w' := by
  go_enter Try.func7, Try.ntmps7
  go_wp2_with fail
  refine (new_S w).mono ?_
  rintro e w1 ⟨m, F, rfl, h0, f0⟩
  have hn := tnew_S h0 W4 W4.may
  go_wp2_with fail
  refine hn.mono ?_
  rintro e w2 ⟨x, G, rfl, H, f2⟩
  have f : Fr [] (G ++ F) w w2 := Fr.beside f0 f2
  clear h0 hn f0 f2
  go_wp2_with fail
  refine (key_calls 8 (by decide) W4.s1 (by decide) _).mono ?_
  rintro e w' ⟨rfl, g1⟩
  replace H := H.fr0 g1
  replace f := f.more g1
  clear g1
  go_wp2_with fail
  refine (tupdate_K H W4.may _ _ _ (by decide) (by decide) W4.e1).mono ?_
  rintro e w' ⟨G', F', rfl, H', f'⟩
  replace f := f.trans f'
  clear H f'
  have H := H'
  clear H'
  go_wp2_with fail
  refine (key_calls 16 (by decide) W4.s2 (by decide) _).mono ?_
  rintro e w' ⟨rfl, g1⟩
  replace H := H.fr0 g1
  replace f := f.more g1
  clear g1
  go_wp2_with fail
  refine (tupdate_K H W4.may _ _ _ (by decide) (by decide) W4.e2).mono ?_
  rintro e w' ⟨G', F', rfl, H', f'⟩
  replace f := f.trans f'
  clear H f'
  have H := H'
  clear H'
  go_wp2_with fail
  refine (key_calls 32 (by decide) W4.s3 (by decide) _).mono ?_
  rintro e w' ⟨rfl, g1⟩
  replace H := H.fr0 g1
  replace f := f.more g1
  clear g1
  have hl := tlookup_K H W4.may (tkey 32 W4.s3)
  rw [W4.l1] at hl
  go_wp2_with fail
  refine hl.mono ?_
  rintro e w' ⟨G', F', rfl, H', f'⟩
  replace f := f.trans f'
  clear H f' hl
  have H := H'
  clear H'
  go_wp2_with fail
  refine (key_calls 32 (by decide) W4.s4 (by decide) _).mono ?_
  rintro e w' ⟨rfl, g1⟩
  replace H := H.fr0 g1
  replace f := f.more g1
  clear g1
  have hl := tlookup_K H W4.may (tkey 32 W4.s4)
  rw [W4.l2] at hl
  go_wp2_with fail
  refine hl.mono ?_
  rintro e w' ⟨G', F', rfl, H', f'⟩
  replace f := f.trans f'
  clear H f' hl
  have H := H'
  clear H'
  go_wp2_with fail
  refine (key_calls 32 (by decide) W4.s5 (by decide) _).mono ?_
  rintro e w' ⟨rfl, g1⟩
  replace H := H.fr0 g1
  replace f := f.more g1
  clear g1
  have hl := tlookup_K H W4.may (tkey 32 W4.s5)
  rw [W4.l3] at hl
  go_wp2_with fail
  refine hl.mono ?_
  rintro e w' ⟨G', F', rfl, H', f'⟩
  replace f := f.trans f'
  clear H f' hl
  have H := H'
  clear H'
  go_wp2_with fail
  refine (key_calls 12 (by decide) W4.s2 (by decide) _).mono ?_
  rintro e w' ⟨rfl, g1⟩
  replace H := H.fr0 g1
  replace f := f.more g1
  clear g1
  have hl := tlookup_K H W4.may (tkey 12 W4.s2)
  rw [W4.l4] at hl
  go_wp2_with fail
  refine hl.mono ?_
  rintro e w' ⟨G', F', rfl, H', f'⟩
  replace f := f.trans f'
  clear H f' hl
  have H := H'
  clear H'
  go_wp2_with fail
  refine (tlen_K H).mono ?_
  rintro e w' ⟨rfl, rfl⟩
  go_wp2_with fail
  refine (tupdate_K H W4.may _ _ _ (by decide) (by decide) W4.e5).mono ?_
  rintro e w' ⟨G', F', rfl, H', f'⟩
  replace f := f.trans f'
  clear H f'
  have H := H'
  clear H'
  go_wp2
  go_ret
  exact ⟨rfl, f.below0⟩
end Go.Proofs.Ytopdgpmeccdogaa
