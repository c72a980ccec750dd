/- Chapter 10's examples: awake tells true; no condition. -/
import Derived.Test.YtpacfhpnnejlbaaHNew
set_option linter.unusedVariables false
set_option linter.unusedSimpArgs false
namespace Go.Proofs.Ytpacfhpnnejlbaa
open Go.RowKit Go.MapKept
open Go.ChangeMaps (setBlock)

def HW.s : HSpec := ⟨9, 1, 1, 2⟩
def HW.a : ByteArray := ⟨#[97]⟩
def HW.b : ByteArray := ⟨#[98]⟩
def HW.c : ByteArray := ⟨#[99]⟩
def HW.r (n : Nat) (v : Nat) (d : Bool) : Nat × RA := (n, ⟨[v], 3, d⟩)
def HW.h1 : HA := ⟨[⟨HW.a, 4294967296, 1⟩], 1⟩
def HW.k1 : KA := ⟨1, 0, [HW.r 1 49 false]⟩
def HW.h2 : HA := ⟨[⟨HW.a, 4294967296, 1⟩, ⟨HW.b, 8589934592, 2⟩], 2⟩
def HW.k2 : KA := ⟨2, 0, [HW.r 1 49 false, HW.r 2 50 false]⟩
def HW.h3 : HA := ⟨[⟨HW.a, 4294967296, 3⟩, ⟨HW.b, 8589934592, 2⟩], 3⟩
def HW.h4 : HA := ⟨[⟨HW.a, 4294967296, 3⟩, ⟨HW.c, 12884901888, 4⟩], 4⟩
def HW.k4 : KA := ⟨3, 0, [HW.r 1 49 false, HW.r 2 50 true, HW.r 3 51 false]⟩
def HW.h5 : HA := ⟨[⟨HW.c, 12884901888, 4⟩], 4⟩
def HW.k5 : KA := ⟨3, 0, [HW.r 1 49 true, HW.r 2 50 true, HW.r 3 51 false]⟩
theorem HW.e1 : (HA.mk [] 0).update HW.s ⟨0, 0, []⟩ HW.a ⟨#[49]⟩ 0 = (0, HW.h1, HW.k1) := by kernel_rfl
theorem HW.e2 : HW.h1.update HW.s HW.k1 HW.b ⟨#[50]⟩ 0 = (0, HW.h2, HW.k2) := by kernel_rfl
theorem HW.e3 : HW.h2.lookup HW.a = (4294967296, HW.h3) := by kernel_rfl
theorem HW.e4 : HW.h3.update HW.s HW.k2 HW.c ⟨#[51]⟩ 0 = (0, HW.h4, HW.k4) := by kernel_rfl
theorem HW.e5 : HW.h4.lookup HW.b = (0, HW.h4) := by kernel_rfl
theorem HW.e6 : HW.h4.delete HW.s HW.k4 HW.a = (0, HW.h5, HW.k5) := by kernel_rfl
theorem HW.e7 : HW.h5.delete HW.s HW.k5 HW.a = (4, HW.h5, HW.k5) := by kernel_rfl
theorem HW.next {b : ByteArray} {c : Int} (h : HNextIs HW.s HW.h4 ⟨#[]⟩ b c) : b = HW.a ∧ c = 0 := by
  rcases h with ⟨-, -, h3⟩ | ⟨h1, ⟨q, hq, rfl⟩, h3, h4⟩
  · have := h3 ⟨HW.a, 4294967296, 3⟩ (by simp [HW.h4])
    exact absurd this (by decide +kernel)
  · simp only [HW.h4, List.mem_cons, List.not_mem_nil, or_false] at hq
    rcases hq with rfl | rfl
    · exact ⟨rfl, h1⟩
    · have := h4 ⟨HW.a, 4294967296, 3⟩ (by simp [HW.h4]) (by decide +kernel)
      exact absurd this (by decide +kernel)
theorem Fr.beside {F G : List Nat} {w w1 w2 : World} (f : Fr [] F w w1) (g : Fr [] G w1 w2) : Fr [] (G ++ F) w w2 where
  os := g.os.trans f.os
  tape := g.tape.trans f.tape
  output := g.output.trans f.output
  size := Nat.le_trans f.size g.size
  block := fun k hk hn => by rw [g.block k (Nat.lt_of_lt_of_le hk f.size) (by simp), f.block k hk hn]
  foot := fun k hk => by
    rcases List.mem_append.1 hk with h | h
    · rcases g.foot k h with h1 | h1
      · cases h1
      · exact .inr (Nat.le_trans f.size h1)
    · exact f.foot k h
theorem HW.may : HW.s.May := ⟨.inr rfl, by decide, by decide, by decide⟩
set_option maxRecDepth 100000 in
theorem hawake (w : World) : Calls Try.prog 14 #[] w fun e w' => e = .returned (.bool true) ∧ Below w.heap.size w w' := by
  go_enter Try.func14, Try.ntmps14
  go_wp2_with fail
  refine (new_S w).mono ?_
  rintro e w1 ⟨m, F, rfl, h0, f0⟩
  have hn := hnew_S h0 HW.s HW.may
  go_wp2_with fail
  refine hn.mono ?_
  rintro e w2 ⟨x, G, rfl, H0, f2⟩
  have g2 : Fr [] (G ++ F) w w2 := Fr.beside f0 f2
  have ha : HW.a.toList = [97] := by decide +kernel
  clear h0 hn
  go_wp2_with fail
  refine (hupdate_K H0 _ _ _ (by decide) (by decide) (by decide) (by decide) HW.e1).mono ?_
  rintro e w3 ⟨G3, F3, rfl, H3, f3⟩
  replace f3 := g2.trans f3
  go_wp2_with fail
  refine (hupdate_K H3 _ _ _ (by decide) (by decide) (by decide) (by decide) HW.e2).mono ?_
  rintro e w4 ⟨G4, F4, rfl, H4, f4⟩
  replace f4 := f3.trans f4
  go_wp2_with fail
  refine (hlookup_K H4 _ (by decide) HW.e3).mono ?_
  rintro e w5 ⟨G5, F5, rfl, H5, f5⟩
  replace f5 := f4.trans f5
  go_wp2_with fail
  refine (hupdate_K H5 _ _ _ (by decide) (by decide) (by decide) (by decide) HW.e4).mono ?_
  rintro e w6 ⟨G6, F6, rfl, H6, f6⟩
  replace f6 := f5.trans f6
  go_wp2_with fail
  refine (hnext_K H6 _).mono ?_
  rintro e w7 ⟨b, c, rfl, hb, f7⟩
  obtain ⟨rfl, rfl⟩ := HW.next hb
  have H7 := H6.fr0 f7
  replace f7 := f6.more f7
  clear H6 hb
  go_wp2_with fail
  refine (hlookup_K H7 _ (by decide) HW.e5).mono ?_
  rintro e w8 ⟨G8, F8, rfl, H8, f8⟩
  replace f8 := f7.trans f8
  go_wp2_with fail
  refine (hlen_S H8.hs).mono ?_
  rintro e w9 ⟨rfl, rfl⟩
  have hl : ((HW.h4.es.length : Nat) : Int) = 2 := by decide
  rw [hl]
  clear hl
  go_wp2_with fail
  refine (hdelete_K H8 _ HW.e6).mono ?_
  rintro e wA ⟨GA, FA, rfl, HA', fA⟩
  replace fA := f8.trans fA
  go_wp2_with fail
  refine (hdelete_K HA' _ HW.e7).mono ?_
  rintro e wB ⟨GB, FB, rfl, HB, fB⟩
  replace fB := fA.trans fB
  go_wp2
  go_ret
  exact ⟨rfl, fB.below0⟩
end Go.Proofs.Ytpacfhpnnejlbaa
