/- The law KmemHolds returns true for every input; no condition. -/
import Derived.Test.YteglgmdmnhkmgaaKAwake
set_option linter.unusedVariables false
set_option linter.unusedSimpArgs false
namespace Go.Proofs.Yteglgmdmnhkmgaa
open Go.RowKit Go.MapKept
open Go.ChangeMaps (setBlock)

def z32 : List Nat := List.replicate 32 0
def hk1 : KA := ⟨1, 0, [(1, ⟨z32, 3, false⟩)]⟩
def hk2 (d : List Nat) : KA := ⟨2, 0, [(1, ⟨d, 3, false⟩), (2, ⟨z32, 3, false⟩)]⟩
theorem hh1 : KA.alloc 32 3 ⟨0, 0, []⟩ = (4294967296, 0, hk1) := by decide +kernel
theorem hh2 : KA.alloc 32 3 hk1 = (8589934592, 0, hk2 z32) := by decide +kernel
theorem hget (d : List Nat) : (hk2 d).get 1 = some ⟨d, 3, false⟩ := rfl
theorem hget2 (d : List Nat) : (hk2 d).get 2 = some ⟨z32, 3, false⟩ := rfl
theorem hspan (d : List Nat) (r : Nat) (n : Int) (p : Nat) (hr : r < 40) (hp : p ≤ 2) : (hk2 d).span (4294967296 + r) n p = if (d.length : Int) - n < r then .error 22 else .ok ⟨d, 3, false⟩ := by
  have e1 : hi32 (4294967296 + r) = 1 := by unfold hi32; omega
  have e2 : lo32 (4294967296 + r) = r := by unfold lo32; omega
  unfold KA.span
  rw [e1, e2, hget]
  have : 3 &&& p = p := by obtain rfl | rfl | rfl : p = 0 ∨ p = 1 ∨ p = 2 := by omega
                           all_goals rfl
  simp [hk2, this]
theorem hz32 : z32.length = 32 := by simp [z32]
theorem hwrite (r : Nat) (s : Nat) (u : Nat) (hr : r < 40) (hs : sizedB s = true) (hb : r + s ≤ 32) : (hk2 z32).write (4294967296 + r) s u = (0, hk2 (splice z32 r (leBytes u s))) := by
  unfold KA.write
  rw [hs]
  simp only [if_true]
  rw [hspan _ _ _ _ hr (by omega), hz32, if_neg (by omega)]
  have e1 : hi32 (4294967296 + r) = 1 := by unfold hi32; omega
  have e2 : lo32 (4294967296 + r) = r := by unfold lo32; omega
  simp [KA.upd, e1, e2, hk2]
theorem hwriteNo (r : Nat) (s : Int) (u : Nat) (hr : r < 40) (hs : ¬ (sizedB s = true ∧ (r : Int) + s ≤ 32)) : ∃ e : Int, (e == 0) = false ∧ (hk2 z32).write (4294967296 + r) s u = (e, hk2 z32) := by
  unfold KA.write
  cases hz : sizedB s with
  | false => exact ⟨1, by decide, by simp⟩
  | true =>
    simp only [if_true]
    rw [hspan _ _ _ _ hr (by omega), hz32, if_pos (by have := hs; simp [hz] at this; omega)]
    exact ⟨22, by decide, rfl⟩
theorem hbytes (d : List Nat) (hd : d.length = 32) : (hk2 d).bytes 4294967296 32 = (d, 0) := by
  unfold KA.bytes
  rw [if_neg (by decide), show (4294967296 : Nat) = 4294967296 + 0 from rfl, hspan _ 0 _ _ (by omega) (by omega), if_neg (by omega)]
  have e2 : lo32 (4294967296 + 0) = 0 := by decide
  simp only [e2, List.drop_zero, Prod.mk.injEq, and_true]
  exact List.take_of_length_le (by omega)
theorem hbytes2 (d : List Nat) : (hk2 d).bytes 8589934592 32 = (z32, 0) := by
  have e1 : hi32 8589934592 = 2 := by decide
  have e2 : lo32 8589934592 = 0 := by decide
  unfold KA.bytes KA.span
  rw [if_neg (by decide), e1, e2, hget2]
  simp [hk2, z32]
theorem run_mk32 (W : World) : (Instr.makeSlice 31 (.int .i64 32) (.int .i64 32)).run Try.prog W = .ok (.slice (some ⟨W.heap.size, 0, none⟩) 32 32) (W.alloc (byteCells z32)) := run_mk 32 (by decide) (by decide) W
theorem run_bytes32 (W : World) : (convert 31 9 (.slice (some ⟨W.heap.size, 0, none⟩) 32 32)).run Try.prog (W.alloc (byteCells z32)) = .ok (.string (bstr z32)) (W.alloc (byteCells z32)) :=
  run_bytes z32 hz32 (fun i hi => by rw [Nat.zero_add]; exact byte_reads (heap_alloc_new _ _) i (by rw [hz32]; exact hi))
theorem u64_rem40 (x : Int) (h0 : 0 ≤ x) : ∃ r : Nat, r < 40 ∧ x % 40 = r := ⟨(x % 40).toNat, by omega, by omega⟩

set_option maxRecDepth 100000 in
theorem law_holds_no (s x u : Int) (h0 : 0 ≤ x) (h1 : x < 18446744073709551616) (h2 : 0 ≤ u) (hs : ¬ (sizedB s = true ∧ x % 40 + s ≤ 32)) (w : World) :
    Calls Try.prog 3 #[.int .i64 s, .int .u64 x, .int .u64 u] w fun e w' => e = .returned (.bool true) ∧ Below w.heap.size w w' := by
  obtain ⟨r, hr, hx⟩ := u64_rem40 x h0
  obtain ⟨U, rfl⟩ := Int.eq_ofNat_of_zero_le h2
  rw [hx] at hs
  obtain ⟨e0, he0, hw⟩ := hwriteNo r s U hr hs
  have HW := hide hw
  have he1 : (e0 != 0) = true := by rw [bne_iff_ne]; simpa using he0
  have hmk := run_mk32
  have hcv := run_bytes32
  have hxx : x.tmod 40 = r := by rw [Int.tmod_eq_emod_of_nonneg h0]; exact hx
  clear hw hs h1 h2
  go_enter Try.func3, Try.ntmps3
  go_wp2_with fail
  refine (new_S w).mono ?_
  rintro e w1 ⟨m, F, rfl, k1, f1⟩
  go_wp2_with fail
  refine (alloc_S k1 (by decide) hh1).mono ?_
  rintro e w2 ⟨F2, rfl, k2, f2⟩
  replace f2 := f1.trans f2
  go_wp2_with fail
  refine (alloc_S k2 (by decide) hh2).mono ?_
  rintro e w3 ⟨F3, rfl, k3, f3⟩
  replace f3 := f2.trans f3
  go_wp2_with fail
  refine (write_S (a := 4294967296 + r) (u := U) k3 (by omega) rfl (by omega) HW.out).mono ?_
  rintro e w4 ⟨F4, rfl, k4, f4⟩
  replace f4 := f3.trans f4
  go_wp2_with fail
  refine (bytes_S k4 rfl (by decide) (hbytes z32 hz32)).mono ?_
  rintro e w5 ⟨rfl, rfl⟩
  go_wp2_with fail
  refine (bytes_S k4 rfl (by decide) (hbytes2 z32)).mono ?_
  rintro e w5 ⟨rfl, rfl⟩
  clear k1 k2 k3 f1 f2 f3
  unfold strOf
  have hcv2 : (convert 31 9 (.slice (some ⟨w4.heap.size + 1, 0, none⟩) 32 32)).run Try.prog ((w4.alloc (byteCells z32)).alloc (byteCells z32)) = .ok (.string (bstr z32)) ((w4.alloc (byteCells z32)).alloc (byteCells z32)) := by
    have := run_bytes32 (w4.alloc (byteCells z32))
    rwa [World.size_alloc] at this
  go_wp2_with fail
  refine (kawake _).mono ?_
  rintro e w8 ⟨rfl, hb⟩
  go_wp2
  go_ret
  exact ⟨rfl, (((f4.alloc _).alloc _).below0).trans (hb.mono (((f4.alloc _).alloc _).size))⟩

set_option maxRecDepth 100000 in
theorem law_holds_yes (s : Nat) (x u : Int) (h0 : 0 ≤ x) (h1 : x < 18446744073709551616) (h2 : 0 ≤ u) (hz : sizedB s = true) (hle : x % 40 + s ≤ 32) (w : World) :
    Calls Try.prog 3 #[.int .i64 s, .int .u64 x, .int .u64 u] w fun e w' => e = .returned (.bool true) ∧ Below w.heap.size w w' := by
  obtain ⟨r, hr, hx⟩ := u64_rem40 x h0
  obtain ⟨U, rfl⟩ := Int.eq_ofNat_of_zero_le h2
  rw [hx] at hle
  have HW := hide (hwrite r s U hr hz (by omega))
  have hs8 := sizedB_pos hz
  have hmk := run_mk32
  have hcv := run_bytes32
  have hxx : x.tmod 40 = r := by rw [Int.tmod_eq_emod_of_nonneg h0]; exact hx
  clear hx h1 h2 hz
  go_enter Try.func3, Try.ntmps3
  go_wp2_with fail
  refine (new_S w).mono ?_
  rintro e w1 ⟨m, F, rfl, k1, f1⟩
  go_wp2_with fail
  refine (alloc_S k1 (by decide) hh1).mono ?_
  rintro e w2 ⟨F2, rfl, k2, f2⟩
  replace f2 := f1.trans f2
  go_wp2_with fail
  refine (alloc_S k2 (by decide) hh2).mono ?_
  rintro e w3 ⟨F3, rfl, k3, f3⟩
  replace f3 := f2.trans f3
  go_wp2_with fail
  refine (write_S (a := 4294967296 + r) (u := U) k3 (by omega) rfl (by omega) HW.out).mono ?_
  rintro e w4 ⟨F4, rfl, k4, f4⟩
  replace f4 := f3.trans f4
  go_wp2_with fail
  refine (bytes_S k4 rfl (by decide) (hbytes _ (by rw [length_splice _ _ _ (by rw [length_leBytes, hz32]; omega), hz32]))).mono ?_
  rintro e w5 ⟨rfl, rfl⟩
  go_wp2_with fail
  refine (bytes_S k4 rfl (by decide) (hbytes2 _)).mono ?_
  rintro e w5 ⟨rfl, rfl⟩
  clear k1 k2 k3 k4 f1 f2 f3 HW
  unfold strOf
  go_wp2_with fail
  have hw0 : (w4.alloc (byteCells z32)).heap.size = w4.heap.size + 1 := World.size_alloc _ _
  go_loopw [18] (fun i wr => ∃ k : Nat, k ≤ s ∧ i = .int .i64 k ∧ Only (w4.heap.size + 1) ((w4.alloc (byteCells z32)).alloc (byteCells z32)) wr ∧ wr.heap[w4.heap.size + 1]? = some (byteCells (splice z32 r ((leBytes U s).take k)))) (fun i _ => s - (intOf i).toNat)
  case atStart => exact ⟨0, Nat.zero_le _, rfl, Only.refl _ _, by rw [← hw0, heap_alloc_new]; simp [splice]⟩
  case round =>
    obtain ⟨k, hk, rfl, ho, hh⟩ := hrel
    by_cases hlt : k < s
    · have hlk : ((leBytes U s).take k).length = k := by rw [List.length_take, length_leBytes]; omega
      have hlen := length_splice z32 r ((leBytes U s).take k) (by rw [hz32]; omega)
      rw [hz32] at hlen
      have hcell := byte_reads hh (r + k) (by omega)
      have hfree := byte_free hh (r + k)
      have HB := hide (shr_byte U k)
      have HR : Hid (Only (w4.heap.size + 1) ((w4.alloc (byteCells z32)).alloc (byteCells z32)) (wr.setCell ⟨w4.heap.size + 1, r + k, none⟩ (.int .u8 ((U / 256 ^ k % 256 : Nat) : Int))) ∧ (wr.setCell ⟨w4.heap.size + 1, r + k, none⟩ (.int .u8 ((U / 256 ^ k % 256 : Nat) : Int))).heap[w4.heap.size + 1]? = some (byteCells (splice z32 r ((leBytes U s).take (k + 1))))) := by
        refine ⟨ho.setCell _ _, ?_⟩
        rw [heap_store_byte hh, set_splice _ _ _ _ _ hlk (by rw [hz32]; omega), List.take_succ_eq_append_getElem (by rw [length_leBytes]; omega), ← getD_leBytes U s k hlt]
        simp [List.getD_eq_getElem?_getD, List.getElem?_eq_getElem (show k < (leBytes U s).length by rw [length_leBytes]; omega)]
      clear ho hh hlk hlen hw0
      generalize (splice z32 r ((leBytes U s).take k)).getD (r + k) 0 = q at hcell
      go_wp2
      rw [HB.out]
      exact ⟨⟨k + 1, by omega, by go_num, HR.out.1, HR.out.2⟩, by simp [intOf]; omega⟩
    · obtain rfl : k = s := by omega
      rw [List.take_of_length_le (by rw [length_leBytes]; omega)] at hh
      have hcv2 : (convert 31 9 (.slice (some ⟨w4.heap.size + 1, 0, none⟩) 32 32)).run Try.prog wr = .ok (.string (bstr (splice z32 r (leBytes U k)))) wr :=
        run_bytes _ (by rw [length_splice _ _ _ (by rw [length_leBytes, hz32]; omega), hz32]) (fun i hi => by rw [Nat.zero_add]; exact byte_reads hh i (by rw [length_splice _ _ _ (by rw [length_leBytes, hz32]; omega), hz32]; exact hi))
      have hgr : ((w4.alloc (byteCells z32)).alloc (byteCells z32)).grownBy wr (some (w4.heap.size + 1)) := ⟨ho.os, ho.tape, ho.output, by rw [ho.size]; exact Nat.le_refl _, fun b _ hb => ho.block b (fun e => hb (by rw [e]))⟩
      have f8 := ((f4.alloc (byteCells z32)).alloc (byteCells z32)).own hgr (fun b hb => by have := f4.size; cases hb; omega)
      clear ho hh hw0 hgr f4 hcv
      go_wp2_with fail
      refine (kawake _).mono ?_
      rintro e w8 ⟨rfl, hb⟩
      go_wp2
      go_ret
      exact ⟨rfl, f8.below0.trans (hb.mono f8.size)⟩

theorem law_holds (s x u : Int) (h0 : 0 ≤ x) (h1 : x < 18446744073709551616) (h2 : 0 ≤ u) (w : World) :
    Calls Try.prog 3 #[.int .i64 s, .int .u64 x, .int .u64 u] w fun e w' => e = .returned (.bool true) ∧ Below w.heap.size w w' := by
  by_cases hs : sizedB s = true ∧ x % 40 + s ≤ 32
  · have := sizedB_pos hs.1
    obtain ⟨S, rfl⟩ : ∃ S : Nat, s = S := ⟨s.toNat, by omega⟩
    exact law_holds_yes S x u h0 h1 h2 hs.1 hs.2 w
  · exact law_holds_no s x u h0 h1 h2 hs w
end Go.Proofs.Yteglgmdmnhkmgaa
