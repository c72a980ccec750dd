/- The reference's Le answers as the plain data say: a number's low bytes, at most 8; old memory stays. -/
import Derived.Test.YtgkbiknokpmjmaaKLaw
set_option linter.unusedVariables false
set_option linter.unusedSimpArgs false
namespace Go.Proofs.Ytgkbiknokpmjmaa
open Go.RowKit Go.MapKept
open Go.ChangeMaps (setBlock)

def LePost (w : World) (v : Value) (e : Ending) (w' : World) : Prop := e = .returned v ∧ Fr [] [] w w'
theorem Only.freshL {d : Nat} {w w' : World} {o : Obj} (h : Only d (w.alloc o) w') (hd : w.heap.size ≤ d) : Fr [] [] w w' where
  os := h.os
  tape := h.tape
  output := h.output
  size := by have := h.size; rw [World.size_alloc] at this; omega
  block := fun k hk _ => by rw [h.block k (by omega)]; exact ((Fr.refl [] w).alloc o).block k hk (by simp)
  foot := fun k hk => .inl hk
set_option maxRecDepth 100000 in
theorem le_calls (u n : Nat) (hn : n ≤ 8) (w : World) : Calls Try.prog 8 #[.int .u64 u, .int .i64 n] w (LePost w (strOf (leBytes u n))) := by
  have hmk := run_mk n (by omega) (by omega)
  simp only [Int.toNat_natCast] at hmk
  go_enter Try.func8, Try.ntmps8
  go_wp2_with fail
  go_loopw [6] (fun i wr => ∃ k : Nat, k ≤ n ∧ i = .int .i64 k ∧ Only w.heap.size (w.alloc (byteCells (List.replicate n 0))) wr ∧ wr.heap[w.heap.size]? = some (byteCells (splice (List.replicate n 0) 0 ((leBytes u n).take k)))) (fun i _ => n - (intOf i).toNat)
  case atStart => exact ⟨0, Nat.zero_le _, rfl, Only.refl _ _, by rw [heap_alloc_new]; simp [splice]⟩
  case round =>
    obtain ⟨k, hk, rfl, ho, hh⟩ := hrel
    have hz : (List.replicate n 0).length = n := List.length_replicate
    by_cases hlt : k < n
    · have hlk : ((leBytes u n).take k).length = k := by rw [List.length_take, length_leBytes]; omega
      have hlen := length_splice (List.replicate n 0) 0 ((leBytes u n).take k) (by rw [hz]; omega)
      rw [hz] at hlen
      have hcell := byte_reads hh k (by omega)
      have hfree := byte_free hh k
      have HB := hide (shr_byte u k)
      have HR : Hid (Only w.heap.size (w.alloc (byteCells (List.replicate n 0))) (wr.setCell ⟨w.heap.size, k, none⟩ (.int .u8 ((u / 256 ^ k % 256 : Nat) : Int))) ∧ (wr.setCell ⟨w.heap.size, k, none⟩ (.int .u8 ((u / 256 ^ k % 256 : Nat) : Int))).heap[w.heap.size]? = some (byteCells (splice (List.replicate n 0) 0 ((leBytes u n).take (k + 1))))) := by
        refine ⟨ho.setCell _ _, ?_⟩
        have := set_splice (List.replicate n 0) 0 k (u / 256 ^ k % 256) ((leBytes u n).take k) hlk (by rw [hz]; omega)
        rw [Nat.zero_add] at this
        rw [heap_store_byte hh, this, List.take_succ_eq_append_getElem (by rw [length_leBytes]; omega), ← getD_leBytes u n k hlt]
        simp [List.getD_eq_getElem?_getD, List.getElem?_eq_getElem (show k < (leBytes u n).length by rw [length_leBytes]; omega)]
      clear ho hh hlk hlen
      generalize (splice (List.replicate n 0) 0 ((leBytes u n).take k)).getD k 0 = q at hcell
      go_wp2
      rw [HB.out]
      exact ⟨⟨k + 1, by omega, by go_num, HR.out.1, HR.out.2⟩, by simp [intOf]; omega⟩
    · obtain rfl : k = n := by omega
      rw [List.take_of_length_le (by rw [length_leBytes]; omega)] at hh
      have e : splice (List.replicate k 0) 0 (leBytes u k) = leBytes u k := by simp [splice, length_leBytes]
      rw [e] at hh
      have hcv : (convert 70 9 (.slice (some ⟨w.heap.size, 0, none⟩) k k)).run Try.prog wr = .ok (.string (bstr (leBytes u k))) wr :=
        run_bytes _ (length_leBytes _ _) (fun i hi => by rw [Nat.zero_add]; exact byte_reads hh i (by rw [length_leBytes]; exact hi))
      have hfr := ho.freshL (Nat.le_refl _)
      clear ho hh
      go_wp2
      go_ret
      exact ⟨rfl, hfr⟩
end Go.Proofs.Ytgkbiknokpmjmaa
