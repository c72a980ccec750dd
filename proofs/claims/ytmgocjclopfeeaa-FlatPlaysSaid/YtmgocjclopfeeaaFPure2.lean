/- Several texts of this claim in one: each is told where it begins. -/
import Derived.Test.YtmgocjclopfeeaaKLaw
import Derived.Test.YtmgocjclopfeeaaFWalk6
/- The reference's Le answers as the plain data say: a number's low bytes, at most 8; old memory stays. -/
set_option linter.unusedVariables false
set_option linter.unusedSimpArgs false
namespace Go.Proofs.Ytmgocjclopfeeaa
open Go.RowKit Go.MapKept
open Go.ChangeMaps (setBlock)

def FreshPost (w : World) (v : Value) (e : Ending) (w' : World) : Prop := e = .returned v ∧ Fr [] [] w w'
theorem Only.fresh {d : Nat} {w w' : World} {o : Obj} (h : Only d (w.alloc o) w') (hd : w.heap.size ≤ d) : Fr [] [] w w' where
  os := h.os
  tape := h.tape
  output := h.output
  size := by have := h.size; rw [World.size_alloc] at this; omega
  block := fun k hk _ => by rw [h.block k (by omega)]; exact ((Fr.refl [] w).alloc o).block k hk (by simp)
  foot := fun k hk => .inl hk
set_option maxRecDepth 100000 in
theorem le_calls (u n : Nat) (hn : n ≤ 8) (w : World) : Calls Try.prog 11 #[.int .u64 u, .int .i64 n] w (FreshPost w (strOf (leBytes u n))) := by
  have hmk := run_mk n (by omega) (by omega)
  simp only [Int.toNat_natCast] at hmk
  go_enter Try.func11, Try.ntmps11
  go_wp2_with fail
  go_loopw [6] (fun i wr => ∃ k : Nat, k ≤ n ∧ i = .int .i64 k ∧ Only w.heap.size (w.alloc (byteCells (List.replicate n 0))) wr ∧ wr.heap[w.heap.size]? = some (byteCells (splice (List.replicate n 0) 0 ((leBytes u n).take k)))) (fun i _ => n - (intOf i).toNat)
  case atStart => exact ⟨0, Nat.zero_le _, rfl, Only.refl _ _, by rw [heap_alloc_new]; simp [splice]⟩
  case round =>
    obtain ⟨k, hk, rfl, ho, hh⟩ := hrel
    have hz : (List.replicate n 0).length = n := List.length_replicate
    by_cases hlt : k < n
    · have hlk : ((leBytes u n).take k).length = k := by rw [List.length_take, length_leBytes]; omega
      have hlen := length_splice (List.replicate n 0) 0 ((leBytes u n).take k) (by rw [hz]; omega)
      rw [hz] at hlen
      have hcell := byte_reads hh k (by omega)
      have hfree := byte_free hh k
      have HB := hide (shr_byte u k)
      have HR : Hid (Only w.heap.size (w.alloc (byteCells (List.replicate n 0))) (wr.setCell ⟨w.heap.size, k, none⟩ (.int .u8 ((u / 256 ^ k % 256 : Nat) : Int))) ∧ (wr.setCell ⟨w.heap.size, k, none⟩ (.int .u8 ((u / 256 ^ k % 256 : Nat) : Int))).heap[w.heap.size]? = some (byteCells (splice (List.replicate n 0) 0 ((leBytes u n).take (k + 1))))) := by
        refine ⟨ho.setCell _ _, ?_⟩
        have := set_splice (List.replicate n 0) 0 k (u / 256 ^ k % 256) ((leBytes u n).take k) hlk (by rw [hz]; omega)
        rw [Nat.zero_add] at this
        rw [heap_store_byte hh, this, List.take_succ_eq_append_getElem (by rw [length_leBytes]; omega), ← getD_leBytes u n k hlt]
        simp [List.getD_eq_getElem?_getD, List.getElem?_eq_getElem (show k < (leBytes u n).length by rw [length_leBytes]; omega)]
      clear ho hh hlk hlen
      generalize (splice (List.replicate n 0) 0 ((leBytes u n).take k)).getD k 0 = q at hcell
      go_wp2
      rw [HB.out]
      exact ⟨⟨k + 1, by omega, by go_num, HR.out.1, HR.out.2⟩, by simp [intOf]; omega⟩
    · obtain rfl : k = n := by omega
      rw [List.take_of_length_le (by rw [length_leBytes]; omega)] at hh
      have e : splice (List.replicate k 0) 0 (leBytes u k) = leBytes u k := by simp [splice, length_leBytes]
      rw [e] at hh
      have hcv : (convert 39 9 (.slice (some ⟨w.heap.size, 0, none⟩) k k)).run Try.prog wr = .ok (.string (bstr (leBytes u k))) wr :=
        run_bytes _ (length_leBytes _ _) (fun i hi => by rw [Nat.zero_add]; exact byte_reads hh i (by rw [length_leBytes]; exact hi))
      have hfr := ho.fresh (Nat.le_refl _)
      clear ho hh
      go_wp2
      go_ret
      exact ⟨rfl, hfr⟩
end Go.Proofs.Ytmgocjclopfeeaa

/- Plain facts about the keys of an array and about its first region; conditions at each. -/
set_option linter.unusedVariables false
set_option linter.unusedSimpArgs false
namespace Go.Proofs.Ytmgocjclopfeeaa

end Go.Proofs.Ytmgocjclopfeeaa

/- Plain facts about reading and writing within a live region; conditions at each. -/
set_option linter.unusedVariables false
set_option linter.unusedSimpArgs false
namespace Go.Proofs.Ytmgocjclopfeeaa

theorem kspan_ok (k : KA) (g r : Nat) (n : Int) (p : Nat) (R : RA) (hg : k.get g = some R) (h1 : 1 ≤ g) (h2 : g ≤ k.made) (hr : r < 4294967296) (hp : R.perm &&& p = p) (hb : (r : Int) + n ≤ R.bytes.length) :
    k.span (g * 4294967296 + r) n p = .ok R := by
  have e1 : hi32 (g * 4294967296 + r) = g := by unfold hi32; omega
  have e2 : lo32 (g * 4294967296 + r) = r := by unfold lo32; omega
  unfold KA.span
  rw [e1, e2, hg, if_neg (by omega)]
  simp only [hp, ne_eq, not_true_eq_false, if_false]
  rw [if_neg (by omega)]
theorem bytes_ok (k : KA) (g r n : Nat) (R : RA) (hg : k.get g = some R) (h1 : 1 ≤ g) (h2 : g ≤ k.made) (hr : r < 4294967296) (hn : n ≤ 1048576) (hb : r + n ≤ R.bytes.length) :
    k.bytes (g * 4294967296 + r) n = ((R.bytes.drop r).take n, 0) := by
  have e2 : lo32 (g * 4294967296 + r) = r := by unfold lo32; omega
  unfold KA.bytes
  rw [if_neg (by omega), kspan_ok k g r n 0 R hg h1 h2 hr (by simp) (by omega)]
  simp only [e2, Int.toNat_natCast]
theorem put_ok (k : KA) (g r : Nat) (s : List Nat) (R : RA) (hg : k.get g = some R) (h1 : 1 ≤ g) (h2 : g ≤ k.made) (hr : r < 4294967296) (hn : s.length ≤ 1048576) (hb : r + s.length ≤ R.bytes.length) :
    k.put (g * 4294967296 + r) s = (0, k.upd g fun R => { R with bytes := splice R.bytes r s }) := by
  have e1 : hi32 (g * 4294967296 + r) = g := by unfold hi32; omega
  have e2 : lo32 (g * 4294967296 + r) = r := by unfold lo32; omega
  unfold KA.put
  rw [if_neg (by omega), kspan_ok k g r s.length 0 R hg h1 h2 hr (by simp) (by omega)]
  simp only [e1, e2]
end Go.Proofs.Ytmgocjclopfeeaa
