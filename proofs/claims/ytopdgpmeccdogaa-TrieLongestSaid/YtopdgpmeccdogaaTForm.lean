/- Contract of the trie's form: it tells a text, in new memory; condition: the table lies in the world. -/
import Derived.Test.YtopdgpmeccdogaaTMake2
set_option linter.unusedVariables false
set_option linter.unusedSimpArgs false
namespace Go.Proofs.Ytopdgpmeccdogaa
open Go.RowKit Go.MapKept
open Go.ChangeMaps (setBlock)

def FormRel (w : World) (K : Nat) (wr : World) : Prop := ∃ l : List Nat, l.length = K ∧ Only w.heap.size (w.alloc (byteCells (List.replicate K 0))) wr ∧ wr.heap[w.heap.size]? = some (byteCells l)
theorem FormRel.start (w : World) (K : Nat) : FormRel w K (w.alloc (byteCells (List.replicate K 0))) := ⟨List.replicate K 0, by simp, Only.refl _ _, heap_alloc_new _ _⟩
theorem FormRel.store {w : World} {K : Nat} {wr : World} (h : FormRel w K wr) (i : Nat) (q : Int) (hq : 0 ≤ q) : FormRel w K (wr.setCell ⟨w.heap.size, i, none⟩ (.int .u8 q)) := by
  obtain ⟨l, h1, h2, h3⟩ := h
  obtain ⟨n, rfl⟩ : ∃ n : Nat, q = n := ⟨q.toNat, by omega⟩
  exact ⟨l.set i n, by simpa using h1, h2.setCell _ _, heap_store_byte h3⟩
theorem FormRel.drew {w : World} {K : Nat} {wr : World} (h : FormRel w K wr) : FormRel w K wr.drew := by
  obtain ⟨l, h1, h2, h3⟩ := h
  exact ⟨l, h1, h2.drew, h3⟩
theorem or_u8_nonneg (a b : Int) : 0 ≤ bits BinOp.or IntKind.u8 a b := by
  show 0 ≤ IntKind.u8.wrap _
  exact Int.emod_nonneg _ (by decide)
def StrPost (w : World) (e : Ending) (w' : World) : Prop := ∃ f : ByteArray, e = .returned (.string f) ∧ Fr [] [] w w'
set_option maxRecDepth 100000 in
set_option maxHeartbeats 800000 in
theorem form_ok {w : World} {x m : Nat} {s : TSpec} {t : CT} {n : Nat} (h : TM w x m s t n) (p : List Bool) (d : Nat) (hd : w.heap[d]? = some (byteCells (pbits p))) (h4 : 4 ≤ s.key) (h5 : s.key ≤ 260) (hp : p.length ≤ 8 * (s.key - 4)) :
    Calls Try.prog 36 #[.pointer (some ⟨x, 0, none⟩), .slice (some ⟨d, 0, none⟩) p.length p.length] w (StrPost w) := by
  obtain ⟨c0, c2, c3, c4, c5, c6, -⟩ := h.cells
  have hmk := run_mk (s.key : Nat) (by omega) (by omega)
  simp only [Int.toNat_natCast] at hmk
  have hk0 : (0 : Int) ≤ s.key := by omega
  have hp0 : (p.length : Int) ≤ 2048 := by omega
  have HD := hide hd
  have hdl := lt_of_heap hd
  clear h hd
  go_enter Try.func36, Try.ntmps36
  go_wp2
  go_loopw [15] (fun i wr => ∃ k : Nat, k ≤ 4 ∧ i = .int .i64 k ∧ FormRel w s.key wr) (fun i _ => 4 - (intOf i).toNat)
  case atStart => exact ⟨0, by omega, rfl, FormRel.start _ _⟩
  case round =>
    obtain ⟨k, hk, rfl, hf⟩ := hrel
    by_cases hlt : k < 4
    · obtain ⟨l, g1, g2, g3⟩ := hf
      have hcell := byte_reads g3 k (by omega)
      have hfree := byte_free g3 k
      have HF : Hid (FormRel w s.key wr) := hide ⟨l, g1, g2, g3⟩
      have hks : (k : Int) < s.key := by omega
      generalize l.getD k 0 = q at hcell
      clear g1 g2 g3
      go_wp2
      exact ⟨⟨k + 1, by omega, by go_num, HF.out.store k _ (Int.emod_nonneg _ (by decide))⟩, by simp [intOf]; omega⟩
    · obtain rfl : k = 4 := by omega
      have hf0 := hide hf
      clear hf
      go_wp2
      go_loopw [30] (fun i wr => ∃ k : Nat, k ≤ p.length ∧ i = .int .i64 k ∧ FormRel w s.key wr) (fun i _ => p.length - (intOf i).toNat)
      case atStart => exact ⟨0, by omega, rfl, hf0.out⟩
      case round =>
        obtain ⟨k, hk, rfl, hf⟩ := hrel
        clear hf0
        have HF := hide hf
        obtain ⟨l, g1, g2, g3⟩ := hf
        have hfr : Fr [] [] w wr := g2.fresh (Nat.le_refl _)
        by_cases hlt : k < p.length
        · have hdw : wr.heap[d]? = some (byteCells (pbits p)) := hfr.keep HD.out (by simp)
          have hcd := byte_reads hdw k (by rw [pbits_length]; exact hlt)
          have hi : 4 + k / 8 < s.key := by omega
          have hi2 : (4 : Int) + k / 8 < s.key := by omega
          have hcell := byte_reads g3 (4 + k / 8) (by omega)
          have hfree := byte_free g3 (4 + k / 8)
          generalize l.getD (4 + k / 8) 0 = q at hcell
          generalize (pbits p).getD k 0 = q2 at hcd
          clear g1 g2 g3 hfr hdw
          go_wp2
          go_region
          all_goals
            go_wp2
            exact ⟨⟨k + 1, by omega, by go_num, (HF.out.store (4 + k / 8) _ (or_u8_nonneg _ _)).drew⟩, by simp [intOf]; omega⟩
        · obtain rfl : k = p.length := by omega
          have hcv : (convert 42 9 (.slice (some ⟨w.heap.size, 0, none⟩) s.key s.key)).run Try.prog wr = .ok (.string (bstr l)) wr :=
            run_bytes _ g1 (fun i hi => by rw [Nat.zero_add]; exact byte_reads g3 i (by omega))
          clear g1 g2 g3 HF
          go_wp2
          go_ret
          exact ⟨_, rfl, hfr⟩
end Go.Proofs.Ytopdgpmeccdogaa
