/- Contract of flat's New at an array for each CPU, and of Update on it; conditions: the spec may be, each allocation goes well. -/
import Derived.Test.YtmgocjclopfeeaaFPure2
set_option linter.unusedVariables false
set_option linter.unusedSimpArgs false
namespace Go.Proofs.Ytmgocjclopfeeaa
open Go.RowKit Go.MapKept
open Go.ChangeMaps (setBlock)

def boxSpec (v n : Nat) : Obj := .cells #[.int .i64 6, .int .i64 4, .int .i64 v, .int .i64 n] 29 (0, 0)
def NW (w : World) (m v n : Nat) (F : List Nat) (A : Nat → KA) (ad : Nat → Nat) (j : Nat) (l : Value) (wr : World) : Prop :=
  ∃ F', KS wr m (A j) F' ∧ Fr F F' w wr ∧ wr.ownsRow 0 33 1 l j ((List.range j).map fun i => Value.int .u64 (ad i)) ∧ (∀ g, l.ownBlock = some g → w.heap.size < g ∧ g ∉ F') ∧ wr.heap[w.heap.size]? = some (boxSpec v n) ∧ w.heap.size ∉ F'
theorem boxSpec_cells {W : World} {b v n : Nat} (h : W.heap[b]? = some (boxSpec v n)) : W.cell? ⟨b, 0, none⟩ = some (.int .i64 6) ∧ W.cell? ⟨b, 1, none⟩ = some (.int .i64 4) ∧ W.cell? ⟨b, 2, none⟩ = some (.int .i64 v) ∧ W.cell? ⟨b, 3, none⟩ = some (.int .i64 n) := by
  simp [World.cell?, h, boxSpec]
theorem boxSpec_new (W : World) (v n : Nat) : (W.alloc (.cells #[.int .i64 6, .int .i64 4, .int .i64 v, .int .i64 n] 29)).heap[W.heap.size]? = some (boxSpec v n) := heap_alloc_new _ _
def NWPost (w : World) (m : Nat) (F : List Nat) (v n N : Nat) (A : Nat → KA) (ad : Nat → Nat) (e : Ending) (w' : World) : Prop :=
  ∃ x g cap F', e = .returned (.tuple #[.pointer (some ⟨x, 0, none⟩), .int .i64 0]) ∧ FM w' x m ⟨6, v, n⟩ (.own g cap ((List.range N).map ad)) ∧ KS w' m (A N) F' ∧ x ∉ F' ∧ g ∉ F' ∧ w.heap.size ≤ x ∧ w.heap.size ≤ g ∧ Fr F F' w w'
set_option maxRecDepth 100000 in
set_option maxHeartbeats 1600000 in
theorem fnew_cpus {w : World} {m v n N : Nat} {F : List Nat} (A : Nat → KA) (ad : Nat → Nat) (hk : KS w m (A 0) F) (hc : 1 ≤ N ∧ N ≤ 8) (hv : 1 ≤ v ∧ v ≤ 4096) (hn : 1 ≤ n ∧ n ≤ 4096) (hs : n * fwide v ≤ 1048576)
    (hm : ∀ j, j < N → (A j).made + 1 < 4294967296) (ha : ∀ j, j < N → (A j).alloc (n * fwide v : Nat) 3 = (ad j, 0, A (j + 1))) (hal : ∀ j, j < N → ad j < 9223372036854775808) :
    Calls Try.prog 9 #[.pointer (some ⟨m, 0, none⟩), .agg #[.int .i64 6, .int .i64 4, .int .i64 v, .int .i64 n], .int .i64 N] w (NWPost w m F v n N A ad) := by
  have hw8 := wide_calls v hv.2
  have HW := fun w => hide (hw8 w)
  have hb1 : (1 : Int) ≤ v := by omega
  have hb2 : (v : Int) ≤ 4096 := by omega
  have hb3 : (1 : Int) ≤ n := by omega
  have hb4 : (n : Int) ≤ 4096 := by omega
  have hfw := fwide_le v hv.2
  have hp : ((n : Int) * (fwide v : Nat)) ≤ 1048576 := by rw [← Int.natCast_mul]; omega
  have HA : ∀ j, j < N → ∀ W z F, KS W m (A j) F → z = ((n * fwide v : Nat) : Int) → Hid (Calls Try.prog 26 #[.pointer (some ⟨m, 0, none⟩), .int .i64 z, .int .i64 3] W (KPostS m F W (.tuple #[.int .u64 (ad j), .int .i64 0]) (A (j + 1)))) := fun j hj W z F hW hz =>
    hide (by subst hz; exact alloc_S hW (hm j hj) (ha j hj))
  have hp1 : wrap64 ((n : Int) * (fwide v : Nat)) = ((n * fwide v : Nat) : Int) := by rw [Int.natCast_mul]; unfold wrap64; omega
  have hp2 : IntKind.i64.wrap ((n : Int) * (fwide v : Nat)) = ((n * fwide v : Nat) : Int) := by rw [IntWalk.i64_left]; exact hp1
  have hp1 := hide hp1
  have hp2 := hide hp2
  have HAL := hide hal
  obtain ⟨hc1, hc2⟩ := hc
  have hc1' : (1 : Int) ≤ N := by omega
  have hc2' : (N : Int) ≤ 8 := by omega
  clear hw8 hm ha hal
  obtain ⟨i0, hi, hz0, hz1, hz2⟩ := info_parts K.info64
  have hst := boxSpec_new w v n
  go_enter Try.func9, Try.ntmps9
  go_wp2_with fail
  go_quiet ((go_at_call 25; exact Calls.quiet_of_same ((HW _).out.mono (fun e w' h => ⟨h.1, h.2.symm⟩))))
  go_wp2_with fail
  go_loopw [10, 70] (fun l i wr => ∃ j : Nat, j ≤ N ∧ i = .int .i64 j ∧ NW w m v n F A ad j l wr) (fun _ i _ => N - (intOf i).toNat)
  case atStart => exact ⟨0, Nat.zero_le _, rfl, F, (hk.alloc _).drewN _, ((Fr.refl F w).alloc _).drewN _, World.ownsRow_nil _ _ _ _, (fun g hg => by cases hg), hst, fun hf => Nat.lt_irrefl _ (hk.lt _ hf)⟩
  case round =>
    obtain ⟨j, hj, rfl, F1, hk1, f1, o1, nb1, hst1, hni⟩ := hrel
    by_cases hlt : j < N
    · have HAj := HA j hlt
      obtain ⟨c0, c1, c2, c3⟩ := boxSpec_cells hst1
      clear HA
      go_wp2_with fail
      go_region_with (first | (go_at_call 25; refine (HW _).out.mono ?_; rintro e w' ⟨rfl, rfl⟩) | (go_at_call 26; refine (HAj _ _ F1 ?_ ?_).out.mono ?_; (first | exact hk1 | exact hk1.drew | exact hk1.drewN _); (first | exact (Int.natCast_mul _ _).symm | exact hp1.out | exact hp2.out); rintro e w2 ⟨F2, rfl, hk2, f2⟩))
      all_goals
        have hf2 : Fr F F2 w w2 := by first | exact f1.trans f2 | exact f1.drew.trans f2 | exact (f1.drewN _).trans f2
        have hst2 : w2.heap[w.heap.size]? = some (boxSpec v n) := f2.keep hst1 hni
        have hni2 : w.heap.size ∉ F2 := f2.notin (lt_of_heap hst1) hni
        have HO := ownsRow_keep o1 (w' := w2) (fun g hg => f2.block g (ownsRow_lt o1 g hg) (nb1 g hg).2)
        have HN : ∀ g, (u10 : Value).ownBlock = some g → w.heap.size < g ∧ g ∉ F2 := fun g hg => ⟨(nb1 g hg).1, f2.notin (ownsRow_lt o1 g hg) (nb1 g hg).2⟩
        clear o1 nb1 hk1 f1 f2 hst1 hni c0 c1 c2 c3
        have hw2 := hf2.size
        have hwb := lt_of_heap hst2
        go_wp2_with (at_builtin; refine wpList_append_own_at _ rfl _ _ 66 rfl 0 33 i0 (.int .u64 0) 1 8 K.undOwn hi hz0 hz1 hz2 rfl (by decide) _ _ _ rfl (HO.alloc _) ⟨w2.heap.size, 0, none⟩ 1 1 [.int .u64 (ad j)] rfl rfl (cell_one_new _ _ _) ?c1 ?c2 ?c3 (Nat.zero_le _) ?_)
        case c1 => simp [Value.oneCell']
        case c2 => unfold maxLen; omega
        case c3 => omega
        intro v' w6 hown' hgrow hnil hat
        have HR2 : Hid (NW w m v n F A ad (j + 1) v' w6) := by
          have e1 : (List.range (j + 1)).map (fun i => Value.int .u64 (ad i)) = (List.range j).map (fun i => Value.int .u64 (ad i)) ++ [.int .u64 (ad j)] := by
            rw [List.range_succ]; simp
          refine ⟨F2, ?_, ?_, by rw [e1]; exact hown', ?_, ?_, hni2⟩
          · exact (hk2.alloc _).own hgrow (fun b hb => (HN b hb).2)
          · exact (hf2.alloc _).own hgrow (fun b hb => Nat.le_of_lt (HN b hb).1)
          · intro g hg
            rw [hg] at hat
            rcases hat with hat | hat
            · exact ⟨(HN g hat.symm).1, (HN g hat.symm).2⟩
            · have hg' : g = w2.heap.size + 1 := by simpa using hat
              exact ⟨by omega, fun hf => by have := hk2.lt g hf; omega⟩
          · rw [hgrow.block _ (by rw [World.size_alloc]; omega) (fun e => Nat.lt_irrefl _ (HN _ e.symm).1)]
            exact heap_alloc_some hst2
        clear hown' hgrow hnil hat HN HO hf2 hk2 hst2 hni2
        go_wp2
        exact ⟨⟨j + 1, by omega, by go_num, HR2.out⟩, by simp [intOf]; omega⟩
    · obtain rfl : j = N := by omega
      obtain ⟨c0, c1, c2, c3⟩ := boxSpec_cells hst1
      rcases o1.2 with ⟨_, hz⟩ | ⟨g, cap, cur, hv', -, hh, hcap, hcm, hcs, htk⟩
      · omega
      subst hv'
      obtain ⟨hg1, hg2⟩ := nb1 g rfl
      have hgl := lt_of_heap hh
      have hwb := lt_of_heap hst1
      have HH := hide (And.intro hh (And.intro hcs htk))
      have HF := hide (And.intro hk1 f1)
      clear o1 nb1 hh hcs htk hk1 f1 HA
      go_wp2
      go_ret2
      have hlen : ((List.range j).map ad).length = j := by rw [List.length_map, List.length_range]
      refine ⟨_, g, cap, F1, rfl, ⟨?hx, ?own, hv, hn, ?ad⟩, HF.out.1.alloc _, fun hf => Nat.lt_irrefl _ (HF.out.1.lt _ hf), hg2, HF.out.2.size, by omega, HF.out.2.alloc _⟩
      case hx =>
        simp only [FR.val, hlen]
        exact heap_alloc_new _ _
      case own =>
        intro g' cap' l' hR
        cases hR
        refine ⟨fun e => Nat.lt_irrefl _ (e ▸ hgl), by rw [hlen]; exact hcap, by rw [hlen]; exact hc1, by rw [hlen]; exact hc2, (cur.toList.drop j).toArray, ?_⟩
        rw [heap_alloc_some HH.out.1]
        congr 2
        have h1 := HH.out.2.2
        rw [Nat.mul_one] at h1
        have h2 : ((List.range j).map ad).map (fun (a : Nat) => Value.int .u64 a) = (List.range j).map fun i => Value.int .u64 (ad i) := by rw [List.map_map]; rfl
        rw [h2, ← h1]
        apply Array.toList_inj.1
        simp
      case ad =>
        intro a' ha'
        simp only [FR.ads, List.mem_map, List.mem_range] at ha'
        obtain ⟨q, hq, rfl⟩ := ha'
        exact HAL.out q hq
end Go.Proofs.Ytmgocjclopfeeaa
