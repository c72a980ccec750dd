/- Contract of arm's moves at a load or store; no other condition. -/
import Derived.Test.YthkbncoklgpobaaAAll
import Derived.Deep.DeepCutAuto
set_option linter.unusedVariables false
set_option linter.unusedSimpArgs false
namespace Go.Proofs.Ythkbncoklgpobaa
open Go.RowKit Go.MapKept
open Go.ChangeMaps (setBlock)
open Go.Proofs.YthkbncoklgpobaaW.PrintWords Go.Proofs.YthkbncoklgpobaaW.PrintLast Go.Proofs.YthkbncoklgpobaaW.PrintMore

theorem AK.und : Try.prog.underlying 61 = some (.map 3 3) := by kernel_rfl
theorem AK.undInt : Try.prog.underlying 3 = some (.int .i64) := by kernel_rfl
def me (k v : Int) (b : Nat) : MapEntry := { key := .int .i64 k, val := .int .i64 v, born := b }
theorem setBlock_alloc (X : World) (o o' : Obj) : setBlock (X.alloc o) X.heap.size o' = X.alloc o' := by
  simp only [setBlock, World.alloc]
  congr 1
  apply Array.ext
  · simp
  · intro i h1 h2
    rw [Array.getElem_setIfInBounds, Array.getElem_push, Array.getElem_push]
    by_cases e : X.heap.size = i
    · rw [if_pos e, dif_neg (by omega)]
    · have : i < X.heap.size := by simp at h2; omega
      rw [if_neg e, dif_pos this, dif_pos this]
    · simp at h2 ⊢
      omega
def m0 : Array MapEntry := #[]
def m1 : Array MapEntry := #[me 18 945842176 0]
def m2 : Array MapEntry := #[me 18 945842176 0, me 19 950036480 1]
def m3 : Array MapEntry := #[me 18 945842176 0, me 19 950036480 1, me 20 941647872 2]
theorem km0 : Keys (.int .i64) m0 := ⟨by simp [m0], by simp [m0]⟩
theorem km1 : Keys (.int .i64) m1 := ⟨by simp [m1, me, IsKey], by simp [m1]⟩
theorem km2 : Keys (.int .i64) m2 := ⟨by simp [m2, me, IsKey], by simp [m2, me]⟩
theorem km3 : Keys (.int .i64) m3 := ⟨by simp [m3, me, IsKey], by simp [m3, me]⟩
theorem up1 (X : World) : (Instr.mapUpdate 61 (.map (some X.heap.size)) (.int .i64 18) (.int .i64 945842176)).run Try.prog (X.alloc (.map #[] 0)) = .ok () (X.alloc (.map m1 1)) := by
  refine (run_update_new (k := .int .i64 18) AK.und AK.undInt rfl km0 (heap_alloc_new X _) (by simp [m0]) _).trans ?_
  rw [setBlock_alloc]
  rfl
theorem up2 (X : World) : (Instr.mapUpdate 61 (.map (some X.heap.size)) (.int .i64 19) (.int .i64 950036480)).run Try.prog (X.alloc (.map m1 1)) = .ok () (X.alloc (.map m2 2)) := by
  refine (run_update_new (k := .int .i64 19) AK.und AK.undInt rfl km1 (heap_alloc_new X _) (by simp [m1, me]) _).trans ?_
  rw [setBlock_alloc]
  rfl
theorem up3 (X : World) : (Instr.mapUpdate 61 (.map (some X.heap.size)) (.int .i64 20) (.int .i64 941647872)).run Try.prog (X.alloc (.map m2 2)) = .ok () (X.alloc (.map m3 3)) := by
  refine (run_update_new (k := .int .i64 20) AK.und AK.undInt rfl km2 (heap_alloc_new X _) (by simp [m2, me]) _).trans ?_
  rw [setBlock_alloc]
  rfl
theorem lu18 (X : World) : (Instr.lookup 61 (.map (some X.heap.size)) (.int .i64 18) false).run Try.prog (X.alloc (.map m3 3)) = .ok (.int .i64 945842176) (X.alloc (.map m3 3)) :=
  run_lookup_hit (k := .int .i64 18) (j := 0) AK.und AK.undInt rfl km3 (heap_alloc_new X _) rfl rfl
theorem lu19 (X : World) : (Instr.lookup 61 (.map (some X.heap.size)) (.int .i64 19) false).run Try.prog (X.alloc (.map m3 3)) = .ok (.int .i64 950036480) (X.alloc (.map m3 3)) :=
  run_lookup_hit (k := .int .i64 19) (j := 1) AK.und AK.undInt rfl km3 (heap_alloc_new X _) rfl rfl
theorem lu20 (X : World) : (Instr.lookup 61 (.map (some X.heap.size)) (.int .i64 20) false).run Try.prog (X.alloc (.map m3 3)) = .ok (.int .i64 941647872) (X.alloc (.map m3 3)) :=
  run_lookup_hit (k := .int .i64 20) (j := 2) AK.und AK.undInt rfl km3 (heap_alloc_new X _) rfl rfl
def mvBase (kd : Int) : Int := if kd = 18 then 945842176 else if kd = 19 then 950036480 else 941647872
def mvK (kd i : Int) : Int := if kd = 19 ∧ armBit i [1, 2, 4, 8] 0 = 3 then -1 else armBit i [1, 2, 4, 8] 0
def armMoves (kd d a b i : Int) : Int := layW (mvBase kd) [⟨0, d, 0⟩, ⟨1, a, 5⟩, ⟨0, b, 16⟩, ⟨2, mvK kd i, 30⟩]
def Boxed (w : World) (kd d a b i : Int) (W : World) : Prop := W.heap[w.heap.size]? = some (.cells #[.int .i64 kd, .int .i64 d, .int .i64 a, .int .i64 b, .int .i64 i] 32 (0, 0)) ∧ Below w.heap.size w W
theorem Boxed.cells {w : World} {kd d a b i : Int} {W : World} (h : Boxed w kd d a b i W) : W.cell? ⟨w.heap.size, 0, none⟩ = some (.int .i64 kd) ∧ W.cell? ⟨w.heap.size, 1, none⟩ = some (.int .i64 d) ∧ W.cell? ⟨w.heap.size, 2, none⟩ = some (.int .i64 a) ∧ W.cell? ⟨w.heap.size, 3, none⟩ = some (.int .i64 b) ∧ W.cell? ⟨w.heap.size, 4, none⟩ = some (.int .i64 i) := by
  simp [World.cell?, h.1]
theorem Boxed.below {w : World} {kd d a b i : Int} {W W' : World} (h : Boxed w kd d a b i W) (b' : Below W.heap.size W W') : Boxed w kd d a b i W' :=
  ⟨by rw [b'.block _ (lt_of_heap h.1)]; exact h.1, h.2.trans (b'.mono h.2.size)⟩
theorem Boxed.new (w : World) (kd d a b i : Int) : Boxed w kd d a b i (w.alloc (.cells #[.int .i64 kd, .int .i64 d, .int .i64 a, .int .i64 b, .int .i64 i] 32)) := ⟨heap_alloc_new _ _, (Below.refl _ _).alloc (Nat.le_refl _) _⟩
theorem Boxed.alloc {w : World} {kd d a b i : Int} {W : World} (h : Boxed w kd d a b i W) (o : Obj) : Boxed w kd d a b i (W.alloc o) := h.below ((Below.refl _ _).alloc (Nat.le_refl _) _)
theorem bit_lit (n : Int) (l : List Int) (hl : l.length ≤ 100) (w : World) (C : Array Value) (T B : Nat) (hC : (l.map (Value.int .i64)).toArray = C) (hB : w.heap.size = B) :
    Calls Try.prog 20 #[.int .i64 n, .slice (some ⟨B, 0, none⟩) l.length l.length] (w.alloc (.cells C T)) fun e W => e = .returned (.int .i64 (armBit n l 0)) ∧ Below w.heap.size w W := by
  subst hC hB
  have hb := heap_alloc_new w (.cells (l.map (Value.int .i64)).toArray T)
  refine (PArmEncodes.arm_bit.calls 200 n _ l.length l (armBit n l 0) _ (Kd.C_of_reads (d := (0 : Int)) (h1 := fun _ => rfl) ⟨rfl, by omega, fun _ => ⟨⟨w.heap.size, 0, none⟩, rfl, fun j hj => ?_⟩⟩) (Nat.le_refl _) (bit_f n l hl)).mono ?_
  · have e : (⟨w.heap.size, 0, none⟩ : Addr).add j = ⟨w.heap.size, j, none⟩ := by
      unfold Addr.add
      split
      · rename_i h; subst h; rfl
      · simp
    rw [e]
    simp only [World.cell?, hb]
    simp [hj]
  · rintro e W ⟨rfl, hd⟩
    exact ⟨rfl, ((Below.refl _ _).alloc (Nat.le_refl _) _).trans (hd.below.mono (by simp))⟩
def MvCut (w : World) (kd d a b i k : Int) (v : Value) (W : World) : Prop := v = .int .i64 k ∧ Boxed w kd d a b i W
set_option maxRecDepth 100000 in
set_option maxHeartbeats 800000 in
theorem moves_calls (kd d a b i : Int) (hk : kd = 18 ∨ kd = 19 ∨ kd = 20) (w : World) : Calls Try.prog 21 #[.agg #[.int .i64 kd, .int .i64 d, .int .i64 a, .int .i64 b, .int .i64 i]] w (BelowPost w (.int .i64 (armMoves kd d a b i))) := by
  have hu32 := Try.underlying32
  have hu51 := Try.underlying51
  have hmm := @run_makeMap Try.prog
  have HB := hide (bit_lit i [1, 2, 4, 8] (by decide) (w.alloc (.cells #[.int .i64 kd, .int .i64 d, .int .i64 a, .int .i64 b, .int .i64 i] 32)) #[.int .i64 1, .int .i64 2, .int .i64 4, .int .i64 8] 3 (w.heap.size + 1) rfl (by simp))
  have HN := hide (Boxed.new w kd d a b i)
  generalize hkk : armBit i [1, 2, 4, 8] 0 = k at *
  have HKK := hide hkk
  clear hkk
  obtain ⟨c0, c1, c2, c3, c4⟩ := HN.out.cells
  go_enter Try.func21, Try.ntmps21
  go_upto_region 1 with fail
  go_cut [3] (fun v W => MvCut w kd d a b i k v W)
  case first =>
    go_wp2_with fail
    refine HB.out.mono ?_
    rintro e W ⟨rfl, hb⟩
    go_wp2_with fail
    go_meet
    exact ⟨rfl, HN.out.below hb⟩
  case rest =>
    obtain ⟨rfl, hbx⟩ := hcut
    clear c0 c1 c2 c3 c4 HB HN
    obtain ⟨c0, c1, c2, c3, c4⟩ := (hbx.alloc (.map m3 3)).cells
    have u1 := up1 wc
    have u2 := up2 wc
    have u3 := up3 wc
    have hbs := hbx.2.size
    rcases hk with rfl | rfl | rfl
    · have u4 := lu18 wc
      go_wp2_with fail
      refine (lay_calls 945842176 [⟨0, d, 0⟩, ⟨1, a, 5⟩, ⟨0, b, 16⟩, ⟨2, k, 30⟩] (wc.heap.size + 1) _ (PLs.made _ _ _ _ _ rfl (by simp)) (by simp) (by simp) (by simp)).mono ?_
      rintro e W ⟨rfl, hb⟩
      go_wp2
      go_ret
      refine ⟨?_, (hbx.2.alloc hbs _).alloc (by simp; omega) _ |>.trans (hb.mono (by simp; omega))⟩
      simp [armMoves, mvBase, mvK, HKK.out]
    · have u4 := lu19 wc
      by_cases hk3 : k = 3
      · subst hk3
        go_wp2_with fail
        refine (lay_calls 950036480 [⟨0, d, 0⟩, ⟨1, a, 5⟩, ⟨0, b, 16⟩, ⟨2, -1, 30⟩] (wc.heap.size + 1) _ (PLs.made _ _ _ _ _ rfl (by simp)) (by simp) (by simp) (by simp)).mono ?_
        rintro e W ⟨rfl, hb⟩
        go_wp2
        go_ret
        refine ⟨?_, (hbx.2.alloc hbs _).alloc (by simp; omega) _ |>.trans (hb.mono (by simp; omega))⟩
        simp [armMoves, mvBase, mvK, HKK.out]
      · have hk3' : (k == 3) = false := by rw [beq_eq_false_iff_ne]; exact hk3
        go_wp2_with fail
        refine (lay_calls 950036480 [⟨0, d, 0⟩, ⟨1, a, 5⟩, ⟨0, b, 16⟩, ⟨2, k, 30⟩] (wc.heap.size + 1) _ (PLs.made _ _ _ _ _ rfl (by simp)) (by simp) (by simp) (by simp)).mono ?_
        rintro e W ⟨rfl, hb⟩
        go_wp2
        go_ret
        refine ⟨?_, (hbx.2.alloc hbs _).alloc (by simp; omega) _ |>.trans (hb.mono (by simp; omega))⟩
        simp [armMoves, mvBase, mvK, HKK.out, hk3]
    · have u4 := lu20 wc
      go_wp2_with fail
      refine (lay_calls 941647872 [⟨0, d, 0⟩, ⟨1, a, 5⟩, ⟨0, b, 16⟩, ⟨2, k, 30⟩] (wc.heap.size + 1) _ (PLs.made _ _ _ _ _ rfl (by simp)) (by simp) (by simp) (by simp)).mono ?_
      rintro e W ⟨rfl, hb⟩
      go_wp2
      go_ret
      refine ⟨?_, (hbx.2.alloc hbs _).alloc (by simp; omega) _ |>.trans (hb.mono (by simp; omega))⟩
      simp [armMoves, mvBase, mvK, HKK.out]
end Go.Proofs.Ythkbncoklgpobaa
