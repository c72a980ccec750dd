/- Contract of arm's lay: it lays operands into a word, or tells -1; condition: the operands lie in memory. -/
import Derived.Test.YthkbncoklgpobaaMapRaw
import Derived.Test.YthkbncoklgpobaaProg
import Derived.Below
set_option linter.unusedVariables false
set_option linter.unusedSimpArgs false
namespace Go.Proofs.Ythkbncoklgpobaa
open Go.RowKit Go.MapKept

/-- An operand: its kind (0 register, 1 named, 2 size), its number, its place. -/
structure PL where
  t : Fin 3
  v : Int
  at_ : Nat
def PL.ty : Fin 3 → Nat
  | 0 => 53
  | 1 => 49
  | 2 => 52
def PL.bad (p : PL) : Bool := match p.t with
  | 0 => decide (p.v < 0) || decide (31 < p.v)
  | 1 => decide (p.v < 0) || decide (30 < p.v)
  | 2 => decide (p.v < 0)
def layW : Int → List PL → Int
  | w, [] => w
  | w, p :: l => if p.bad then -1 else layW (bits BinOp.or IntKind.i64 w (wrap64 (p.v * 2 ^ p.at_))) l
def PLs (W : World) (B : Nat) (l : List PL) : Prop := ∀ i p, l[i]? = some p → W.cell? ⟨B, i * 2, none⟩ = some (.iface (PL.ty p.t) (.int .i64 p.v)) ∧ W.cell? ⟨B, i * 2 + 1, none⟩ = some (.int .i64 p.at_)
theorem PLs.below {w W : World} {B : Nat} {l : List PL} (h : PLs w B l) (b : Below w.heap.size w W) (hB : B < w.heap.size) : PLs W B l := fun i p hp => by
  obtain ⟨h1, h2⟩ := h i p hp
  exact ⟨by rw [← h1]; exact b.cell (p := ⟨B, i * 2, none⟩) hB, by rw [← h2]; exact b.cell (p := ⟨B, i * 2 + 1, none⟩) hB⟩
theorem ta_yes0 (v : Int) (W : World) : (Instr.typeAssert (.iface 53 (.int .i64 v)) 20 53 true).run Try.prog W = .ok (.tuple #[.int .i64 v, .bool true]) W := by kernel_rfl
theorem ta_no01 (v : Int) (W : World) : (Instr.typeAssert (.iface 53 (.int .i64 v)) 20 49 true).run Try.prog W = .ok (.tuple #[.int .i64 0, .bool false]) W := by kernel_rfl
theorem ta_no02 (v : Int) (W : World) : (Instr.typeAssert (.iface 53 (.int .i64 v)) 20 52 true).run Try.prog W = .ok (.tuple #[.int .i64 0, .bool false]) W := by kernel_rfl
theorem ta_no10 (v : Int) (W : World) : (Instr.typeAssert (.iface 49 (.int .i64 v)) 20 53 true).run Try.prog W = .ok (.tuple #[.int .i64 0, .bool false]) W := by kernel_rfl
theorem ta_yes1 (v : Int) (W : World) : (Instr.typeAssert (.iface 49 (.int .i64 v)) 20 49 true).run Try.prog W = .ok (.tuple #[.int .i64 v, .bool true]) W := by kernel_rfl
theorem ta_no12 (v : Int) (W : World) : (Instr.typeAssert (.iface 49 (.int .i64 v)) 20 52 true).run Try.prog W = .ok (.tuple #[.int .i64 0, .bool false]) W := by kernel_rfl
theorem ta_no20 (v : Int) (W : World) : (Instr.typeAssert (.iface 52 (.int .i64 v)) 20 53 true).run Try.prog W = .ok (.tuple #[.int .i64 0, .bool false]) W := by kernel_rfl
theorem ta_no21 (v : Int) (W : World) : (Instr.typeAssert (.iface 52 (.int .i64 v)) 20 49 true).run Try.prog W = .ok (.tuple #[.int .i64 0, .bool false]) W := by kernel_rfl
theorem ta_yes2 (v : Int) (W : World) : (Instr.typeAssert (.iface 52 (.int .i64 v)) 20 52 true).run Try.prog W = .ok (.tuple #[.int .i64 v, .bool true]) W := by kernel_rfl
def LayRel (w0 : Int) (l : List PL) (w : World) (u v : Value) (W : World) : Prop := ∃ (i : Nat) (x : Int), i ≤ l.length ∧ u = .int .i64 x ∧ v = .int .i64 i ∧ layW w0 l = layW x (l.drop i) ∧ Below w.heap.size w W
def LayPost (w0 : Int) (l : List PL) (w : World) (e : Ending) (W : World) : Prop := e = .returned (.int .i64 (layW w0 l)) ∧ Below w.heap.size w W
set_option maxRecDepth 100000 in
set_option maxHeartbeats 800000 in
theorem lay_calls (w0 : Int) (l : List PL) (B : Nat) (w : World) (hl : PLs w B l) (hB : B < w.heap.size) (hlen : l.length ≤ 4) (hat : ∀ p ∈ l, p.at_ ≤ 30) :
    Calls Try.prog 19 #[.int .i64 w0, .slice (some ⟨B, 0, none⟩) l.length l.length] w (LayPost w0 l w) := by
  have hu51 := Try.underlying51
  have HL := hide hl
  have HAT := hide hat
  have hs : LayRel w0 l w (.int .i64 w0) (.int .i64 0) w := ⟨0, w0, Nat.zero_le _, rfl, rfl, rfl, Below.refl _ _⟩
  have HS := hide hs
  clear hl hat hs
  go_enter Try.func19, Try.ntmps19
  go_wp2
  go_loopw [0, 15] (fun u v W => LayRel w0 l w u v W) (fun _ v _ => l.length - (intOf v).toNat)
  case atStart => exact HS.out
  case round =>
    obtain ⟨i, x, hi, rfl, rfl, hw, hb⟩ := hrel
    clear HS
    by_cases hlt : i < l.length
    · obtain ⟨p, hp⟩ : ∃ p, l[i]? = some p := ⟨_, List.getElem?_eq_getElem hlt⟩
      obtain ⟨c1, c2⟩ := (HL.out.below hb hB) i p hp
      have ha := HAT.out p (List.mem_of_getElem? hp)
      have hdrop : l.drop i = p :: l.drop (i + 1) := by
        obtain ⟨h1, h2⟩ := List.getElem?_eq_some_iff.1 hp
        rw [List.drop_eq_getElem_cons h1, h2]
      rw [hdrop] at hw
      have HW := hide (And.intro hw hb)
      clear hw hb hp hdrop
      obtain ⟨t, v, at_⟩ := p
      have ht : t = 0 ∨ t = 1 ∨ t = 2 := by omega
      have hB0 : w.heap.size ≤ wr.heap.size := HW.out.2.size
      have hat0 : (0 : Int) ≤ at_ := by omega
      replace ha : at_ ≤ 30 := ha
      have hat1 : (at_ : Int) ≤ 30 := by omega
      rcases ht with rfl | rfl | rfl
      · replace c1 : wr.cell? ⟨B, i * 2, none⟩ = some (.iface 53 (.int .i64 v)) := c1
        have g0 := ta_yes0 v
        have g1 := ta_no01 v
        have g2 := ta_no02 v
        by_cases h1 : v < 0
        · skip
          have HX : Hid (LayPost w0 l w (.returned (.int .i64 (-1))) (wr.alloc (.cells #[.iface 53 (.int .i64 v), .int .i64 at_] 51))) := by
            refine hide ⟨?_, HW.out.2.alloc hB0 _⟩
            rw [HW.out.1, layW, if_pos (by simp [PL.bad]; omega)]
          clear HW
          go_wp2
          go_ret
          exact HX.out
        by_cases h2 : 31 < v
        · skip
          have HX : Hid (LayPost w0 l w (.returned (.int .i64 (-1))) (wr.alloc (.cells #[.iface 53 (.int .i64 v), .int .i64 at_] 51))) := by
            refine hide ⟨?_, HW.out.2.alloc hB0 _⟩
            rw [HW.out.1, layW, if_pos (by simp [PL.bad]; omega)]
          clear HW
          go_wp2
          go_ret
          exact HX.out
        have HX : Hid (LayRel w0 l w (.int .i64 (bits BinOp.or IntKind.i64 x (wrap64 (v * 2 ^ at_)))) (.int .i64 ((i + 1 : Nat) : Int)) (wr.alloc (.cells #[.iface 53 (.int .i64 v), .int .i64 at_] 51))) := by
          refine hide ⟨i + 1, _, by omega, rfl, rfl, ?_, HW.out.2.alloc hB0 _⟩
          rw [HW.out.1, layW, if_neg (by simp [PL.bad]; omega)]
        clear HW
        go_wp2
        exact ⟨HX.out, by simp [intOf]; omega⟩
      · replace c1 : wr.cell? ⟨B, i * 2, none⟩ = some (.iface 49 (.int .i64 v)) := c1
        have g0 := ta_no10 v
        have g1 := ta_yes1 v
        have g2 := ta_no12 v
        by_cases h1 : v < 0
        · skip
          have HX : Hid (LayPost w0 l w (.returned (.int .i64 (-1))) (wr.alloc (.cells #[.iface 49 (.int .i64 v), .int .i64 at_] 51))) := by
            refine hide ⟨?_, HW.out.2.alloc hB0 _⟩
            rw [HW.out.1, layW, if_pos (by simp [PL.bad]; omega)]
          clear HW
          go_wp2
          go_ret
          exact HX.out
        by_cases h2 : 30 < v
        · skip
          have HX : Hid (LayPost w0 l w (.returned (.int .i64 (-1))) (wr.alloc (.cells #[.iface 49 (.int .i64 v), .int .i64 at_] 51))) := by
            refine hide ⟨?_, HW.out.2.alloc hB0 _⟩
            rw [HW.out.1, layW, if_pos (by simp [PL.bad]; omega)]
          clear HW
          go_wp2
          go_ret
          exact HX.out
        have HX : Hid (LayRel w0 l w (.int .i64 (bits BinOp.or IntKind.i64 x (wrap64 (v * 2 ^ at_)))) (.int .i64 ((i + 1 : Nat) : Int)) (wr.alloc (.cells #[.iface 49 (.int .i64 v), .int .i64 at_] 51))) := by
          refine hide ⟨i + 1, _, by omega, rfl, rfl, ?_, HW.out.2.alloc hB0 _⟩
          rw [HW.out.1, layW, if_neg (by simp [PL.bad]; omega)]
        clear HW
        go_wp2
        exact ⟨HX.out, by simp [intOf]; omega⟩
      · replace c1 : wr.cell? ⟨B, i * 2, none⟩ = some (.iface 52 (.int .i64 v)) := c1
        have g0 := ta_no20 v
        have g1 := ta_no21 v
        have g2 := ta_yes2 v
        by_cases h1 : v < 0
        · skip
          have HX : Hid (LayPost w0 l w (.returned (.int .i64 (-1))) (wr.alloc (.cells #[.iface 52 (.int .i64 v), .int .i64 at_] 51))) := by
            refine hide ⟨?_, HW.out.2.alloc hB0 _⟩
            rw [HW.out.1, layW, if_pos (by simp [PL.bad]; omega)]
          clear HW
          go_wp2
          go_ret
          exact HX.out
        have HX : Hid (LayRel w0 l w (.int .i64 (bits BinOp.or IntKind.i64 x (wrap64 (v * 2 ^ at_)))) (.int .i64 ((i + 1 : Nat) : Int)) (wr.alloc (.cells #[.iface 52 (.int .i64 v), .int .i64 at_] 51))) := by
          refine hide ⟨i + 1, _, by omega, rfl, rfl, ?_, HW.out.2.alloc hB0 _⟩
          rw [HW.out.1, layW, if_neg (by simp [PL.bad]; omega)]
        clear HW
        go_wp2
        exact ⟨HX.out, by simp [intOf]; omega⟩
    · obtain rfl : i = l.length := by omega
      rw [List.drop_length] at hw
      have HX : Hid (LayPost w0 l w (.returned (.int .i64 x)) wr) := hide ⟨by rw [hw]; rfl, hb⟩
      clear hw hb
      go_wp2
      go_ret
      exact HX.out
end Go.Proofs.Ythkbncoklgpobaa
