/- Contract of arm's all and moves; no condition. -/
import Derived.Test.YthkbncoklgpobaaALay
import Derived.Test.YthkbncoklgpobaaPArmEncodesx2
import Derived.Test.YthkbncoklgpobaaPArmEncodesx3
import Derived.Outline
set_option linter.unusedVariables false
set_option linter.unusedSimpArgs false
namespace Go.Proofs.Ythkbncoklgpobaa
open Go.RowKit Go.MapKept
open Go.Proofs.YthkbncoklgpobaaW.PrintWords Go.Proofs.YthkbncoklgpobaaW.PrintLast Go.Proofs.YthkbncoklgpobaaW.PrintMore

def PL.cells (l : List PL) : Array Value := (l.flatMap fun p => [Value.iface (PL.ty p.t) (.int .i64 p.v), .int .i64 p.at_]).toArray
theorem flat_two {α β : Type} (f g : α → β) : ∀ (l : List α) (i : Nat) (p : α), l[i]? = some p → (l.flatMap fun p => [f p, g p])[i * 2]? = some (f p) ∧ (l.flatMap fun p => [f p, g p])[i * 2 + 1]? = some (g p)
  | [], i, p, h => by simp at h
  | q :: l, 0, p, h => by simp at h; subst h; simp
  | q :: l, i + 1, p, h => by
    have := flat_two f g l i p (by simpa using h)
    rw [show (i + 1) * 2 = i * 2 + 2 by omega]
    simpa using this
theorem PLs.new (w : World) (l : List PL) (T : Nat) : PLs (w.alloc (.cells (PL.cells l) T)) w.heap.size l := fun i p hp => by
  obtain ⟨h1, h2⟩ := flat_two (fun p : PL => Value.iface (PL.ty p.t) (.int .i64 p.v)) (fun p : PL => Value.int .i64 p.at_) l i p hp
  have hb := heap_alloc_new w (.cells (PL.cells l) T)
  refine ⟨?_, ?_⟩
  · simp only [World.cell?, hb]
    simpa [PL.cells] using h1
  · simp only [World.cell?, hb]
    simpa [PL.cells] using h2
theorem PLs.made (w : World) (l : List PL) (T B : Nat) (C : Array Value) (hC : PL.cells l = C) (hB : w.heap.size = B) : PLs (w.alloc (.cells C T)) B l := by
  subst hC hB
  exact PLs.new w l T
def armAll (w0 d a b : Int) : Int := layW w0 [⟨0, d, 0⟩, ⟨0, a, 5⟩, ⟨0, b, 16⟩]
def BelowPost (w : World) (v : Value) (e : Ending) (W : World) : Prop := e = .returned v ∧ Below w.heap.size w W
set_option maxRecDepth 100000 in
theorem all_calls (w0 kd d a b i : Int) (w : World) : Calls Try.prog 18 #[.int .i64 w0, .agg #[.int .i64 kd, .int .i64 d, .int .i64 a, .int .i64 b, .int .i64 i]] w (BelowPost w (.int .i64 (armAll w0 d a b))) := by
  have hu32 := Try.underlying32
  have hu51 := Try.underlying51
  go_enter Try.func18, Try.ntmps18
  go_wp2_with fail
  refine (lay_calls w0 [⟨0, d, 0⟩, ⟨0, a, 5⟩, ⟨0, b, 16⟩] (w.heap.size + 1) _ ?_ ?_ (by simp) (by simp)).mono ?_
  · exact PLs.made _ _ _ _ _ rfl (by simp)
  · simp
  rintro e W ⟨rfl, hb⟩
  go_wp2
  go_ret
  exact ⟨rfl, (((Below.refl _ _).alloc (Nat.le_refl _) _).alloc (by simp) _).trans (hb.mono (by simp; omega))⟩

/-! ### moves -/
def armBit (n : Int) : List Int → Int → Int
  | [], _ => -1
  | x :: l, i => if x = n then i else armBit n l (i + 1)
theorem bit_eq (n : Int) (l : List Int) (hl : l.length ≤ 100) : ∀ (k i : Nat), i ≤ l.length → l.length < i + k → PArmEncodes.arm_bit.l0 k n l (l.length : Int) i = some (armBit n (l.drop i) i) := by
  intro k
  induction k with
  | zero => intro i hi hk; omega
  | succ k ih =>
    intro i hi hk
    rw [PArmEncodes.arm_bit.l0]
    by_cases h : i < l.length
    · rw [if_pos (by omega), if_pos (by omega), if_pos (by omega)]
      have e : rd l i = l[i] := by simp [rd, h]
      rw [List.drop_eq_getElem_cons h, armBit, e]
      by_cases hx : l[i] = n
      · rw [if_pos hx, if_pos hx]
      · rw [if_neg hx, if_neg hx]
        have hw : wrap64 ((i : Int) + 1) = ((i + 1 : Nat) : Int) := by unfold wrap64; omega
        rw [hw, ih (i + 1) (by omega) (by omega)]
        rfl
    · rw [if_neg (by omega)]
      rw [List.drop_eq_nil_of_le (by omega)]
      rfl
theorem bit_f (n : Int) (l : List Int) (hl : l.length ≤ 100) : PArmEncodes.arm_bit.f 200 n l = some (armBit n l 0) := by
  have := bit_eq n l hl 200 0 (by omega) (by omega)
  simpa [PArmEncodes.arm_bit.f] using this
end Go.Proofs.Ythkbncoklgpobaa
