/- Contract of the trie's find where nodes are made: it tells a prefix's node, and every prefix has what it had; condition: the table lies in the world. -/
import Derived.Test.YtopdgpmeccdogaaTMake
set_option linter.unusedVariables false
set_option linter.unusedSimpArgs false
namespace Go.Proofs.Ytopdgpmeccdogaa
open Go.RowKit Go.MapKept
open Go.ChangeMaps (setBlock)

def MakeRel (w : World) (x m : Nat) (s : TSpec) (t : CT) (n : Nat) (p : List Bool) (u v : Value) (wr : World) : Prop :=
  ∃ (i : Nat) (t' : CT) (b : Nat) (l r : CT) (a : Nat) (f : ByteArray), i ≤ p.length ∧ u = .pointer (some ⟨b, 0, none⟩) ∧ v = .int .i64 i ∧ t'.sub (p.take i) = .node b l r a f ∧ TM wr x m s t' n ∧ t'.F = t.F ∧ Fr (x :: t.foot) (x :: t'.foot) w wr
def MakePost (x m : Nat) (s : TSpec) (t : CT) (n : Nat) (p : List Bool) (w : World) (e : Ending) (w' : World) : Prop :=
  ∃ (t' : CT) (b : Nat) (l r : CT) (a : Nat) (f : ByteArray), e = .returned (.pointer (some ⟨b, 0, none⟩)) ∧ t'.sub p = .node b l r a f ∧ TM w' x m s t' n ∧ t'.F = t.F ∧ Fr (x :: t.foot) (x :: t'.foot) w w'
set_option maxRecDepth 100000 in
set_option maxHeartbeats 800000 in
theorem find_make {w : World} {x m : Nat} {s : TSpec} {t : CT} {n : Nat} (h : TM w x m s t n) (p : List Bool) (d : Nat) (hd : w.heap[d]? = some (byteCells (pbits p))) (hdn : d ∉ x :: t.foot) (hp : p.length ≤ 9223372036854775807) :
    Calls Try.prog 33 #[.pointer (some ⟨x, 0, none⟩), .slice (some ⟨d, 0, none⟩) p.length p.length, .bool true] w (MakePost x m s t n p w) := by
  obtain ⟨c0, c2, c3, c4, c5, c6, -⟩ := h.cells
  have HS : Hid (MakeRel w x m s t n p (.pointer t.ptr) (.int .i64 0) w) := by
    obtain ⟨b, l, r, a, f, htn⟩ := h.nn
    exact hide ⟨0, t, b, l, r, a, f, Nat.zero_le _, by rw [htn]; rfl, rfl, htn, h, rfl, Fr.refl _ _⟩
  have HD := hide hd
  clear h hd
  go_enter Try.func33, Try.ntmps33
  go_wp2
  go_loopw [7, 16] (fun u v wr => MakeRel w x m s t n p u v wr) (fun _ v _ => p.length - (intOf v).toNat)
  case atStart => exact HS.out
  case round =>
    obtain ⟨i, t', b, l, r, a, f, hi, rfl, rfl, hs, hm, hF, hfr⟩ := hrel
    clear HS c0 c2 c3 c4 c5 c6
    by_cases hlt : i < p.length
    · have hdw : wr.heap[d]? = some (byteCells (pbits p)) := hfr.keep HD.out hdn
      have hcell := byte_reads hdw i (by rw [pbits_length]; exact hlt)
      rw [pbits_get p i hlt] at hcell
      have hh := CT.holds_sub hm.ht (p.take i)
      rw [hs] at hh
      obtain ⟨k0, k1, -, -, z0, z1, -⟩ := CT.obj_reads hh.1
      have hsucc := CT.sub_take_succ t' p i hlt
      rw [hs] at hsucc
      have htk := List.take_succ_eq_append_getElem hlt
      have HX : Hid (∀ b' l' r' a' f', CT.kid (p[i]'hlt) (.node b l r a f) = .node b' l' r' a' f' → MakeRel w x m s t n p (.pointer (some ⟨b', 0, none⟩)) (.int .i64 ((i + 1 : Nat) : Int)) wr) :=
        hide fun b' l' r' a' f' e => ⟨i + 1, t', b', l', r', a', f', by omega, rfl, rfl, by rw [hsucc, e], hm, hF, hfr⟩
      have HY : Hid (CT.kid (p[i]'hlt) (.node b l r a f) = .nil → MakeRel w x m s t n p (.pointer (some ⟨wr.heap.size, 0, none⟩)) (.int .i64 ((i + 1 : Nat) : Int)) (growW wr b (p[i]'hlt))) := by
        refine hide fun e => ?_
        obtain ⟨g1, g2, g3, g4⟩ := hm.grow hs e
        exact ⟨i + 1, _, _, _, _, _, _, by omega, rfl, rfl, by rw [htk]; exact g3, g1, (funext g2).trans hF, hfr.trans g4⟩
      have hbl := lt_of_heap hh.1
      generalize p[i]'hlt = bit at *
      clear hh hsucc hs hm hF hfr htk hdw
      cases bit with
      | true =>
        cases r with
        | nil =>
          have hn := hide (HY.out rfl)
          clear HX HY
          go_wp2
          exact ⟨hn.out, by simp [intOf]; omega⟩
        | node b' l' r' a' f' =>
          have hn := hide (HX.out b' l' r' a' f' rfl)
          clear HX HY
          go_wp2
          exact ⟨hn.out, by simp [intOf]; omega⟩
      | false =>
        cases l with
        | nil =>
          have hn := hide (HY.out rfl)
          clear HX HY
          go_wp2
          exact ⟨hn.out, by simp [intOf]; omega⟩
        | node b' l' r' a' f' =>
          have hn := hide (HX.out b' l' r' a' f' rfl)
          clear HX HY
          go_wp2
          exact ⟨hn.out, by simp [intOf]; omega⟩
    · obtain rfl : i = p.length := by omega
      rw [List.take_length] at hs
      have HF : Hid (MakePost x m s t n p w (.returned (.pointer (some ⟨b, 0, none⟩))) wr) := hide ⟨t', b, l, r, a, f, rfl, hs, hm, hF, hfr⟩
      clear hs hm hF hfr
      go_wp2
      go_ret
      exact HF.out
end Go.Proofs.Ytopdgpmeccdogaa
