/- Contract of the trie's find where nothing is made: it tells a prefix's node; condition: the table lies in the world. -/
import Derived.Test.YtopdgpmeccdogaaTBits
set_option linter.unusedVariables false
set_option linter.unusedSimpArgs false
namespace Go.Proofs.Ytopdgpmeccdogaa
open Go.RowKit Go.MapKept
open Go.ChangeMaps (setBlock)

def pbits (p : List Bool) : List Nat := p.map Bool.toNat
theorem pbits_length (p : List Bool) : (pbits p).length = p.length := by simp [pbits]
theorem pbits_get (p : List Bool) (i : Nat) (h : i < p.length) : (pbits p).getD i 0 = (p[i]'h).toNat := by
  simp [pbits, h]
theorem CT.obj_reads {w : World} {b : Nat} {l r : CT} {a : Nat} {f : ByteArray} (h : w.heap[b]? = some (CT.obj l r a f)) :
    w.cell? ⟨b, 0, none⟩ = some (.pointer l.ptr) ∧ w.cell? ⟨b, 1, none⟩ = some (.pointer r.ptr) ∧ w.cell? ⟨b, 2, none⟩ = some (.int .u64 a) ∧ w.cell? ⟨b, 3, none⟩ = some (.string f) ∧
    w.frozen? ⟨b, 0, none⟩ = false ∧ w.frozen? ⟨b, 1, none⟩ = false ∧ w.frozen? ⟨b, 2, none⟩ = false ∧ w.frozen? ⟨b, 3, none⟩ = false := by
  simp [World.cell?, World.frozen?, h, CT.obj]
theorem CT.sub_take_succ (t : CT) (p : List Bool) (i : Nat) (h : i < p.length) : t.sub (p.take (i + 1)) = (t.sub (p.take i)).kid (p[i]'h) := by
  rw [List.take_succ_eq_append_getElem h, CT.sub_append]
  rfl
theorem CT.sub_stuck (t : CT) (p : List Bool) (i : Nat) (h : i < p.length) (hn : (t.sub (p.take i)).kid (p[i]'h) = .nil) : t.sub p = .nil := by
  have e : p = p.take (i + 1) ++ p.drop (i + 1) := (List.take_append_drop _ _).symm
  rw [e, CT.sub_append, CT.sub_take_succ t p i h, hn, CT.sub_nil]
def FindRel (t : CT) (p : List Bool) (u v : Value) : Prop := ∃ (i b : Nat) (l r : CT) (a : Nat) (f : ByteArray), i ≤ p.length ∧ u = .pointer (some ⟨b, 0, none⟩) ∧ v = .int .i64 i ∧ t.sub (p.take i) = .node b l r a f
set_option maxRecDepth 100000 in
theorem find_no {w : World} {x m : Nat} {s : TSpec} {t : CT} {n : Nat} (h : TM w x m s t n) (p : List Bool) (d : Nat) (hd : w.heap[d]? = some (byteCells (pbits p))) (hp : p.length ≤ 9223372036854775807) :
    Calls Try.prog 33 #[.pointer (some ⟨x, 0, none⟩), .slice (some ⟨d, 0, none⟩) p.length p.length, .bool false] w (Tells w (.pointer (t.sub p).ptr)) := by
  obtain ⟨c0, c2, c3, c4, c5, c6, -⟩ := h.cells
  have HT := hide h.ht
  obtain ⟨b, l, r, a, f, htn⟩ := h.nn
  have HS : Hid (FindRel t p (.pointer t.ptr) (.int .i64 0)) := hide ⟨0, b, l, r, a, f, Nat.zero_le _, by rw [htn]; rfl, rfl, by rw [htn]; rfl⟩
  have HD := hide hd
  clear h htn hd
  go_enter Try.func33, Try.ntmps33
  go_wp2
  go_loop [7, 16] (fun u v => FindRel t p u v) (fun _ v => p.length - (intOf v).toNat)
  case atStart => exact HS.out
  case round =>
    obtain ⟨i, b, l, r, a, f, hi, rfl, rfl, hs⟩ := hrel
    by_cases hlt : i < p.length
    · have hcell := byte_reads HD.out i (by rw [pbits_length]; exact hlt)
      rw [pbits_get p i hlt] at hcell
      have hh := CT.holds_sub HT.out (p.take i)
      rw [hs] at hh
      obtain ⟨k0, k1, -⟩ := CT.obj_reads hh.1
      have hsucc := CT.sub_take_succ t p i hlt
      rw [hs] at hsucc
      have HX : Hid (∀ y, CT.kid (p[i]'hlt) (.node b l r a f) = y → (y = .nil → t.sub p = .nil) ∧ (∀ b' l' r' a' f', y = .node b' l' r' a' f' → FindRel t p (.pointer (some ⟨b', 0, none⟩)) (.int .i64 ((i + 1 : Nat) : Int)))) := by
        refine hide fun y hy => ⟨fun e => CT.sub_stuck t p i hlt (by rw [hs, hy, e]), fun b' l' r' a' f' e => ⟨i + 1, b', l', r', a', f', by omega, rfl, rfl, by rw [hsucc, hy, e]⟩⟩
      generalize p[i]'hlt = bit at *
      clear hh hsucc hs
      cases bit with
      | true =>
        cases r with
        | nil =>
          have hn := hide ((HX.out _ rfl).1 rfl)
          clear HX
          go_wp2
          go_ret
          exact ⟨by rw [hn.out]; rfl, rfl⟩
        | node b' l' r' a' f' =>
          have hn := hide ((HX.out _ rfl).2 b' l' r' a' f' rfl)
          clear HX
          go_wp2
          exact ⟨hn.out, by simp [intOf]; omega⟩
      | false =>
        cases l with
        | nil =>
          have hn := hide ((HX.out _ rfl).1 rfl)
          clear HX
          go_wp2
          go_ret
          exact ⟨by rw [hn.out]; rfl, rfl⟩
        | node b' l' r' a' f' =>
          have hn := hide ((HX.out _ rfl).2 b' l' r' a' f' rfl)
          clear HX
          go_wp2
          exact ⟨hn.out, by simp [intOf]; omega⟩
    · obtain rfl : i = p.length := by omega
      rw [List.take_length] at hs
      have HF := hide hs
      clear hs
      go_wp2
      go_ret
      exact ⟨by rw [HF.out]; rfl, rfl⟩
end Go.Proofs.Ytopdgpmeccdogaa
