/- The reference's array: how a world holds it, and contracts of FromLe, Wide, index, Lookup, Next; each contract's conditions are its own. -/
import Derived.Test.YtmgocjclopfeeaaRK9
import Derived.Test.YtmgocjclopfeeaaLFCpus
set_option linter.unusedVariables false
set_option linter.unusedSimpArgs false
namespace Go.Proofs.Ytmgocjclopfeeaa
open Go.RowKit Go.MapKept

set_option maxRecDepth 100000 in
theorem fromLe_calls (s : ByteArray) (hs : s.size ≤ 8) (w : World) : Calls Try.prog 53 #[.string s] w (Tells w (.int .u64 (leNum (nats s)))) := by
  have hmn : ∀ W, (Builtin.min_ #[3, 3] 3 #[.int .i64 s.size, .int .i64 8]).run Try.prog W = .ok (.int .i64 s.size) W := fun W => by
    rw [run_min_int2]
    congr 2
    split <;> omega
  have HG := hide (fun j (hj : j < s.size) => getD_nats s j hj)
  have HN := hide (length_nats s)
  have HB := hide (nats_lt s)
  generalize nats s = m at *
  go_enter Try.func53, Try.ntmps53
  go_wp2_with fail
  go_loop [4, 3] (fun i v => ∃ j : Nat, j ≤ s.size ∧ i = .int .i64 ((j : Int) - 1) ∧ v = .int .u64 (leNum (m.drop j))) (fun i _ => (intOf i + 1).toNat)
  case atStart => exact ⟨s.size, Nat.le_refl _, rfl, by rw [List.drop_of_length_le (by have := HN.out; omega)]; rfl⟩
  case round =>
    obtain ⟨j, hj, rfl, rfl⟩ := hrel
    cases j with
    | zero =>
      go_wp2
      go_ret
      exact ⟨rfl, rfl⟩
    | succ j =>
      have hjs : j < s.size := by omega
      have hcell := HG.out j (by omega)
      have hmj : m.getD j 0 < 256 := by
        rw [List.getD_eq_getElem?_getD, List.getElem?_eq_getElem (by have := HN.out; omega)]
        exact HB.out _ (List.getElem_mem _)
      have hlt : leNum (m.drop (j + 1)) < 72057594037927936 := by
        have h1 := leNum_lt (m.drop (j + 1)) (fun y hy => HB.out y (List.mem_of_mem_drop hy))
        have h2 : (256 : Nat) ^ (m.drop (j + 1)).length ≤ 256 ^ 7 := Nat.pow_le_pow_right (by omega) (by rw [List.length_drop]; have := HN.out; omega)
        omega
      have HOR := hide (or_low (leNum (m.drop (j + 1))) (m.getD j 0) hlt hmj)
      have HDR := hide (leNum_drop m j (by have := HN.out; omega))
      have hwr : IntKind.u64.wrap (s[j].toNat : Int) = s[j].toNat := by rw [IntKind.wrap_u64]; have := s[j].toNat_lt; omega
      have hj0 : (0 : Int) ≤ j := by omega
      have hj1 : (j : Int) < s.size := by omega
      have hji : (((j + 1 : Nat) : Int) - 1) = j := by omega
      rw [hji]
      generalize leNum (m.drop (j + 1)) = v at *
      clear hmj
      go_wp2_with fail
      exact ⟨⟨j, by omega, rfl, by rw [HDR.out, ← HOR.out, hcell]⟩, by show ((j : Int) - 1 + 1).toNat < ((j : Int) + 1).toNat; omega⟩
theorem Wide_calls (v : Nat) (hv : v ≤ 4096) (w : World) : Calls Try.prog 34 #[.int .i64 v] w (Tells w (.int .i64 (fwide v))) := by
  have e1 : wrap64 (((v : Int) + 7) / 8 * 8) = (fwide v : Nat) := by unfold fwide wrap64; omega
  have hv2 : (v : Int) ≤ 4096 := by omega
  have e2 : ((v : Int) + 7) / 8 * 8 = (fwide v : Nat) := by unfold fwide; omega
  go_enter Try.func34, Try.ntmps34
  go_wp2
  go_ret
  exact ⟨rfl, rfl⟩
theorem gindex_calls (v : Value) (s : ByteArray) (w : World) : Calls Try.prog 45 #[v, .string s] w (Tells w (.int .i64 (findex s))) := by
  unfold findex
  by_cases hs : s.size = 4
  · rw [if_pos hs]
    have hb : ((s.size : Int) != 4) = false := by simp [hs]
    have hlt := leNum_lt (nats s) (nats_lt s)
    rw [length_nats, hs] at hlt
    have HF := fun W => hide (fromLe_calls s (by omega) W)
    generalize leNum (nats s) = n at *
    have hn : (n : Int) < 4294967296 := by omega
    clear hlt
    go_enter Try.func45, Try.ntmps45
    go_wp2_with (go_at_call 53; refine (HF _).out.mono ?_; rintro e w' ⟨rfl, rfl⟩)
    go_ret
    exact ⟨rfl, rfl⟩
  · rw [if_neg hs]
    have hb : ((s.size : Int) != 4) = true := by rw [bne_iff_ne]; omega
    clear hs
    go_enter Try.func45, Try.ntmps45
    go_wp2
    go_ret
    exact ⟨rfl, rfl⟩

def gmapO (n : Nat) (s : FSpec) (cpus : Int) (sv : Value) (gone : Bool) : Obj := .cells #[.pointer (some ⟨n, 0, none⟩), .int .i64 s.kind, .int .i64 4, .int .i64 s.value, .int .i64 s.max, .int .i64 cpus, sv, .bool gone] 87 (0, 0)
def gfoot (y : Nat) (sv : Value) : List Nat := y :: sv.ownBlock.toList
/-- World w holds at block y the reference's array over the memory at block n, with the regions l. -/
structure GM (w : World) (y n : Nat) (s : FSpec) (cpus : Int) (l : List Nat) (sv : Value) (gone : Bool) : Prop where
  hy : w.heap[y]? = some (gmapO n s cpus sv gone)
  own : w.ownsRow 0 33 1 sv l.length (l.map fun (a : Nat) => Value.int .u64 a)
  ne : ∀ g, sv.ownBlock = some g → g ≠ y
  v1 : 1 ≤ s.value ∧ s.value ≤ 4096
  m1 : 1 ≤ s.max ∧ s.max ≤ 4096
  ad : ∀ a ∈ l, a < 9223372036854775808
  l8 : l.length ≤ 8
section
variable {w : World} {y n : Nat} {s : FSpec} {cpus : Int} {l : List Nat} {sv : Value} {gone : Bool}
theorem GM.cells (h : GM w y n s cpus l sv gone) : w.cell? ⟨y, 0, none⟩ = some (.pointer (some ⟨n, 0, none⟩)) ∧ w.cell? ⟨y, 1, none⟩ = some (.int .i64 s.kind) ∧ w.cell? ⟨y, 2, none⟩ = some (.int .i64 4) ∧ w.cell? ⟨y, 3, none⟩ = some (.int .i64 s.value) ∧
    w.cell? ⟨y, 4, none⟩ = some (.int .i64 s.max) ∧ w.cell? ⟨y, 5, none⟩ = some (.int .i64 cpus) ∧ w.cell? ⟨y, 6, none⟩ = some sv ∧ w.cell? ⟨y, 7, none⟩ = some (.bool gone) ∧ ∀ i, w.frozen? ⟨y, i, none⟩ = false := by
  have := h.hy
  unfold gmapO at this
  exact ⟨rk_cell this 0, rk_cell this 1, rk_cell this 2, rk_cell this 3, rk_cell this 4, rk_cell this 5, rk_cell this 6, rk_cell this 7, fun i => rk_frozen this i⟩
theorem GM.form (h : GM w y n s cpus l sv gone) : ∃ A cap, sv = .slice A l.length cap ∧ ∀ (i a : Nat), l[i]? = some a → ∃ g, A = some ⟨g, 0, none⟩ ∧ w.cell? ⟨g, i, none⟩ = some (.int .u64 a) := by
  have hl := h.own
  have hcell : ∀ g, sv.ownBlock = some g → ∀ (i a : Nat), l[i]? = some a → w.cell? ⟨g, i, none⟩ = some (.int .u64 a) := fun g hg i a hi => by
    have := hl.cells (g := g) hg i (.int .u64 a) (by simp [hi])
    rwa [show (⟨g, 0, none⟩ : Addr).add i = ⟨g, i, none⟩ by unfold Addr.add; split <;> simp_all] at this
  rcases hl.2 with ⟨h1, h2⟩ | ⟨g, cap, cur, hv, _⟩
  · refine ⟨none, 0, by rw [h1, h2], fun i a hi => ?_⟩
    have := (List.getElem?_eq_some_iff.1 hi).1
    omega
  · exact ⟨some ⟨g, 0, none⟩, cap, hv, fun i a hi => ⟨g, rfl, hcell g (by rw [hv]; rfl) i a hi⟩⟩
theorem GM.lt (h : GM w y n s cpus l sv gone) : ∀ b ∈ gfoot y sv, b < w.heap.size := by
  intro b hb
  simp only [gfoot, List.mem_cons, Option.mem_toList] at hb
  rcases hb with rfl | hb
  · exact lt_of_heap h.hy
  · exact ownsRow_lt h.own b hb
theorem GM.frame {w' : World} (h : GM w y n s cpus l sv gone) (hf : ∀ b ∈ gfoot y sv, w'.heap[b]? = w.heap[b]?) : GM w' y n s cpus l sv gone :=
  { h with
    hy := by rw [hf y (by simp [gfoot])]; exact h.hy
    own := ownsRow_keep h.own fun g hg => hf g (by simp [gfoot, hg]) }
theorem GM.fr {w' : World} {F F' : List Nat} (h : GM w y n s cpus l sv gone) (hf : Fr F F' w w') (hd : ∀ b ∈ gfoot y sv, b ∉ F) : GM w' y n s cpus l sv gone :=
  h.frame fun b hb => hf.block b (h.lt b hb) (hd b hb)
end
def glookup (s : FSpec) (l : List Nat) (gone : Bool) (key : ByteArray) (cpu : Int) : Nat :=
  if gone = true ∨ findex key < 0 ∨ (s.max : Int) ≤ findex key then 0 else
  if (if s.kind = 2 then 0 else cpu) < 0 then 0 else
  match l[(if s.kind = 2 then 0 else cpu).toNat]? with
  | none => 0
  | some a => a + (findex key).toNat * fwide s.value
set_option maxRecDepth 100000 in
set_option maxHeartbeats 800000 in
theorem glookup_calls {w : World} {y n : Nat} {s : FSpec} {cpus : Int} {l : List Nat} {sv : Value} {gone : Bool} (h : GM w y n s cpus l sv gone) (key : ByteArray) (cpu : Int) :
    Calls Try.prog 36 #[.pointer (some ⟨y, 0, none⟩), .string key, .int .i64 cpu] w (TellsS w (.int .u64 (glookup s l gone key cpu))) := by
  have HI := fun W => hide (gindex_calls (.pointer (some ⟨y, 0, none⟩)) key W)
  obtain ⟨c0, c1, c2, c3, c4, c5, c6, c7, -⟩ := h.cells
  obtain ⟨A, cap, rfl, hA⟩ := h.form
  have hvv := h.v1.2
  have hmm := h.m1.2
  have had := h.ad
  have HW := fun w => hide (Wide_calls s.value hvv w)
  have hfw := fwide_le _ hvv
  unfold glookup
  generalize findex key = q at *
  clear h
  by_cases g0 : gone = true
  · subst g0
    rw [if_pos (.inl rfl)]
    clear hA had
    go_enter Try.func36, Try.ntmps36
    go_wp2_with (go_at_call 45; refine (HI _).out.mono ?_; rintro e w' ⟨rfl, rfl⟩)
    go_ret
    exact ⟨rfl, Same.refl _⟩
  have g1 : gone = false := by simpa using g0
  subst g1
  by_cases q0 : q < 0
  · rw [if_pos (.inr (.inl q0))]
    clear hA had g0
    go_enter Try.func36, Try.ntmps36
    go_wp2_with (go_at_call 45; refine (HI _).out.mono ?_; rintro e w' ⟨rfl, rfl⟩)
    go_ret
    exact ⟨rfl, Same.refl _⟩
  by_cases q1 : (s.max : Int) ≤ q
  · rw [if_pos (.inr (.inr q1))]
    clear hA had g0
    go_enter Try.func36, Try.ntmps36
    go_wp2_with (go_at_call 45; refine (HI _).out.mono ?_; rintro e w' ⟨rfl, rfl⟩)
    go_ret
    exact ⟨rfl, Same.refl _⟩
  rw [if_neg (by simp [q0, q1])]
  obtain ⟨i, rfl⟩ : ∃ i : Nat, q = i := ⟨q.toNat, by omega⟩
  rw [Int.toNat_natCast]
  clear g0
  generalize hcp : (if s.kind = 2 then (0 : Int) else cpu) = c
  by_cases p0 : c < 0
  · rw [if_pos p0]
    by_cases kk : s.kind = 2
    · rw [if_pos kk] at hcp; omega
    rw [if_neg kk] at hcp
    subst hcp
    have kb : (s.kind == 2) = false := by simpa using kk
    clear hA had kk
    go_enter Try.func36, Try.ntmps36
    go_wp2_with (go_at_call 45; refine (HI _).out.mono ?_; rintro e w' ⟨rfl, rfl⟩)
    go_ret
    exact ⟨rfl, Same.refl _⟩
  rw [if_neg p0]
  obtain ⟨j, rfl⟩ : ∃ j : Nat, c = j := ⟨c.toNat, by omega⟩
  rw [Int.toNat_natCast]
  cases hl : l[j]? with
  | none =>
    have hj : (l.length : Int) ≤ j := by rw [List.getElem?_eq_none_iff] at hl; omega
    by_cases kk : s.kind = 2
    · rw [if_pos kk] at hcp
      obtain rfl : j = 0 := by omega
      have hl0 : l.length = 0 := by omega
      rw [hl0] at c6
      have kb : (s.kind == 2) = true := by simpa using kk
      clear hA had hl hcp kk hj p0 hl0
      go_enter Try.func36, Try.ntmps36
      go_wp2_with (go_at_call 45; refine (HI _).out.mono ?_; rintro e w' ⟨rfl, rfl⟩)
      go_ret
      exact ⟨rfl, Same.refl _⟩
    · rw [if_neg kk] at hcp
      subst hcp
      have kb : (s.kind == 2) = false := by simpa using kk
      clear hA had hl kk
      go_enter Try.func36, Try.ntmps36
      go_wp2_with (go_at_call 45; refine (HI _).out.mono ?_; rintro e w' ⟨rfl, rfl⟩)
      go_ret
      exact ⟨rfl, Same.refl _⟩
  | some a =>
    have hj := (List.getElem?_eq_some_iff.1 hl).1
    obtain ⟨g, rfl, hcell⟩ := hA j a hl
    have HS := hide (u64_sum a i (fwide s.value) (had a (List.mem_of_getElem? hl)) (by omega) hfw)
    have HS2 := hide (show IntKind.u64.wrap ((a : Int) + IntKind.u64.wrap (IntKind.i64.wrap ((i : Int) * (fwide s.value : Nat)))) = ((a + i * fwide s.value : Nat) : Int) by rw [IntWalk.i64_left]; exact HS.out)
    have hj1 : (j : Int) < l.length := by omega
    by_cases kk : s.kind = 2
    · rw [if_pos kk] at hcp
      obtain rfl : j = 0 := by omega
      have hl0 : (0 : Int) < l.length := by omega
      generalize l.length = L at *
      have kb : (s.kind == 2) = true := by simpa using kk
      clear hA had hl hcp kk p0 hj hj1
      go_enter Try.func36, Try.ntmps36
      go_wp2_with fail
      refine (HI _).out.mono ?_
      rintro e w' ⟨rfl, rfl⟩
      go_wp2_with fail
      go_quiet ((go_at_call 34; exact Calls.quiet_of_same ((HW _).out.mono (fun e w' h => ⟨h.1, h.2.symm⟩))))
      go_wp2
      go_ret
      exact ⟨congrArg (fun z => Ending.returned (Value.int .u64 z)) (by first | exact HS.out | exact HS2.out), rfl, rfl, rfl, rfl⟩
    · rw [if_neg kk] at hcp
      subst hcp
      generalize l.length = L at *
      have kb : (s.kind == 2) = false := by simpa using kk
      clear hA had hl kk hj
      go_enter Try.func36, Try.ntmps36
      go_wp2_with fail
      refine (HI _).out.mono ?_
      rintro e w' ⟨rfl, rfl⟩
      go_wp2_with fail
      go_quiet ((go_at_call 34; exact Calls.quiet_of_same ((HW _).out.mono (fun e w' h => ⟨h.1, h.2.symm⟩))))
      go_wp2
      go_ret
      exact ⟨congrArg (fun z => Ending.returned (Value.int .u64 z)) (by first | exact HS.out | exact HS2.out), rfl, rfl, rfl, rfl⟩
end Go.Proofs.Ytmgocjclopfeeaa
