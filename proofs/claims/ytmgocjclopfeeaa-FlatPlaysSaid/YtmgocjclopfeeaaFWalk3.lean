/- Contracts of flat's Lookup, Next, Delete, Free on an array that a world holds; each contract's conditions are its own. -/
import Derived.Test.YtmgocjclopfeeaaFWalk2
set_option linter.unusedVariables false
set_option linter.unusedSimpArgs false
namespace Go.Proofs.Ytmgocjclopfeeaa
open Go.RowKit Go.MapKept
open Go.ChangeMaps (setBlock)

/-- Nothing but the count of draws is another. -/
structure Same (w w' : World) : Prop where
  heap : w'.heap = w.heap
  os : w'.os = w.os
  tape : w'.tape = w.tape
  output : w'.output = w.output
theorem Same.refl (w : World) : Same w w := ⟨rfl, rfl, rfl, rfl⟩
theorem Same.drew {w w' : World} (h : Same w w') : Same w w'.drew := ⟨h.heap, h.os, h.tape, h.output⟩
theorem Same.trans {a b c : World} (h : Same a b) (g : Same b c) : Same a c := ⟨g.heap.trans h.heap, g.os.trans h.os, g.tape.trans h.tape, g.output.trans h.output⟩
theorem Same.fr {w w' : World} (h : Same w w') (F : List Nat) : Fr F F w w' := ⟨h.os, h.tape, h.output, by rw [h.heap]; exact Nat.le_refl _, fun k _ _ => by rw [h.heap], fun k hk => .inl hk⟩
theorem KS.same {w w' : World} {m : Nat} {k : KA} {F : List Nat} (h : KS w m k F) (g : Same w w') : KS w' m k F := h.frame fun b _ => by rw [g.heap]
theorem FM.same {w w' : World} {x m : Nat} {s : FSpec} {R : FR} (h : FM w x m s R) (g : Same w w') : FM w' x m s R := h.frame fun b _ => by rw [g.heap]
def TellsS (w : World) (v : Value) (e : Ending) (w' : World) : Prop := e = .returned v ∧ Same w w'

def findex (s : ByteArray) : Int := if s.size = 4 then (leNum (nats s) : Int) else -1
theorem findex_lt (s : ByteArray) : findex s < 4294967296 ∧ -1 ≤ findex s := by
  unfold findex
  split
  · rename_i h
    have := leNum_lt (nats s) (nats_lt s)
    rw [length_nats, h] at this
    omega
  · omega
theorem index_calls (s : ByteArray) (w : World) : Calls Try.prog 29 #[.string s] w (TellsS w (.int .i64 (findex s))) := by
  unfold findex
  by_cases hs : s.size = 4
  · rw [if_pos hs]
    have hb : ((s.size : Int) != 4) = false := by simp [hs]
    go_enter Try.func29, Try.ntmps29
    go_wp2
    go_region
    go_wp2
    go_ret
    refine ⟨?_, rfl, rfl, rfl, rfl⟩
    rw [leNum4 _ (by rw [length_nats, hs]), getD_nats s 0 (by omega), getD_nats s 1 (by omega), getD_nats s 2 (by omega), getD_nats s 3 (by omega), ← or4 _ _ _ _ s[0].toNat_lt s[1].toNat_lt s[2].toNat_lt s[3].toNat_lt]
    rfl
  · rw [if_neg hs]
    exact (index_no s hs w).mono fun e w' ⟨h1, h2⟩ => ⟨h1, h2 ▸ Same.refl _⟩

/-! ### Lookup -/
def FR.base (R : FR) (cpu : Int) : Option Nat :=
  match R with
  | .gone => none
  | .shared a => some a
  | .own _ _ l => if cpu < 0 then none else l[cpu.toNat]?
def flookup (s : FSpec) (R : FR) (key : ByteArray) (cpu : Int) : Nat :=
  if findex key < 0 ∨ (s.max : Int) ≤ findex key then 0 else
  match R.base cpu with
  | none => 0
  | some a => a + (findex key).toNat * fwide s.value
theorem fwide_le (v : Nat) (h : v ≤ 4096) : fwide v ≤ 4096 := by unfold fwide; omega
theorem lookup_out {w : World} {x m : Nat} {s : FSpec} {R : FR} (h : FM w x m s R) (key : ByteArray) (cpu : Int) (hk : findex key < 0 ∨ (s.max : Int) ≤ findex key ∨ R = .gone) :
    Calls Try.prog 15 #[.pointer (some ⟨x, 0, none⟩), .string key, .int .i64 cpu] w (TellsS w (.int .u64 0)) := by
  have HI := hide (index_calls key w)
  generalize findex key = i at HI hk
  cases hR : R.isB with
  | false =>
    have HR := hide hR
    clear hR hk
    go_enter Try.func15, Try.ntmps15
    go_wp2_with fail
    refine HI.out.mono ?_
    rintro e w1 ⟨rfl, hs⟩
    have HT := hide (there_calls (h.same hs))
    rw [HR.out] at HT
    go_wp2_with (go_at_call 28; refine HT.out.mono ?_; rintro e w' ⟨rfl, rfl⟩)
    go_ret
    exact ⟨rfl, hs⟩
  | true =>
    have HR := hide hR
    by_cases hi : i < 0
    · clear hR hk
      go_enter Try.func15, Try.ntmps15
      go_wp2_with fail
      refine HI.out.mono ?_
      rintro e w1 ⟨rfl, hs⟩
      have HT := hide (there_calls (h.same hs))
      rw [HR.out] at HT
      go_wp2_with (go_at_call 28; refine HT.out.mono ?_; rintro e w' ⟨rfl, rfl⟩)
      go_ret
      exact ⟨rfl, hs⟩
    · have hm : (s.max : Int) ≤ i := by
        rcases hk with hk | hk | hk
        · exact absurd hk hi
        · exact hk
        · subst hk; cases hR
      clear hR hk
      go_enter Try.func15, Try.ntmps15
      go_wp2_with fail
      refine HI.out.mono ?_
      rintro e w1 ⟨rfl, hs⟩
      have HT := hide (there_calls (h.same hs))
      rw [HR.out] at HT
      obtain ⟨c0, c1, c2, c3, c4, c5, f5⟩ := (h.same hs).cells
      go_wp2_with (go_at_call 28; refine HT.out.mono ?_; rintro e w' ⟨rfl, rfl⟩)
      go_ret
      exact ⟨rfl, hs⟩
theorem u64_sum (a i v : Nat) (ha : a < 9223372036854775808) (hi : i ≤ 4096) (hv : v ≤ 4096) : IntKind.u64.wrap ((a : Int) + IntKind.u64.wrap (wrap64 ((i : Int) * v))) = ((a + i * v : Nat) : Int) := by
  have : i * v ≤ 4096 * 4096 := Nat.mul_le_mul hi hv
  rw [IntKind.wrap_u64, IntKind.wrap_u64, ← Int.natCast_mul]
  unfold wrap64
  omega
theorem lookup_sh {w : World} {x m : Nat} {s : FSpec} {a : Nat} (h : FM w x m s (.shared a)) (key : ByteArray) (cpu : Int) (i : Nat) (hf : findex key = i) (hi : i < s.max) :
    Calls Try.prog 15 #[.pointer (some ⟨x, 0, none⟩), .string key, .int .i64 cpu] w (TellsS w (.int .u64 ((a + i * fwide s.value : Nat) : Int))) := by
  have HI := hide (index_calls key w)
  rw [hf] at HI
  have hi2 : ¬ (s.max : Int) ≤ i := by omega
  have hv := h.v1.2
  have hm := h.m1.2
  have HW := fun w => hide (wide_calls s.value hv w)
  have HS := hide (u64_sum a i (fwide s.value) (h.ad a (by simp [FR.ads])) (by omega) (fwide_le _ hv))
  have hfw := fwide_le _ hv
  clear hf
  go_enter Try.func15, Try.ntmps15
  go_wp2_with fail
  refine HI.out.mono ?_
  rintro e w1 ⟨rfl, hs⟩
  have HT := hide (there_calls (h.same hs))
  obtain ⟨c0, c1, c2, c3, c4, c5, f5⟩ := (h.same hs).cells
  simp only [FR.val] at c5
  go_wp2_with fail
  refine HT.out.mono ?_
  rintro e w' ⟨rfl, rfl⟩
  simp only [FR.isB]
  go_wp2_with fail
  refine (sh_base _ _ _).mono ?_
  rintro e w' ⟨rfl, rfl⟩
  go_wp2_with fail
  refine (HW _).out.mono ?_
  rintro e w' ⟨rfl, rfl⟩
  go_wp2
  go_ret
  exact ⟨congrArg (fun z => Ending.returned (Value.int .u64 z)) HS.out, hs⟩
theorem FM.ownCells {w : World} {x m : Nat} {s : FSpec} {g cap : Nat} {l : List Nat} (h : FM w x m s (.own g cap l)) (j : Nat) (a : Nat) (hj : l[j]? = some a) : w.cell? ⟨g, j, none⟩ = some (.int .u64 a) := by
  obtain ⟨_, _, _, _, rest, h5⟩ := h.own g cap l rfl
  have hl := (List.getElem?_eq_some_iff.1 hj).1
  simp only [World.cell?, h5, Option.isSome_none, Bool.false_eq_true, if_false]
  rw [Array.getElem?_append_left (by simpa using hl)]
  simp [hj]
theorem lookup_own {w : World} {x m : Nat} {s : FSpec} {g cap : Nat} {l : List Nat} (h : FM w x m s (.own g cap l)) (key : ByteArray) (c : Nat) (a i : Nat) (hc : l[c]? = some a) (hf : findex key = i) (hi : i < s.max) :
    Calls Try.prog 15 #[.pointer (some ⟨x, 0, none⟩), .string key, .int .i64 c] w (TellsS w (.int .u64 ((a + i * fwide s.value : Nat) : Int))) := by
  have HI := hide (index_calls key w)
  rw [hf] at HI
  have hi2 : ¬ (s.max : Int) ≤ i := by omega
  have hv := h.v1.2
  have hm := h.m1.2
  have HW := fun w => hide (wide_calls s.value hv w)
  have HS := hide (u64_sum a i (fwide s.value) (h.ad a (List.mem_of_getElem? hc)) (by omega) (fwide_le _ hv))
  have hfw := fwide_le _ hv
  have HC := hide hc
  clear hf hc
  go_enter Try.func15, Try.ntmps15
  go_wp2_with fail
  refine HI.out.mono ?_
  rintro e w1 ⟨rfl, hs⟩
  have HT := hide (there_calls (h.same hs))
  have HB := hide (own_base_yes g l.length cap c a w1 (List.getElem?_eq_some_iff.1 HC.out).1 ((h.same hs).ownCells c a HC.out))
  obtain ⟨c0, c1, c2, c3, c4, c5, f5⟩ := (h.same hs).cells
  simp only [FR.val] at c5
  go_wp2_with fail
  refine HT.out.mono ?_
  rintro e w' ⟨rfl, rfl⟩
  simp only [FR.isB]
  go_wp2_with fail
  refine HB.out.mono ?_
  rintro e w' ⟨rfl, rfl⟩
  go_wp2_with fail
  refine (HW _).out.mono ?_
  rintro e w' ⟨rfl, rfl⟩
  go_wp2
  go_ret
  exact ⟨congrArg (fun z => Ending.returned (Value.int .u64 z)) HS.out, hs⟩
theorem lookup_ownNo {w : World} {x m : Nat} {s : FSpec} {g cap : Nat} {l : List Nat} (h : FM w x m s (.own g cap l)) (key : ByteArray) (cpu : Int) (i : Nat) (hc : cpu < 0 ∨ (l.length : Int) ≤ cpu) (hf : findex key = i) (hi : i < s.max) :
    Calls Try.prog 15 #[.pointer (some ⟨x, 0, none⟩), .string key, .int .i64 cpu] w (TellsS w (.int .u64 0)) := by
  have HI := hide (index_calls key w)
  rw [hf] at HI
  have hi2 : ¬ (s.max : Int) ≤ i := by omega
  have HC := hide hc
  clear hf hc
  go_enter Try.func15, Try.ntmps15
  go_wp2_with fail
  refine HI.out.mono ?_
  rintro e w1 ⟨rfl, hs⟩
  have HT := hide (there_calls (h.same hs))
  have HB := hide (own_base_no g l.length cap cpu w1 HC.out)
  obtain ⟨c0, c1, c2, c3, c4, c5, f5⟩ := (h.same hs).cells
  simp only [FR.val] at c5
  go_wp2_with fail
  refine HT.out.mono ?_
  rintro e w' ⟨rfl, rfl⟩
  simp only [FR.isB]
  go_wp2_with fail
  refine HB.out.mono ?_
  rintro e w' ⟨rfl, rfl⟩
  go_wp2
  go_ret
  exact ⟨rfl, hs⟩
/-- Lookup answers as the plain data say. -/
theorem lookup_calls {w : World} {x m : Nat} {s : FSpec} {R : FR} (h : FM w x m s R) (key : ByteArray) (cpu : Int) :
    Calls Try.prog 15 #[.pointer (some ⟨x, 0, none⟩), .string key, .int .i64 cpu] w (TellsS w (.int .u64 (flookup s R key cpu))) := by
  unfold flookup
  by_cases hk : findex key < 0 ∨ (s.max : Int) ≤ findex key
  · rw [if_pos hk]; exact lookup_out h key cpu (hk.elim .inl (fun e => .inr (.inl e)))
  rw [if_neg hk]
  obtain ⟨i, hi⟩ : ∃ i : Nat, findex key = i := ⟨(findex key).toNat, by omega⟩
  rw [hi, Int.toNat_natCast]
  cases R with
  | gone => exact lookup_out h key cpu (.inr (.inr rfl))
  | shared a => exact lookup_sh h key cpu i hi (by omega)
  | own g cap l =>
    simp only [FR.base]
    by_cases hc : cpu < 0
    · rw [if_pos hc]; exact lookup_ownNo h key cpu i (.inl hc) hi (by omega)
    rw [if_neg hc]
    cases hl : l[cpu.toNat]? with
    | none => exact lookup_ownNo h key cpu i (.inr (by rw [List.getElem?_eq_none_iff] at hl; omega)) hi (by omega)
    | some a =>
      have := lookup_own h key cpu.toNat a i hl hi (by omega)
      rwa [show ((cpu.toNat : Nat) : Int) = cpu by omega] at this

/-! ### Next -/
def fnext (s : FSpec) (R : FR) (key : ByteArray) : List Nat × Int :=
  match R with
  | .gone => ([], 1)
  | _ => let i := if (s.max : Int) < findex key + 1 then 0 else (findex key + 1).toNat
         if i = s.max then ([], 4) else (leBytes i 4, 0)
theorem next_gone {w : World} {x m : Nat} {s : FSpec} {R : FR} (h : FM w x m s R) (hR : R.isB = false) (key : ByteArray) : Calls Try.prog 10 #[.pointer (some ⟨x, 0, none⟩), .string key] w (Tells w (.tuple #[strOf [], .int .i64 1])) := by
  have HT := hide (there_calls h)
  rw [hR] at HT
  clear hR
  go_enter Try.func10, Try.ntmps10
  go_wp2_with (go_at_call 28; refine HT.out.mono ?_; rintro e w' ⟨rfl, rfl⟩)
  go_ret2
  exact ⟨rfl, rfl⟩
def FNextPost (w : World) (v : Value) (e : Ending) (w' : World) : Prop := e = .returned v ∧ Fr [] [] w w'
theorem next_none {w : World} {x m : Nat} {s : FSpec} {R : FR} (h : FM w x m s R) (hR : R.isB = true) (key : ByteArray) (hi : findex key + 1 = s.max) : Calls Try.prog 10 #[.pointer (some ⟨x, 0, none⟩), .string key] w (FNextPost w (.tuple #[strOf [], .int .i64 4])) := by
  have HT := hide (there_calls h)
  rw [hR] at HT
  have HI := hide (index_calls key w)
  have hb := findex_lt key
  have hm := h.m1
  generalize findex key = i at HI hi hb
  obtain rfl : i = (s.max : Int) - 1 := by omega
  clear hR hi
  go_enter Try.func10, Try.ntmps10
  go_wp2_with fail
  refine HT.out.mono ?_
  rintro e w' ⟨rfl, rfl⟩
  go_wp2_with fail
  refine HI.out.mono ?_
  rintro e w1 ⟨rfl, hs⟩
  obtain ⟨c0, c1, c2, c3, c4, c5, f5⟩ := (h.same hs).cells
  go_wp2
  go_ret2
  exact ⟨rfl, hs.fr []⟩
end Go.Proofs.Ytmgocjclopfeeaa
