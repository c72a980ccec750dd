/- Contract of flat's Update, whatever the arguments: it answers and writes as the plain data say; condition: the map lies in the world, apart from its memory. -/
import Derived.Test.YtmgocjclopfeeaaLFCpus
set_option linter.unusedVariables false
set_option linter.unusedSimpArgs false
namespace Go.Proofs.Ytmgocjclopfeeaa
open Go.RowKit Go.MapKept
open Go.ChangeMaps (setBlock)

/-- The beginnings that an update of a CPU goes to. -/
def FR.each (R : FR) (cpu : Int) : Option (List Nat) :=
  match R with
  | .gone => none
  | .shared a => some [a]
  | .own _ _ l => if cpu = -1 then some l else if cpu < 0 then none else (l[cpu.toNat]?).map fun a => [a]
def fupd (s : FSpec) (R : FR) (key value : ByteArray) (fl cpu : Int) (k : KA) : Int × KA :=
  if R.isB = false ∨ findex key < 0 ∨ value.size ≠ s.value ∨ fl < 0 ∨ 2 < fl then (1, k) else
  match R.each cpu with
  | none => (1, k)
  | some l => if (s.max : Int) ≤ findex key then (3, k) else if fl = 1 then (5, k) else (0, fputs s (findex key).toNat (nats value) l k)
theorem FPost.still {m : Nat} {k : KA} {F : List Nat} {w w' : World} {v : Value} {e : Ending} (hk : KS w m k F) (he : e = .returned v) (hf : Fr [] [] w w') : FPost m F w v k e w' :=
  ⟨F, he, hk.fr hf, (Fr.refl F w).more hf⟩
def EachB (b : Bool) (w1 : World) (e : Ending) (w2 : World) : Prop := ∃ A n c, e = .returned (.tuple #[.slice A n c, .bool b]) ∧ Fr [] [] w1 w2
set_option maxRecDepth 100000 in
set_option maxHeartbeats 1600000 in
theorem update_own_x {w : World} {x m : Nat} {s : FSpec} {g cap : Nat} {l : List Nat} (h : FM w x m s (.own g cap l)) (key value : ByteArray) (fl cpu : Int) (i : Nat) (b : Bool) (r : Int)
    (hE : ∀ w1, Same w w1 → Calls Try.prog 89 #[.slice (some ⟨g, 0, none⟩) l.length cap, .int .i64 cpu] w1 (EachB b w1))
    (hf : findex key = i) (hv : value.size = s.value) (h0 : 0 ≤ fl) (h2 : fl ≤ 2) (hc : (b = false ∧ r = 1) ∨ (b = true ∧ s.max ≤ i ∧ r = 3) ∨ (b = true ∧ i < s.max ∧ fl = 1 ∧ r = 5)) :
    Calls Try.prog 13 #[.pointer (some ⟨x, 0, none⟩), .string key, .string value, .int .i64 fl, .int .i64 cpu] w (FNextPost w (.int .i64 r)) := by
  have HI := hide (index_calls key w)
  rw [hf] at HI
  have hvb : ((value.size : Int) != (s.value : Int)) = false := by rw [bne_eq_false_iff_eq]; omega
  have HE := hide hE
  clear hf hv hE
  rcases hc with ⟨rfl, rfl⟩ | ⟨rfl, hi, rfl⟩ | ⟨rfl, hi, rfl, rfl⟩
  · go_enter Try.func13, Try.ntmps13
    go_wp2_with fail
    refine HI.out.mono ?_
    rintro e w1 ⟨rfl, hs⟩
    have HT := hide (there_calls (h.same hs))
    obtain ⟨c0, c1, c2, c3, c4, c5, f5⟩ := (h.same hs).cells
    simp only [FR.val] at c5
    go_wp2_with fail
    refine HT.out.mono ?_
    rintro e w' ⟨rfl, rfl⟩
    simp only [FR.isB]
    go_wp2_with fail
    refine (HE.out _ hs).mono ?_
    rintro e w2 ⟨A, n, c, rfl, f2⟩
    go_wp2
    go_ret
    exact ⟨rfl, (hs.fr []).trans f2⟩
  · have hi2 : (s.max : Int) ≤ i := by omega
    go_enter Try.func13, Try.ntmps13
    go_wp2_with fail
    refine HI.out.mono ?_
    rintro e w1 ⟨rfl, hs⟩
    have HT := hide (there_calls (h.same hs))
    have hx1 := h.same hs
    obtain ⟨c0, c1, c2, c3, c4, c5, f5⟩ := hx1.cells
    simp only [FR.val] at c5
    go_wp2_with fail
    refine HT.out.mono ?_
    rintro e w' ⟨rfl, rfl⟩
    simp only [FR.isB]
    go_wp2_with fail
    refine (HE.out _ hs).mono ?_
    rintro e w2 ⟨A, n, c, rfl, f2⟩
    have hx2 : FM w2 x m s (.own g cap l) := hx1.fr f2 (by simp)
    clear c0 c1 c2 c3 c4 c5 f5
    obtain ⟨c0, c1, c2, c3, c4, c5, f5⟩ := hx2.cells
    go_wp2
    go_ret
    exact ⟨rfl, (hs.fr []).trans f2⟩
  · have hi2 : ¬ (s.max : Int) ≤ i := by omega
    go_enter Try.func13, Try.ntmps13
    go_wp2_with fail
    refine HI.out.mono ?_
    rintro e w1 ⟨rfl, hs⟩
    have HT := hide (there_calls (h.same hs))
    have hx1 := h.same hs
    obtain ⟨c0, c1, c2, c3, c4, c5, f5⟩ := hx1.cells
    simp only [FR.val] at c5
    go_wp2_with fail
    refine HT.out.mono ?_
    rintro e w' ⟨rfl, rfl⟩
    simp only [FR.isB]
    go_wp2_with fail
    refine (HE.out _ hs).mono ?_
    rintro e w2 ⟨A, n, c, rfl, f2⟩
    have hx2 : FM w2 x m s (.own g cap l) := hx1.fr f2 (by simp)
    clear c0 c1 c2 c3 c4 c5 f5
    obtain ⟨c0, c1, c2, c3, c4, c5, f5⟩ := hx2.cells
    go_wp2
    go_ret
    exact ⟨rfl, (hs.fr []).trans f2⟩
set_option maxRecDepth 100000 in
set_option maxHeartbeats 1600000 in
theorem update_sh_ex {w : World} {x m : Nat} {s : FSpec} {a : Nat} (h : FM w x m s (.shared a)) (key value : ByteArray) (cpu : Int) (i : Nat) (hf : findex key = i) (hi : i < s.max) (hv : value.size = s.value) :
    Calls Try.prog 13 #[.pointer (some ⟨x, 0, none⟩), .string key, .string value, .int .i64 1, .int .i64 cpu] w (FNextPost w (.int .i64 5)) := by
  have HI := hide (index_calls key w)
  rw [hf] at HI
  have hi2 : ¬ (s.max : Int) ≤ i := by omega
  have hvb : ((value.size : Int) != (s.value : Int)) = false := by rw [bne_eq_false_iff_eq]; omega
  clear hf hv
  go_enter Try.func13, Try.ntmps13
  go_wp2_with fail
  refine HI.out.mono ?_
  rintro e w1 ⟨rfl, hs⟩
  have HT := hide (there_calls (h.same hs))
  obtain ⟨c0, c1, c2, c3, c4, c5, f5⟩ := (h.same hs).cells
  have hxl : x < w1.heap.size := lt_of_cell c0
  simp only [FR.val] at c5
  go_wp2_with fail
  refine HT.out.mono ?_
  rintro e w' ⟨rfl, rfl⟩
  simp only [FR.isB]
  go_wp2_with fail
  refine (sh_each _ _ _).mono ?_
  rintro e w2 ⟨rfl, rfl⟩
  go_wp2
  go_ret
  exact ⟨rfl, (hs.fr []).alloc _⟩
theorem own_each_B {w : World} {x m : Nat} {s : FSpec} {g cap : Nat} {l : List Nat} (h : FM w x m s (.own g cap l)) (cpu : Int) (w1 : World) (hs : Same w w1) :
    Calls Try.prog 89 #[.slice (some ⟨g, 0, none⟩) l.length cap, .int .i64 cpu] w1 (EachB ((FR.own g cap l).each cpu).isSome w1) := by
  simp only [FR.each]
  by_cases c1 : cpu = -1
  · subst c1
    rw [if_pos rfl]
    exact (own_each_all _ w1).mono fun e w' ⟨h1, h2⟩ => ⟨_, _, _, h1, h2 ▸ Fr.refl [] _⟩
  rw [if_neg c1]
  by_cases c2 : cpu < 0
  · rw [if_pos c2]
    exact (own_each_one _ cpu 0 false w1 c1 (own_base_no g l.length cap cpu w1 (.inl c2))).mono fun e w' ⟨h1, h2⟩ => ⟨_, _, _, h1, h2 ▸ (Fr.refl [] w1).alloc _⟩
  rw [if_neg c2]
  cases hl : l[cpu.toNat]? with
  | none =>
    have : (l.length : Int) ≤ cpu := by rw [List.getElem?_eq_none_iff] at hl; omega
    exact (own_each_one _ cpu 0 false w1 c1 (own_base_no g l.length cap cpu w1 (.inr this))).mono fun e w' ⟨h1, h2⟩ => ⟨_, _, _, h1, h2 ▸ (Fr.refl [] w1).alloc _⟩
  | some a =>
    have hcl := (List.getElem?_eq_some_iff.1 hl).1
    have hb := own_base_yes g l.length cap cpu.toNat a w1 hcl ((h.same hs).ownCells cpu.toNat a hl)
    rw [show ((cpu.toNat : Nat) : Int) = cpu by omega] at hb
    exact (own_each_one _ cpu a true w1 c1 hb).mono fun e w' ⟨h1, h2⟩ => ⟨_, _, _, h1, h2 ▸ (Fr.refl [] w1).alloc _⟩
/-- Update answers and writes as the plain data say. -/
theorem update_calls {w : World} {x m : Nat} {s : FSpec} {R : FR} {k : KA} {F : List Nat} (h : FM w x m s R) (hk : KS w m k F) (hd : ∀ b ∈ R.foot x, b ∉ F) (key value : ByteArray) (fl cpu : Int) :
    Calls Try.prog 13 #[.pointer (some ⟨x, 0, none⟩), .string key, .string value, .int .i64 fl, .int .i64 cpu] w (FPost m F w (.int .i64 (fupd s R key value fl cpu k).1) (fupd s R key value fl cpu k).2) := by
  unfold fupd
  by_cases hc : R.isB = false ∨ findex key < 0 ∨ value.size ≠ s.value ∨ fl < 0 ∨ 2 < fl
  · rw [if_pos hc]
    exact (update_arg h key value fl cpu hc).mono fun e w' ⟨h1, h2⟩ => FPost.still hk h1 (h2.fr [])
  rw [if_neg hc]
  have e1 : ¬ R.isB = false := fun e => hc (.inl e)
  have e2 : ¬ findex key < 0 := fun e => hc (.inr (.inl e))
  have e3 : value.size = s.value := by by_cases e : value.size = s.value; exact e; exact absurd (.inr (.inr (.inl e))) hc
  have e4 : 0 ≤ fl := by by_cases e : fl < 0; exact absurd (.inr (.inr (.inr (.inl e)))) hc; omega
  have e5 : fl ≤ 2 := by by_cases e : 2 < fl; exact absurd (.inr (.inr (.inr (.inr e)))) hc; omega
  obtain ⟨i, hi⟩ : ∃ i : Nat, findex key = i := ⟨(findex key).toNat, by omega⟩
  cases R with
  | gone => exact absurd rfl e1
  | shared a =>
    simp only [FR.each]
    by_cases hm : (s.max : Int) ≤ findex key
    · rw [if_pos hm]
      exact (update_full h key value fl cpu i hi (by omega) e3 e4 e5).mono fun e w' ⟨h1, h2⟩ => FPost.still hk h1 h2
    rw [if_neg hm]
    by_cases h1 : fl = 1
    · subst h1
      rw [if_pos rfl]
      exact (update_sh_ex h key value cpu i hi (by omega) e3).mono fun e w' ⟨h1, h2⟩ => FPost.still hk h1 h2
    rw [if_neg h1]
    have := update_sh h hk (hd x (by simp [FR.foot])) key value fl cpu i hi (by omega) e3 e4 e5 h1
    rw [hi, Int.toNat_natCast]
    exact this
  | own g cap l =>
    cases he : (FR.own g cap l).each cpu with
    | none =>
      simp only
      exact (update_own_x h key value fl cpu i false 1 (fun w1 hs => by have := own_each_B h cpu w1 hs; rw [he] at this; exact this) hi e3 e4 e5 (.inl ⟨rfl, rfl⟩)).mono fun e w' ⟨h1, h2⟩ => FPost.still hk h1 h2
    | some l' =>
      simp only
      have hE : ∀ w1, Same w w1 → Calls Try.prog 89 #[.slice (some ⟨g, 0, none⟩) l.length cap, .int .i64 cpu] w1 (EachB true w1) := fun w1 hs => by have := own_each_B h cpu w1 hs; rw [he] at this; exact this
      by_cases hm : (s.max : Int) ≤ findex key
      · rw [if_pos hm]
        exact (update_own_x h key value fl cpu i true 3 hE hi e3 e4 e5 (.inr (.inl ⟨rfl, by omega, rfl⟩))).mono fun e w' ⟨h1, h2⟩ => FPost.still hk h1 h2
      rw [if_neg hm]
      by_cases h1 : fl = 1
      · rw [if_pos h1]
        exact (update_own_x h key value fl cpu i true 5 hE hi e3 e4 e5 (.inr (.inr ⟨rfl, by omega, h1, rfl⟩))).mono fun e w' ⟨h1, h2⟩ => FPost.still hk h1 h2
      rw [if_neg h1, hi, Int.toNat_natCast]
      have d1 := hd x (by simp [FR.foot])
      have d2 := hd g (by simp [FR.foot])
      simp only [FR.each] at he
      by_cases c1 : cpu = -1
      · subst c1
        rw [if_pos rfl] at he
        cases he
        exact update_own_all h hk d1 d2 key value fl i hi (by omega) e3 e4 e5 h1
      rw [if_neg c1] at he
      by_cases c2 : cpu < 0
      · rw [if_pos c2] at he; cases he
      rw [if_neg c2] at he
      cases hl : l[cpu.toNat]? with
      | none => rw [hl] at he; cases he
      | some a =>
        rw [hl] at he
        cases he
        have := update_own_one h hk d1 d2 key value fl cpu.toNat a i hl hi (by omega) e3 e4 e5 h1
        rwa [show ((cpu.toNat : Nat) : Int) = cpu by omega] at this
end Go.Proofs.Ytmgocjclopfeeaa
