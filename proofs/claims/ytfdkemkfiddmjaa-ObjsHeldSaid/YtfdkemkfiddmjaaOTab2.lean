/- Contracts of New, open, Add, Get, Dup, Close, Hold, Drop of an objects' table; conditions: each contract's own. -/
import Derived.Test.YtfdkemkfiddmjaaOTab
set_option linter.unusedVariables false
set_option linter.unusedSimpArgs false
namespace Go.Proofs.Ytfdkemkfiddmjaa
open Go.RowKit Go.MapKept Go.Maps

def oempty : OSt := ⟨fun _ => none, fun _ => none, fun _ => none, fun _ => none, fun _ => none, 0⟩
theorem MI.at_new {P : Program} {kt et : TypeId} {w : World} {b : Nat} (h : w.heap[b]? = some (.map #[] 0)) : MI P kt et w b 0 fun _ => none :=
  ⟨.map [], ⟨#[], 0, h, ⟨by simp, stamped_empty 0, by simp⟩, Nat.le_refl _, rfl⟩, mget_empty⟩
set_option maxRecDepth 100000 in
theorem onew_calls (w : World) : Calls Try.prog 7 #[] w fun e w' => ∃ t F, e = .returned (.pointer (some ⟨t, 0, none⟩)) ∧ OS w' t oempty 0 F ∧ Fr [] F w w' ∧ ∀ b ∈ F, w.heap.size ≤ b := by
  have hmm := @run_makeMap Try.prog
  go_enter Try.func7, Try.ntmps7
  go_wp2
  go_ret
  have e1 : ∀ i, i < 5 → ∀ o, (((((((w.alloc (.map #[] 0)).alloc (.map #[] 0)).alloc (.map #[] 0)).alloc (.map #[] 0)).alloc (.map #[] 0)).alloc o).heap[w.heap.size + i]?) = some (.map #[] 0) := by
    intro i hi o
    match i, hi with
    | 0, _ => exact heap_alloc_some (heap_alloc_some (heap_alloc_some (heap_alloc_some (heap_alloc_some (heap_alloc_new w _)))))
    | 1, _ => exact heap_alloc_some (heap_alloc_some (heap_alloc_some (heap_alloc_some (by simpa using heap_alloc_new (w.alloc (.map #[] 0)) (.map #[] 0)))))
    | 2, _ => exact heap_alloc_some (heap_alloc_some (heap_alloc_some (by simpa using heap_alloc_new ((w.alloc (.map #[] 0)).alloc (.map #[] 0)) (.map #[] 0))))
    | 3, _ => exact heap_alloc_some (heap_alloc_some (by simpa using heap_alloc_new (((w.alloc (.map #[] 0)).alloc (.map #[] 0)).alloc (.map #[] 0)) (.map #[] 0)))
    | 4, _ => exact heap_alloc_some (by simpa using heap_alloc_new ((((w.alloc (.map #[] 0)).alloc (.map #[] 0)).alloc (.map #[] 0)).alloc (.map #[] 0)) (.map #[] 0))
  refine ⟨w.heap.size + 5, [w.heap.size + 5, w.heap.size, w.heap.size + 1, w.heap.size + 2, w.heap.size + 3, w.heap.size + 4], rfl, ⟨w.heap.size, w.heap.size + 1, w.heap.size + 2, w.heap.size + 3, w.heap.size + 4, ⟨?_, ?_, ?_, ?_, ?_, ?_, by simp, fun k => by simp [oempty], fun k => by simp [oempty], Nat.le_refl _⟩, rfl⟩, ?_, fun b hb => by simp at hb; omega⟩
  · have := heap_alloc_new (((((w.alloc (.map #[] 0)).alloc (.map #[] 0)).alloc (.map #[] 0)).alloc (.map #[] 0)).alloc (.map #[] 0)) (tabO w.heap.size (w.heap.size + 1) (w.heap.size + 2) (w.heap.size + 3) (w.heap.size + 4) 0)
    simp only [World.size_alloc] at this
    exact this
  · exact MI.at_new (e1 0 (by omega) _)
  · exact MI.at_new (e1 1 (by omega) _)
  · exact MI.at_new (e1 2 (by omega) _)
  · exact MI.at_new (e1 3 (by omega) _)
  · exact MI.at_new (e1 4 (by omega) _)
  · exact ((((((Fr.refl [] w).alloc' _).alloc' _).alloc' _).alloc' _).alloc' _ |>.alloc' _).sub (fun k hk => by simp at hk; exact .inr (by omega))
def ofree (s : OSt) : Option Nat := (List.range 64).find? fun fd => (s.fds (ik fd)).isNone
noncomputable def OSt.open_ (s : OSt) (id : Int) : (Int × Int) × OSt := match ofree s with
  | none => ((0, 8), s)
  | some fd => ((fd, 0), ({ s with fds := upd s.fds (ik fd) (some id) } : OSt).more id)
theorem range_find (p : Nat → Bool) (n : Nat) : ((List.range n).find? p = none ∧ ∀ j, j < n → p j = false) ∨ ∃ i, i < n ∧ (List.range n).find? p = some i ∧ p i = true ∧ ∀ j, j < i → p j = false := by
  cases h : (List.range n).find? p with
  | none => exact .inl ⟨rfl, fun j hj => by simpa using List.find?_eq_none.1 h j (List.mem_range.2 hj)⟩
  | some i =>
    obtain ⟨h1, h2⟩ := List.find?_eq_some_iff_getElem.1 h
    obtain ⟨k, hk, e, h3⟩ := h2
    simp only [List.length_range] at hk
    simp only [List.getElem_range] at e h3
    subst e
    exact .inr ⟨k, hk, rfl, h1, fun j hj => by simpa using h3 j hj⟩
def OPost2 (t : Nat) (F : List Nat) (w : World) (v : Int × Int) (s : OSt) (N : Nat) (e : Ending) (w' : World) : Prop := e = .returned (.tuple #[.int .i64 v.1, .int .i64 v.2]) ∧ OS w' t s N F ∧ Fr F F w w'
set_option maxRecDepth 100000 in
set_option maxHeartbeats 800000 in
theorem open_calls {w : World} {t N : Nat} {s : OSt} {F : List Nat} (h : OS w t s N F) (hN : N < 1099511627770) {id : Int} (hi : W64 id) :
    Calls Try.prog 22 #[.pointer (some ⟨t, 0, none⟩), .int .i64 id] w (OPost2 t F w (s.open_ id).1 (s.open_ id).2 (N + 2)) := by
  obtain ⟨nb, kb, hb, fb, pb, h1, rfl⟩ := h
  obtain ⟨c0, c1, c2, c3, c4, c5, cf⟩ := h1.cells
  have HM := hide h1
  have hmf := hide h1.mf
  have HW64 : ∀ i : Nat, i < 64 → W64 i := fun i hi => (w64_iff _).2 (by omega)
  have HW := hide HW64
  clear HW64
  unfold OSt.open_
  rcases range_find (fun fd => (s.fds (ik fd)).isNone) 64 with ⟨h2, h3⟩ | ⟨k, hk, h2, h3, h4⟩
  · have e : ofree s = none := h2
    have H3 := hide h3
    rw [e]
    simp only
    clear h1 h2 h3 e
    go_enter Try.func22, Try.ntmps22
    go_wp2_with fail
    go_loopw [9] (fun v wr => ∃ i : Nat, i ≤ 64 ∧ v = .int .i64 i ∧ wr = w) (fun v _ => 64 - (RowKit.intOf v).toNat)
    case atStart => exact ⟨0, by omega, rfl, rfl⟩
    case round =>
      obtain ⟨i, hi64, rfl, rfl⟩ := hrel
      by_cases hlt : i < 64
      · obtain ⟨l1, l2, l3⟩ := hmf.out.at (HW.out i hlt)
        have hs := H3.out i hlt
        simp only [ik] at hs
        have hs2 : (s.fds (.int .i64 i)).isSome = true := by simpa using hs
        rw [hs2] at l2
        have hi1 : (i : Int) < 64 := by omega
        clear l1 l3 hs hs2
        go_wp2
        exact ⟨⟨i + 1, by omega, by simp, by first | rfl | trivial⟩, by show 64 - ((i : Int) + 1).toNat < 64 - ((i : Int)).toNat; omega⟩
      · have hi1 : ¬ (i : Int) < 64 := by omega
        go_wp2
        go_ret2
        exact ⟨rfl, ⟨nb, kb, hb, fb, pb, HM.out.mono (by omega), rfl⟩, Fr.refl _ _⟩
  · have e : ofree s = some k := h2
    have H4 := hide h4
    rw [e]
    simp only
    have hkn : s.fds (.int .i64 k) = none := by simpa using h3
    clear h1 h2 h3 h4 e
    go_enter Try.func22, Try.ntmps22
    go_wp2_with fail
    go_loopw [9] (fun v wr => ∃ i : Nat, i ≤ k ∧ v = .int .i64 i ∧ wr = w) (fun v _ => 64 - (RowKit.intOf v).toNat)
    case atStart => exact ⟨0, by omega, rfl, rfl⟩
    case round =>
      obtain ⟨i, hik, rfl, rfl⟩ := hrel
      have hi1 : (i : Int) < 64 := by omega
      obtain ⟨l1, l2, l3⟩ := hmf.out.at (HW.out i (by omega))
      by_cases hlt : i < k
      · have hs := H4.out i hlt
        simp only [ik] at hs
        have hs2 : (s.fds (.int .i64 i)).isSome = true := by simpa using hs
        rw [hs2] at l2
        clear l1 l3 hs hs2
        go_wp2
        exact ⟨⟨i + 1, by omega, by simp, by first | rfl | trivial⟩, by show 64 - ((i : Int) + 1).toNat < 64 - ((i : Int)).toNat; omega⟩
      · obtain rfl : i = k := by omega
        rw [hkn] at l2
        simp only [Option.isSome_none, Option.getD_none] at l2
        clear l1 l3
        go_wp2_with (at_mapUpdate; refine wpList_store_MI _ rfl _ _ _ 55 rfl O.ki O.und O.undInt hmf.out (by unfold maxLen; omega) rfl _ (ik i) _ rfl rfl (O.keyi (HW.out i (by omega))) hi ?_)
        intro w1 hm1 ht1
        have HM1 := HM.out.turn_f (Nat.le_succ _) hm1 ht1
        have HF1 := hide (turned_fr (F := [t, nb, kb, hb, fb, pb]) ht1 (by simp))
        have HMO := hide (more_calls (s := { s with fds := upd s.fds (ik i) (some id) }) ⟨nb, kb, hb, fb, pb, HM1, rfl⟩ (by omega) hi)
        clear hm1 ht1 c0 c1 c2 c3 c4 c5 cf l2
        obtain ⟨c0, c1, c2, c3, c4, c5, cf⟩ := HM1.cells
        clear HM1
        go_wp2_with fail
        refine HMO.out.mono ?_
        rintro e w2 ⟨rfl, ho, hf⟩
        have HE := hide (And.intro ho (HF1.out.trans hf))
        clear ho hf
        go_wp2
        go_ret2
        exact ⟨rfl, HE.out.1, HE.out.2⟩
end Go.Proofs.Ytfdkemkfiddmjaa
