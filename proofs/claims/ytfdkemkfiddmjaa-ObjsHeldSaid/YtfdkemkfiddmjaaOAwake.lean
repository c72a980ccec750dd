/- The laws' example: awake tells true; no condition. -/
import Derived.Test.YtfdkemkfiddmjaaOTab5
set_option linter.unusedVariables false
set_option linter.unusedSimpArgs false
namespace Go.Proofs.Ytfdkemkfiddmjaa
open Go.RowKit Go.MapKept Go.Maps

theorem ofree_at {s : OSt} {k : Nat} (hk : k < 64) (h0 : s.fds (ik k) = none) (h1 : ∀ j : Nat, j < k → s.fds (ik j) ≠ none) : ofree s = some k := by
  rcases range_find (fun fd => (s.fds (ik fd)).isNone) 64 with ⟨_, h3⟩ | ⟨i, hi, h2, h3, h4⟩
  · have := h3 k hk
    simp only [h0] at this
    cases this
  · unfold ofree
    rw [h2]
    congr 1
    rcases Nat.lt_trichotomy i k with hl | hl | hl
    · have := h1 i hl
      simp only [Option.isNone_iff_eq_none] at h3
      exact absurd h3 this
    · exact hl
    · have := h4 k hl
      simp only [h0] at this
      cases this
theorem open_at {s : OSt} {k : Nat} (hk : k < 64) (h0 : s.fds (ik k) = none) (h1 : ∀ j : Nat, j < k → s.fds (ik j) ≠ none) (id : Int) : s.open_ id = (((k : Int), 0), ({ s with fds := upd s.fds (ik k) (some id) } : OSt).more id) := by
  unfold OSt.open_
  rw [ofree_at hk h0 h1]
theorem ik_ne {a b : Int} (h : a ≠ b) : ik a ≠ ik b := fun e => h (by simpa using e)
def pa : ByteArray := ⟨#[47, 97]⟩
theorem pa_path : opath ⟨#[47, 97]⟩ = true := by decide +kernel
/-- A table with one object, 1, of kind 5: how often it is held, its fd, its pin. -/
noncomputable def A (n : Option Int) (fd : Option Int) (pin : Option Int) : OSt := ⟨upd (fun _ => none) (ik 1) n, upd (fun _ => none) (ik 1) (some 5), fun _ => none, upd (fun _ => none) (ik 0) fd, upd (fun _ => none) (sk ⟨#[47, 97]⟩) pin, 1⟩
theorem upd_none (k : Lit) : upd (fun _ => none) k none = fun _ => none := by
  funext x
  by_cases e : x = k
  · subst e; rw [upd_same]
  · rw [upd_other _ _ e]
theorem aw1 : oempty.add 5 = ((0, 1, 0), A (some 1) (some 1) none) := by
  unfold OSt.add
  have h := open_at (s := oempty) (k := 0) (by omega) rfl (fun j hj => by omega) ((oempty.made : Int) + 1)
  rw [h]
  simp only [oempty, OSt.more, at0, A, upd_none, if_true, Option.getD_none, Int.natCast_zero, Int.zero_add, Nat.zero_add]
theorem aw2 : (A (some 1) (some 1) none).pin ⟨#[47, 97]⟩ 0 = (0, A (some 2) (some 1) (some 1)) := by
  have hg : (A (some 1) (some 1) none).get 0 = (5, 1, 0) := by simp [OSt.get, A, upd_same, at0]
  unfold OSt.pin
  rw [hg, if_neg (by rw [pa_path]; decide), if_neg (by simp)]
  simp [A, upd_same, OSt.more, at0, upd_upd]
theorem aw3 : (A (some 2) (some 1) (some 1)).close 0 = (([], 0), A (some 1) none (some 1)) := by
  have hg : (A (some 2) (some 1) (some 1)).get 0 = (5, 1, 0) := by simp [OSt.get, A, upd_same, at0]
  unfold OSt.close
  rw [hg]
  simp [A, upd_same, OSt.less, OSt.dead, OSt.unfd, at0, upd_upd]
theorem aw4 : (A (some 1) none (some 1)).opened ⟨#[47, 97]⟩ = ((0, 0), A (some 2) (some 1) (some 1)) := by
  unfold OSt.opened
  rw [if_neg (by rw [pa_path]; decide)]
  have e : (A (some 1) none (some 1)).pins (sk ⟨#[47, 97]⟩) = some 1 := by simp [A, upd_same]
  rw [e, if_neg (by decide)]
  have h := open_at (s := A (some 1) none (some 1)) (k := 0) (by omega) (by simp [A, upd_same]) (fun j hj => by omega) 1
  simp only [Option.getD_some]
  rw [h]
  simp [A, upd_same, OSt.more, at0, upd_upd]
theorem aw5 : (A (some 2) (some 1) (some 1)).unpin ⟨#[47, 97]⟩ = (([], 0), A (some 1) (some 1) none) := by
  unfold OSt.unpin
  rw [if_neg (by rw [pa_path]; decide)]
  have e : (A (some 2) (some 1) (some 1)).pins (sk ⟨#[47, 97]⟩) = some 1 := by simp [A, upd_same]
  rw [e, if_neg (by decide)]
  simp [A, upd_same, OSt.less, OSt.dead, OSt.unpinned, at0, upd_upd]
theorem aw6 : (A (some 1) (some 1) none).close 0 = (([1], 0), A none none none) := by
  have hg : (A (some 1) (some 1) none).get 0 = (5, 1, 0) := by simp [OSt.get, A, upd_same, at0]
  unfold OSt.close
  rw [hg]
  simp [A, upd_same, OSt.less, OSt.dead, OSt.unfd, at0, upd_upd]
theorem aw7 (x : Int) : ((A none none none).n (ik x)).isSome = false := by simp [A, upd_none]
theorem ints_nil {w : World} {B : Nat} {v : Value} (h : IntsAt w B v []) : ∃ a c, v = .slice a 0 c := by
  obtain ⟨a, c, h1, _⟩ := h
  exact ⟨a, c, h1⟩
theorem ints_one {w : World} {B : Nat} {v : Value} {x : Int} (h : IntsAt w B v [x]) : ∃ g c, v = .slice (some ⟨g, 0, none⟩) 1 c ∧ B ≤ g ∧ w.cell? ⟨g, 0, none⟩ = some (.int .i64 x) := by
  obtain ⟨a, c, h1, h2⟩ := h
  obtain ⟨g, rfl, h3, h4⟩ := h2 0 x rfl
  exact ⟨g, c, h1, h3, h4⟩
set_option maxRecDepth 100000 in
set_option maxHeartbeats 2000000 in
theorem oawake (w : World) : Calls Try.prog 10 #[] w fun e w' => e = .returned (.bool true) ∧ Below w.heap.size w w' := by
  go_enter Try.func10, Try.ntmps10
  go_wp2_with fail
  refine (onew_calls w).mono ?_
  rintro e w1 ⟨t, F, rfl, h1, f1, hF⟩
  have HF := hide hF
  have HX1 := hide (add_calls h1 (by omega) (kind := 5) (by decide))
  rw [aw1] at HX1
  have HB1 := hide (f1.below (Nat.le_refl _) (fun k hk => by simp at hk))
  clear h1 f1 hF
  go_wp2_with fail
  refine HX1.out.mono ?_
  rintro e w2 ⟨rfl, h2, f2⟩
  have HX2 := hide (pin_calls h2 (by omega) ⟨#[47, 97]⟩ (fd := 0) (by decide))
  rw [aw2] at HX2
  have HB2 := hide (HB1.out.trans (f2.below HB1.out.size HF.out))
  clear h2 f2
  unfold v3
  go_wp2_with fail
  refine HX2.out.mono ?_
  rintro e w3 ⟨rfl, h3, f3⟩
  have HX3 := hide (close_calls h3 (by omega) (fd := 0) (by decide))
  rw [aw3] at HX3
  have HB3 := hide (HB2.out.trans (f3.below HB2.out.size HF.out))
  clear h3 f3
  go_wp2_with fail
  refine HX3.out.mono ?_
  rintro e w4 ⟨v4, rfl, i4, h4, f4⟩
  obtain ⟨g4, c4, rfl⟩ := ints_nil i4
  have HX4 := hide (opened_calls h4 (by omega) ⟨#[47, 97]⟩)
  rw [aw4] at HX4
  have HB4 := hide (HB3.out.trans (f4.below HB3.out.size HF.out))
  clear h4 f4 i4
  go_wp2_with fail
  refine HX4.out.mono ?_
  rintro e w5 ⟨rfl, h5, f5⟩
  have HX5 := hide (unpin_calls h5 (by omega) ⟨#[47, 97]⟩)
  rw [aw5] at HX5
  have HB5 := hide (HB4.out.trans (f5.below HB4.out.size HF.out))
  clear h5 f5
  go_wp2_with fail
  refine HX5.out.mono ?_
  rintro e w6 ⟨v6, rfl, i6, h6, f6⟩
  obtain ⟨g6, c6, rfl⟩ := ints_nil i6
  have HX6 := hide (close_calls h6 (by omega) (fd := 0) (by decide))
  rw [aw6] at HX6
  have HB6 := hide (HB5.out.trans (f6.below HB5.out.size HF.out))
  clear h6 f6 i6
  go_wp2_with fail
  refine HX6.out.mono ?_
  rintro e w7 ⟨v7, rfl, i7, h7, f7⟩
  obtain ⟨g7, c7, rfl, hg7, d7⟩ := ints_one i7
  have HX7 := hide (live_calls h7 (by omega))
  have HB7 := hide (HB6.out.trans (f7.below HB6.out.size HF.out))
  clear h7 f7 i7 hg7
  go_wp2_with fail
  refine HX7.out.mono ?_
  rintro e w8 ⟨v8, l, rfl, i8, -, hl, f8⟩
  have hl0 : l = [] := List.eq_nil_iff_forall_not_mem.2 fun x hx => by have := (hl x).1 hx; rw [aw7] at this; cases this
  subst hl0
  obtain ⟨g8, c8, rfl⟩ := ints_nil i8
  have HB8 := hide (HB7.out.trans (f8.below HB7.out.size (fun k hk => by simp at hk)))
  clear hl f8 i8
  go_wp2
  go_ret
  exact ⟨rfl, HB8.out⟩
end Go.Proofs.Ytfdkemkfiddmjaa
