/- Contracts of Add, Hold, Drop of an objects' table; conditions: each contract's own. -/
import Derived.Test.YtfdkemkfiddmjaaOTab3
set_option linter.unusedVariables false
set_option linter.unusedSimpArgs false
namespace Go.Proofs.Ytfdkemkfiddmjaa
open Go.RowKit Go.MapKept Go.Maps

noncomputable def OSt.add (s : OSt) (kind : Int) : (Int × Int × Int) × OSt :=
  if (s.open_ ((s.made : Int) + 1)).1.2 = 0 then (((s.open_ ((s.made : Int) + 1)).1.1, (s.made : Int) + 1, 0), { (s.open_ ((s.made : Int) + 1)).2 with made := s.made + 1, kinds := upd s.kinds (ik ((s.made : Int) + 1)) (some kind) })
  else ((0, 0, 8), s)
theorem open_cases (s : OSt) (id : Int) : ((s.open_ id).1.2 = 0 ∧ (s.open_ id).2.made = s.made ∧ (s.open_ id).2.kinds = s.kinds) ∨ ((s.open_ id).1 = (0, 8) ∧ (s.open_ id).2 = s) := by
  unfold OSt.open_
  cases ofree s with
  | none => exact .inr ⟨rfl, rfl⟩
  | some fd => exact .inl ⟨rfl, rfl, rfl⟩
theorem OM.set_made {w : World} {t nb kb hb fb pb N M m : Nat} {s : OSt} (h : OM w t nb kb hb fb pb s N) (hM : N ≤ M) (hm : m ≤ M) : OM (w.setCell ⟨t, 5, none⟩ (.int .i64 m)) t nb kb hb fb pb { s with made := m } M := by
  obtain ⟨⟨a1, a2, a3, a4, a5⟩, -⟩ := h.apart
  have e : ∀ b, b ≠ t → (w.setCell ⟨t, 5, none⟩ (.int .i64 m)).heap[b]? = w.heap[b]? := fun b hb => Below.heap_setCell _ _ _ _ (fun e => hb e)
  refine ⟨?_, (h.mn.mono hM).frame (e nb a1.symm), (h.mkd.mono hM).frame (e kb a2.symm), (h.mh.mono hM).frame (e hb a3.symm), (h.mf.mono hM).frame (e fb a4.symm), (h.mp.mono hM).frame (e pb a5.symm), h.nd, h.bn.mono hM, h.bh.mono hM, hm⟩
  have := h.ht
  unfold tabO at this ⊢
  exact heap_setCell_same this
def OPost3 (t : Nat) (F : List Nat) (w : World) (v : Int × Int × Int) (s : OSt) (N : Nat) (e : Ending) (w' : World) : Prop := e = .returned (v3 v) ∧ OS w' t s N F ∧ Fr F F w w'
theorem fr_set {w : World} {a : Addr} {F : List Nat} (h : a.block ∈ F) (v : Value) : Fr F F w (w.setCell a v) := (Fr.refl F w).setCell' (.inl h) v
set_option maxRecDepth 100000 in
set_option maxHeartbeats 1600000 in
theorem add_calls {w : World} {t N : Nat} {s : OSt} {F : List Nat} (h : OS w t s N F) (hN : N < 1099511627770) {kind : Int} (hk : W64 kind) :
    Calls Try.prog 8 #[.pointer (some ⟨t, 0, none⟩), .int .i64 kind] w (OPost3 t F w (s.add kind).1 (s.add kind).2 (N + 3)) := by
  have hmd : s.made ≤ N := by obtain ⟨nb, kb, hb, fb, pb, h1, rfl⟩ := h; exact h1.md
  have hid : W64 ((s.made : Int) + 1) := (w64_iff _).2 (by omega)
  have HO := hide (open_calls h (by omega) hid)
  have hw : wrap64 ((s.made : Int) + 1) = (s.made : Int) + 1 := wrap_in (by omega)
  have hm1 : (((s.made + 1 : Nat)) : Int) = (s.made : Int) + 1 := by omega
  unfold OSt.add
  obtain ⟨nb, kb, hb, fb, pb, h1, rfl⟩ := h
  obtain ⟨c0, c1, c2, c3, c4, c5, cf⟩ := h1.cells
  have HM := hide h1
  have HID := hide hid
  have HM1 := hide hm1
  rcases open_cases s ((s.made : Int) + 1) with ⟨e1, e2, e3⟩ | ⟨e1, e2⟩
  · rw [if_pos e1]
    unfold OPost2 at HO
    rw [e1] at HO
    have HE2 := hide e2
    have HE3 := hide e3
    generalize (s.open_ ((s.made : Int) + 1)).1.1 = fd at *
    generalize (s.open_ ((s.made : Int) + 1)).2 = s1 at *
    clear h1 hid e1 e2 e3 hm1
    go_enter Try.func8, Try.ntmps8
    go_wp2_with fail
    refine HO.out.mono ?_
    rintro e w1 ⟨rfl, ⟨nb', kb', hb', fb', pb', h2, hF⟩, f1⟩
    obtain ⟨rfl, rfl, rfl, rfl, rfl⟩ : nb = nb' ∧ kb = kb' ∧ hb = hb' ∧ fb = fb' ∧ pb = pb' := by simpa using hF
    have h3 := h2.set_made (m := s.made + 1) (M := N + 2) (Nat.le_refl _) (by omega)
    rw [HM1.out] at h3
    have hst : ∃ w4, (Instr.mapUpdate 55 (.map (some kb)) (.int .i64 ((s.made : Int) + 1)) (.int .i64 kind)).run Try.prog (w1.setCell ⟨t, 5, none⟩ (.int .i64 ((s.made : Int) + 1))).drew = .ok () w4 ∧ MII w4 kb (N + 2 + 1) (upd s1.kinds (ik ((s.made : Int) + 1)) (some kind)) ∧ ((w1.setCell ⟨t, 5, none⟩ (.int .i64 ((s.made : Int) + 1))).drew).mapTurned w4 kb :=
      MI.store (MI.frame (w' := (w1.setCell ⟨t, 5, none⟩ (.int .i64 ((s.made : Int) + 1))).drew) h3.mkd rfl) O.ki O.und O.undInt (by unfold maxLen; omega) (O.keyi HID.out) hk
    obtain ⟨w4, hrun, q1, q2⟩ := hst
    have h3' : OM (w1.setCell ⟨t, 5, none⟩ (.int .i64 ((s.made : Int) + 1))).drew t nb kb hb fb pb { s1 with made := s.made + 1 } (N + 2) := h3.frame fun _ _ => rfl
    have h5 := h3'.turn_k (Nat.le_succ _) q1 q2
    have f4 : Fr [t, nb, kb, hb, fb, pb] [t, nb, kb, hb, fb, pb] (w1.setCell ⟨t, 5, none⟩ (.int .i64 ((s.made : Int) + 1))) w4 := by
      have := turned_fr (F := [t, nb, kb, hb, fb, pb]) q2 (by simp)
      exact ⟨this.os, this.tape, this.output, this.size, this.block, this.foot⟩
    have HF4 := hide ((f1.trans (fr_set (by simp) _)).trans f4)
    have HM5 := hide h5
    clear c0 c1 c2 c3 c4 c5 cf
    obtain ⟨c0, c1, c2, c3, c4, c5, cf⟩ := h2.cells
    rw [HE2.out] at c5
    obtain ⟨d0, d1, d2, d3, d4, d5, df⟩ := h3.cells
    obtain ⟨b0, b1, b2, b3, b4, b5, bf⟩ := h5.cells
    simp only [HM1.out] at b5
    have b5' : w4.cell? ⟨t, 5, none⟩ = some (.int .i64 ((s.made : Int) + 1)) := by have := HM5.out.cells.2.2.2.2.2.1; simpa [HM1.out] using this
    clear h2 h3 h3' h5 q1 q2 f1 f4 hF b5
    go_wp2_with fail
    go_region
    all_goals
      go_wp2_with fail
      go_region
      all_goals
        go_wp2
        go_ret3
        refine ⟨rfl, ⟨nb, kb, hb, fb, pb, ?_, rfl⟩, ?_⟩
        · have := HM5.out
          rw [HE3.out] at this
          exact this.frame fun _ _ => rfl
        · exact ⟨HF4.out.os, HF4.out.tape, HF4.out.output, HF4.out.size, HF4.out.block, HF4.out.foot⟩
  · rw [e1, if_neg (by simp)]
    unfold OPost2 at HO
    rw [e1, e2] at HO
    clear h1 hid e1 e2 hm1
    go_enter Try.func8, Try.ntmps8
    go_wp2_with fail
    refine HO.out.mono ?_
    rintro e w1 ⟨rfl, h2, f1⟩
    have H2 := hide (And.intro (h2.mono (Nat.le_succ _)) f1)
    clear h2 f1
    go_wp2
    go_ret3
    exact ⟨rfl, H2.out.1, H2.out.2⟩
noncomputable def OSt.hold (s : OSt) (id : Int) : Int × OSt := if 0 < at0 s.n id then (0, ({ s with holds := upd s.holds (ik id) (some (at0 s.holds id + 1)) } : OSt).more id) else (1, s)
set_option maxRecDepth 100000 in
set_option maxHeartbeats 800000 in
theorem hold_calls {w : World} {t N : Nat} {s : OSt} {F : List Nat} (h : OS w t s N F) (hN : N < 1099511627770) {id : Int} (hi : W64 id) :
    Calls Try.prog 17 #[.pointer (some ⟨t, 0, none⟩), .int .i64 id] w (OPost t F w (.int .i64 (s.hold id).1) (s.hold id).2 (N + 2)) := by
  have HT := hide (there_calls h hi)
  have HS := hide (h.mono (Nat.le_add_right N 2))
  unfold OSt.hold
  by_cases hv : 0 < at0 s.n id
  · rw [if_pos hv]
    simp only [hv, decide_true] at HT
    obtain ⟨nb, kb, hb, fb, pb, h1, rfl⟩ := h
    obtain ⟨l1, l2, l3⟩ := h1.mh.at hi
    obtain ⟨c0, c1, c2, c3, c4, c5, cf⟩ := h1.cells
    obtain ⟨hw, hw', hq1, hq2⟩ := at_step (h1.bh (ik id)) (show N < 1099511627776 by omega)
    have HM := hide h1
    have hmh := hide h1.mh
    have HQ := hide hq1
    clear h1 l2 hq1 hq2 hw' hv
    go_enter Try.func17, Try.ntmps17
    go_wp2_with fail
    refine HT.out.mono ?_
    rintro e w1 ⟨rfl, rfl⟩
    go_wp2_with (at_mapUpdate; refine wpList_store_MI _ rfl _ _ _ 55 rfl O.ki O.und O.undInt hmh.out (by unfold maxLen; omega) rfl _ (ik id) _ rfl rfl (O.keyi hi) ?_ ?_)
    · first | exact HQ.out | (rw [hw]; exact HQ.out)
    intro w1 hm1 ht1
    have hm2 : MII w1 hb (N + 1) (upd s.holds (ik id) (some (at0 s.holds id + 1))) := by first | exact hm1 | (rw [hw] at hm1; exact hm1)
    have HM1 := hide (HM.out.turn_h (Nat.le_succ _) hm2 ht1 (HM.out.bh.upd _ _ (.inl rfl)))
    have HF1 := hide (turned_fr (F := [t, nb, kb, hb, fb, pb]) ht1 (by simp))
    have HMO := hide (more_calls (s := { s with holds := upd s.holds (ik id) (some (at0 s.holds id + 1)) }) ⟨nb, kb, hb, fb, pb, HM1.out, rfl⟩ (by omega) hi)
    clear hm1 hm2 ht1 l1 c0 c1 c2 c3 c4 c5 cf
    obtain ⟨c0, c1, c2, c3, c4, c5, cf⟩ := HM1.out.cells
    go_wp2_with fail
    refine HMO.out.mono ?_
    rintro e w2 ⟨rfl, ho, hf⟩
    have HE := hide (And.intro ho (HF1.out.trans hf))
    clear ho hf
    go_wp2
    go_ret
    exact ⟨rfl, HE.out.1, HE.out.2⟩
  · rw [if_neg hv]
    simp only [hv, decide_false] at HT
    clear h hv
    go_enter Try.func17, Try.ntmps17
    go_wp2_with fail
    refine HT.out.mono ?_
    rintro e w1 ⟨rfl, rfl⟩
    go_wp2
    go_ret
    exact ⟨rfl, HS.out, Fr.refl _ _⟩
noncomputable def OSt.unhold (s : OSt) (id : Int) : OSt := { s with holds := upd s.holds (ik id) (some (at0 s.holds id - 1)) }
noncomputable def OSt.drop (s : OSt) (id : Int) : (List Int × Int) × OSt := if 0 < at0 s.n id ∧ at0 s.holds id ≠ 0 then (((s.unhold id).dead id, 0), (s.unhold id).less id) else (([], 1), s)
set_option maxRecDepth 100000 in
set_option maxHeartbeats 800000 in
theorem drop_calls {w : World} {t N : Nat} {s : OSt} {F : List Nat} (h : OS w t s N F) (hN : N < 1099511627770) {id : Int} (hi : W64 id) :
    Calls Try.prog 19 #[.pointer (some ⟨t, 0, none⟩), .int .i64 id] w (LPost2 t F w (s.drop id).1.1 (s.drop id).1.2 (s.drop id).2 (N + 2)) := by
  have HT := hide (there_calls h hi)
  have HS := hide (h.mono (Nat.le_add_right N 2))
  unfold OSt.drop
  by_cases hv : 0 < at0 s.n id
  · simp only [hv, decide_true] at HT
    obtain ⟨nb, kb, hb, fb, pb, h1, rfl⟩ := h
    obtain ⟨l1, l2, l3⟩ := h1.mh.at hi
    obtain ⟨c0, c1, c2, c3, c4, c5, cf⟩ := h1.cells
    obtain ⟨hw, hw', hq1, hq2⟩ := at_step (h1.bh (ik id)) (show N < 1099511627776 by omega)
    have HM := hide h1
    have hmh := hide h1.mh
    have HQ := hide hq2
    by_cases hz : at0 s.holds id ≠ 0
    · rw [if_pos ⟨hv, hz⟩]
      have hz2 : ((s.holds (ik id)).getD 0 == 0) = false := by simpa [at0] using hz
      clear h1 l2 hq1 hq2 hw hv hz
      go_enter Try.func19, Try.ntmps19
      go_wp2_with fail
      refine HT.out.mono ?_
      rintro e w1 ⟨rfl, rfl⟩
      go_wp2_with (at_mapUpdate; refine wpList_store_MI _ rfl _ _ _ 55 rfl O.ki O.und O.undInt hmh.out (by unfold maxLen; omega) rfl _ (ik id) _ rfl rfl (O.keyi hi) ?_ ?_)
      · first | exact HQ.out | (rw [hw']; exact HQ.out)
      intro w1 hm1 ht1
      have hm2 : MII w1 hb (N + 1) (upd s.holds (ik id) (some (at0 s.holds id - 1))) := by first | exact hm1 | (rw [hw'] at hm1; exact hm1)
      have HM1 := hide (HM.out.turn_h (Nat.le_succ _) hm2 ht1 (HM.out.bh.upd _ _ (.inr rfl)))
      have HF1 := hide (turned_fr (F := [t, nb, kb, hb, fb, pb]) ht1 (by simp))
      have HL := hide (less_calls (s := s.unhold id) ⟨nb, kb, hb, fb, pb, HM1.out, rfl⟩ (by omega) hi)
      clear hm1 hm2 ht1 l1 c0 c1 c2 c3 c4 c5 cf
      obtain ⟨c0, c1, c2, c3, c4, c5, cf⟩ := HM1.out.cells
      go_wp2_with fail
      refine HL.out.mono ?_
      rintro e w3 ⟨v, rfl, h3, h4, h5⟩
      have HE := hide (And.intro (h3.base HF1.out.size) (And.intro h4 (HF1.out.trans h5)))
      clear h3 h4 h5
      go_wp2
      go_ret2
      exact ⟨v, rfl, HE.out.1, HE.out.2.1, HE.out.2.2⟩
    · rw [if_neg (fun e => hz e.2)]
      have hz2 : ((s.holds (ik id)).getD 0 == 0) = true := by simpa [at0] using hz
      clear h1 l2 hq1 hq2 hw hv hz
      go_enter Try.func19, Try.ntmps19
      go_wp2_with fail
      refine HT.out.mono ?_
      rintro e w1 ⟨rfl, rfl⟩
      go_wp2
      go_ret2
      exact ⟨_, rfl, IntsAt.nil _ _, HS.out, Fr.refl _ _⟩
  · rw [if_neg (fun e => hv e.1)]
    simp only [hv, decide_false] at HT
    clear h hv
    go_enter Try.func19, Try.ntmps19
    go_wp2_with fail
    refine HT.out.mono ?_
    rintro e w1 ⟨rfl, rfl⟩
    go_wp2
    go_ret2
    exact ⟨_, rfl, IntsAt.nil _ _, HS.out, Fr.refl _ _⟩
end Go.Proofs.Ytfdkemkfiddmjaa
