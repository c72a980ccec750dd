/- Contracts of Pin, Unpin, Open of an objects' table, and of all methods at a table that is none; conditions: each contract's own. -/
import Derived.Test.YtfdkemkfiddmjaaOLive
set_option linter.unusedVariables false
set_option linter.unusedSimpArgs false
namespace Go.Proofs.Ytfdkemkfiddmjaa
open Go.RowKit Go.MapKept Go.Maps

/-- A text's key. -/
abbrev sk (s : ByteArray) : Lit := .string s.data.toList
theorem opath_len {p : ByteArray} (h : opath p = true) : p.size ≤ 256 := by
  unfold opath at h
  simp at h
  omega
noncomputable def OSt.pin (s : OSt) (p : ByteArray) (fd : Int) : Int × OSt :=
  if opath p = false then (1, s) else if (s.get fd).2.2 ≠ 0 then (8, s) else if (s.pins (sk p)).isSome = true then (5, s) else (0, ({ s with pins := upd s.pins (sk p) (some (s.get fd).2.1) } : OSt).more (s.get fd).2.1)
set_option maxRecDepth 100000 in
set_option maxHeartbeats 1600000 in
theorem pin_calls {w : World} {t N : Nat} {s : OSt} {F : List Nat} (h : OS w t s N F) (hN : N < 1099511627770) (p : ByteArray) {fd : Int} (hi : W64 fd) :
    Calls Try.prog 16 #[.pointer (some ⟨t, 0, none⟩), .string p, .int .i64 fd] w (OPost t F w (.int .i64 (s.pin p fd).1) (s.pin p fd).2 (N + 2)) := by
  have HP := hide (fun W => path_calls p W)
  have HG := hide (get_calls h hi)
  have hid : W64 (s.get fd).2.1 := by rw [OSt.get_id]; exact (h.wf hi).1
  have HID := hide hid
  have HS := hide (h.mono (Nat.le_add_right N 2))
  unfold OSt.pin
  unfold v3 at HG
  by_cases hp : opath p = false
  · rw [if_pos hp]
    rw [hp] at HP
    clear h hid hp
    go_enter Try.func16, Try.ntmps16
    go_wp2_with fail
    refine (HP.out _).mono ?_
    rintro e w1 ⟨rfl, rfl⟩
    go_wp2
    go_ret
    exact ⟨rfl, HS.out, Fr.refl _ _⟩
  rw [if_neg hp]
  have hp1 : opath p = true := by simpa using hp
  have hpl := opath_len hp1
  rw [hp1] at HP
  by_cases he : (s.get fd).2.2 ≠ 0
  · rw [if_pos he]
    have hg := OSt.get_0 he
    rw [hg] at HG
    simp only at HG
    clear h hid he hg hp hp1
    go_enter Try.func16, Try.ntmps16
    go_wp2_with fail
    refine (HP.out _).mono ?_
    rintro e w1 ⟨rfl, rfl⟩
    go_wp2_with fail
    refine HG.out.mono ?_
    rintro e w1 ⟨rfl, rfl⟩
    go_wp2
    go_ret
    exact ⟨rfl, HS.out, Fr.refl _ _⟩
  rw [if_neg he]
  have he0 : (s.get fd).2.2 = 0 := by simpa using he
  rw [he0] at HG
  generalize (s.get fd).2.1 = id at *
  generalize (s.get fd).1 = kd at *
  obtain ⟨nb, kb, hb, fb, pb, h1, rfl⟩ := h
  obtain ⟨l1, l2, l3⟩ := h1.mp.at (s := p) (by unfold maxLen; omega)
  obtain ⟨c0, c1, c2, c3, c4, c5, cf⟩ := h1.cells
  by_cases hs : (s.pins (sk p)).isSome = true
  · rw [if_pos hs]
    simp only [sk] at hs
    rw [hs] at l2
    clear h1 hid he he0 hp hp1 l1 l3 hs
    go_enter Try.func16, Try.ntmps16
    go_wp2_with fail
    refine (HP.out _).mono ?_
    rintro e w1 ⟨rfl, rfl⟩
    go_wp2_with fail
    refine HG.out.mono ?_
    rintro e w1 ⟨rfl, rfl⟩
    go_wp2
    go_ret
    exact ⟨rfl, HS.out, Fr.refl _ _⟩
  · rw [if_neg hs]
    have hs2 : (s.pins (.string p.data.toList)).isSome = false := by simpa [sk] using hs
    rw [hs2] at l2
    have HM := hide h1
    have hmp := hide h1.mp
    have hkp := hide (O.keys (s := p) (by unfold maxLen; omega))
    clear h1 hid he he0 hp hp1 l1 l3 hs hs2
    go_enter Try.func16, Try.ntmps16
    go_wp2_with fail
    refine (HP.out _).mono ?_
    rintro e w1 ⟨rfl, rfl⟩
    go_wp2_with fail
    refine HG.out.mono ?_
    rintro e w1 ⟨rfl, rfl⟩
    go_wp2_with (at_mapUpdate; refine wpList_store_MI _ rfl _ _ _ 58 rfl O.ks O.undS O.undInt hmp.out (by unfold maxLen; omega) rfl _ (sk p) _ rfl rfl hkp.out HID.out ?_)
    intro w1 hm1 ht1
    have HM1 := hide (HM.out.turn_p (Nat.le_succ _) hm1 ht1)
    have HF1 := hide (turned_fr (F := [t, nb, kb, hb, fb, pb]) ht1 (by simp))
    have HMO := hide (more_calls (s := { s with pins := upd s.pins (sk p) (some id) }) ⟨nb, kb, hb, fb, pb, HM1.out, rfl⟩ (by omega) HID.out)
    clear hm1 ht1 l2 c0 c1 c2 c3 c4 c5 cf
    obtain ⟨c0, c1, c2, c3, c4, c5, cf⟩ := HM1.out.cells
    go_wp2_with fail
    refine HMO.out.mono ?_
    rintro e w2 ⟨rfl, ho, hf⟩
    have HE := hide (And.intro ho (HF1.out.trans hf))
    clear ho hf
    go_wp2
    go_ret
    exact ⟨rfl, HE.out.1, HE.out.2⟩
noncomputable def OSt.unpinned (s : OSt) (p : ByteArray) : OSt := { s with pins := upd s.pins (sk p) none }
noncomputable def OSt.unpin (s : OSt) (p : ByteArray) : (List Int × Int) × OSt :=
  if opath p = false then (([], 1), s) else if (s.pins (sk p)).isSome = false then (([], 4), s) else (((s.unpinned p).dead ((s.pins (sk p)).getD 0), 0), (s.unpinned p).less ((s.pins (sk p)).getD 0))
set_option maxRecDepth 100000 in
set_option maxHeartbeats 1600000 in
theorem unpin_calls {w : World} {t N : Nat} {s : OSt} {F : List Nat} (h : OS w t s N F) (hN : N < 1099511627770) (p : ByteArray) :
    Calls Try.prog 18 #[.pointer (some ⟨t, 0, none⟩), .string p] w (LPost2 t F w (s.unpin p).1.1 (s.unpin p).1.2 (s.unpin p).2 (N + 2)) := by
  have HP := hide (fun W => path_calls p W)
  have HS := hide (h.mono (Nat.le_add_right N 2))
  unfold OSt.unpin
  by_cases hp : opath p = false
  · rw [if_pos hp]
    rw [hp] at HP
    clear h hp
    go_enter Try.func18, Try.ntmps18
    go_wp2_with fail
    refine (HP.out _).mono ?_
    rintro e w1 ⟨rfl, rfl⟩
    go_wp2
    go_ret2
    exact ⟨_, rfl, IntsAt.nil _ _, HS.out, Fr.refl _ _⟩
  rw [if_neg hp]
  have hp1 : opath p = true := by simpa using hp
  have hpl := opath_len hp1
  rw [hp1] at HP
  obtain ⟨nb, kb, hb, fb, pb, h1, rfl⟩ := h
  obtain ⟨l1, l2, l3⟩ := h1.mp.at (s := p) (by unfold maxLen; omega)
  obtain ⟨c0, c1, c2, c3, c4, c5, cf⟩ := h1.cells
  by_cases hs : (s.pins (sk p)).isSome = false
  · rw [if_pos hs]
    simp only [sk] at hs
    rw [hs] at l2
    clear h1 hp hp1 l1 l3 hs
    go_enter Try.func18, Try.ntmps18
    go_wp2_with fail
    refine (HP.out _).mono ?_
    rintro e w1 ⟨rfl, rfl⟩
    go_wp2
    go_ret2
    exact ⟨_, rfl, IntsAt.nil _ _, HS.out, Fr.refl _ _⟩
  · rw [if_neg hs]
    have hs2 : (s.pins (.string p.data.toList)).isSome = true := by simpa [sk, Option.isSome_iff_ne_none] using hs
    rw [hs2] at l2
    have HID := hide l3
    simp only [sk]
    generalize (s.pins (.string p.data.toList)).getD 0 = id at *
    have HM := hide h1
    have hmp := hide h1.mp
    have hkp := hide (O.keys (s := p) (by unfold maxLen; omega))
    clear h1 hp hp1 l1 l3 hs hs2
    go_enter Try.func18, Try.ntmps18
    go_wp2_with fail
    refine (HP.out _).mono ?_
    rintro e w1 ⟨rfl, rfl⟩
    go_wp2_with (at_delete; refine wpList_drop_MI _ rfl _ _ 58 rfl O.ks O.undS hmp.out rfl _ (sk p) rfl hkp.out ?_)
    intro w2 hm2 ht2
    have HM2 := hide (HM.out.turn_p (Nat.le_refl _) hm2 ht2)
    have HF2 := hide (turned_fr (F := [t, nb, kb, hb, fb, pb]) ht2 (by simp))
    have HL := hide (less_calls (s := s.unpinned p) ⟨nb, kb, hb, fb, pb, HM2.out, rfl⟩ (by omega) HID.out)
    clear hm2 ht2 l2 c0 c1 c2 c3 c4 c5 cf
    obtain ⟨c0, c1, c2, c3, c4, c5, cf⟩ := HM2.out.cells
    go_wp2_with fail
    refine HL.out.mono ?_
    rintro e w3 ⟨v, rfl, h3, h4, h5⟩
    have HE := hide (And.intro (h3.base HF2.out.size) (And.intro (h4.mono (Nat.le_succ _)) (HF2.out.trans h5)))
    clear h3 h4 h5
    go_wp2
    go_ret2
    exact ⟨v, rfl, HE.out.1, HE.out.2.1, HE.out.2.2⟩
noncomputable def OSt.opened (s : OSt) (p : ByteArray) : (Int × Int) × OSt :=
  if opath p = false then ((0, 1), s) else if (s.pins (sk p)).isSome = false then ((0, 4), s) else s.open_ ((s.pins (sk p)).getD 0)
set_option maxRecDepth 100000 in
set_option maxHeartbeats 1600000 in
theorem opened_calls {w : World} {t N : Nat} {s : OSt} {F : List Nat} (h : OS w t s N F) (hN : N < 1099511627770) (p : ByteArray) :
    Calls Try.prog 21 #[.pointer (some ⟨t, 0, none⟩), .string p] w (OPost2 t F w (s.opened p).1 (s.opened p).2 (N + 2)) := by
  have HP := hide (fun W => path_calls p W)
  have HS := hide (h.mono (Nat.le_add_right N 2))
  unfold OSt.opened
  by_cases hp : opath p = false
  · rw [if_pos hp]
    rw [hp] at HP
    clear h hp
    go_enter Try.func21, Try.ntmps21
    go_wp2_with fail
    refine (HP.out _).mono ?_
    rintro e w1 ⟨rfl, rfl⟩
    go_wp2
    go_ret2
    exact ⟨rfl, HS.out, Fr.refl _ _⟩
  rw [if_neg hp]
  have hp1 : opath p = true := by simpa using hp
  have hpl := opath_len hp1
  rw [hp1] at HP
  have hmp : W64 ((s.pins (.string p.data.toList)).getD 0) := by
    obtain ⟨nb, kb, hb, fb, pb, h1, rfl⟩ := h
    exact (h1.mp.at (s := p) (by unfold maxLen; omega)).2.2
  have HO := hide (open_calls h hN hmp)
  obtain ⟨nb, kb, hb, fb, pb, h1, rfl⟩ := h
  obtain ⟨l1, l2, l3⟩ := h1.mp.at (s := p) (by unfold maxLen; omega)
  obtain ⟨c0, c1, c2, c3, c4, c5, cf⟩ := h1.cells
  by_cases hs : (s.pins (sk p)).isSome = false
  · rw [if_pos hs]
    simp only [sk] at hs
    rw [hs] at l2
    clear h1 hp hp1 l1 l3 hs hmp HO
    go_enter Try.func21, Try.ntmps21
    go_wp2_with fail
    refine (HP.out _).mono ?_
    rintro e w1 ⟨rfl, rfl⟩
    go_wp2
    go_ret2
    exact ⟨rfl, HS.out, Fr.refl _ _⟩
  · rw [if_neg hs]
    have hs2 : (s.pins (.string p.data.toList)).isSome = true := by simpa [sk, Option.isSome_iff_ne_none] using hs
    rw [hs2] at l2
    simp only [sk]
    generalize (s.pins (.string p.data.toList)).getD 0 = id at *
    clear h1 hp hp1 l1 l3 hs hs2 hmp
    go_enter Try.func21, Try.ntmps21
    go_wp2_with fail
    refine (HP.out _).mono ?_
    rintro e w1 ⟨rfl, rfl⟩
    go_wp2_with fail
    refine HO.out.mono ?_
    rintro e w2 ⟨rfl, ho, hf⟩
    have HE := hide (And.intro ho hf)
    clear ho hf
    go_wp2
    go_ret2
    exact ⟨rfl, HE.out.1, HE.out.2⟩

/-! ### a table that is none -/
theorem add_nil (k : Int) (w : World) : Calls Try.prog 8 #[.pointer none, .int .i64 k] w (TellsW w (v3 (0, 0, 1))) := by
  unfold v3
  go_enter Try.func8, Try.ntmps8
  go_wp2
  go_ret3
  exact ⟨rfl, rfl⟩
theorem get_nil (k : Int) (w : World) : Calls Try.prog 20 #[.pointer none, .int .i64 k] w (TellsW w (v3 (0, 0, 1))) := by
  unfold v3
  go_enter Try.func20, Try.ntmps20
  go_wp2
  go_ret3
  exact ⟨rfl, rfl⟩
theorem dup_nil (k : Int) (w : World) : Calls Try.prog 15 #[.pointer none, .int .i64 k] w (TellsW w (.tuple #[.int .i64 0, .int .i64 1])) := by
  have HG := hide (fun W => get_nil k W)
  unfold v3 at HG
  go_enter Try.func15, Try.ntmps15
  go_wp2_with fail
  refine (HG.out _).mono ?_
  rintro e w1 ⟨rfl, rfl⟩
  go_wp2
  go_ret2
  exact ⟨rfl, rfl⟩
theorem close_nil (k : Int) (w : World) : Calls Try.prog 9 #[.pointer none, .int .i64 k] w (TellsW w (.tuple #[.slice none 0 0, .int .i64 1])) := by
  have HG := hide (fun W => get_nil k W)
  unfold v3 at HG
  go_enter Try.func9, Try.ntmps9
  go_wp2_with fail
  refine (HG.out _).mono ?_
  rintro e w1 ⟨rfl, rfl⟩
  go_wp2
  go_ret2
  exact ⟨rfl, rfl⟩
theorem hold_nil (k : Int) (w : World) : Calls Try.prog 17 #[.pointer none, .int .i64 k] w (TellsW w (.int .i64 1)) := by
  go_enter Try.func17, Try.ntmps17
  go_wp2
  go_ret
  exact ⟨rfl, rfl⟩
theorem drop_nil (k : Int) (w : World) : Calls Try.prog 19 #[.pointer none, .int .i64 k] w (TellsW w (.tuple #[.slice none 0 0, .int .i64 1])) := by
  go_enter Try.func19, Try.ntmps19
  go_wp2
  go_ret2
  exact ⟨rfl, rfl⟩
theorem pin_nil (p : ByteArray) (k : Int) (w : World) : Calls Try.prog 16 #[.pointer none, .string p, .int .i64 k] w (TellsW w (.int .i64 1)) := by
  go_enter Try.func16, Try.ntmps16
  go_wp2
  go_ret
  exact ⟨rfl, rfl⟩
theorem unpin_nil (p : ByteArray) (w : World) : Calls Try.prog 18 #[.pointer none, .string p] w (TellsW w (.tuple #[.slice none 0 0, .int .i64 1])) := by
  go_enter Try.func18, Try.ntmps18
  go_wp2
  go_ret2
  exact ⟨rfl, rfl⟩
theorem opened_nil (p : ByteArray) (w : World) : Calls Try.prog 21 #[.pointer none, .string p] w (TellsW w (.tuple #[.int .i64 0, .int .i64 1])) := by
  go_enter Try.func21, Try.ntmps21
  go_wp2
  go_ret2
  exact ⟨rfl, rfl⟩
end Go.Proofs.Ytfdkemkfiddmjaa
