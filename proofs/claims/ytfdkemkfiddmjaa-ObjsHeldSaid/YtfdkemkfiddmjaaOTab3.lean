/- Contracts of Add, Get, Dup, Close, Hold, Drop of an objects' table; conditions: each contract's own. -/
import Derived.Test.YtfdkemkfiddmjaaOTab2
set_option linter.unusedVariables false
set_option linter.unusedSimpArgs false
namespace Go.Proofs.Ytfdkemkfiddmjaa
open Go.RowKit Go.MapKept Go.Maps

def OSt.get (s : OSt) (fd : Int) : Int × Int × Int := match s.fds (ik fd) with
  | none => (0, 0, 8)
  | some id => (at0 s.kinds id, id, 0)
def v3 (x : Int × Int × Int) : Value := .tuple #[.int .i64 x.1, .int .i64 x.2.1, .int .i64 x.2.2]
/-- What the table tells is of the kind. -/
theorem OS.wf {w : World} {t N : Nat} {s : OSt} {F : List Nat} (h : OS w t s N F) {x : Int} (hx : W64 x) : W64 (at0 s.fds x) ∧ W64 (at0 s.kinds x) := by
  obtain ⟨nb, kb, hb, fb, pb, h1, rfl⟩ := h
  exact ⟨(h1.mf.at hx).2.2, (h1.mkd.at hx).2.2⟩
set_option maxRecDepth 100000 in
theorem get_calls {w : World} {t N : Nat} {s : OSt} {F : List Nat} (h : OS w t s N F) {fd : Int} (hi : W64 fd) :
    Calls Try.prog 20 #[.pointer (some ⟨t, 0, none⟩), .int .i64 fd] w (TellsW w (v3 (s.get fd))) := by
  have hwf := (h.wf hi).1
  obtain ⟨nb, kb, hb, fb, pb, h1, rfl⟩ := h
  obtain ⟨l1, l2, l3⟩ := h1.mf.at hi
  obtain ⟨c0, c1, c2, c3, c4, c5, cf⟩ := h1.cells
  unfold OSt.get v3 at0
  cases hf : s.fds (ik fd) with
  | none =>
    simp only [ik] at hf
    rw [hf] at l2
    simp only [Option.isSome_none, Option.getD_none] at l2
    clear l1 l3 h1
    go_enter Try.func20, Try.ntmps20
    go_wp2
    go_ret3
    exact ⟨rfl, rfl⟩
  | some id =>
    have hid : W64 id := by simpa [at0, hf] using hwf
    simp only [ik] at hf
    rw [hf] at l2
    simp only [Option.isSome_some, Option.getD_some] at l2
    obtain ⟨q1, q2, q3⟩ := h1.mkd.at hid
    clear l1 l3 h1 q2 q3 hf
    go_enter Try.func20, Try.ntmps20
    go_wp2
    go_ret3
    exact ⟨rfl, rfl⟩
theorem OSt.get_0 {s : OSt} {fd : Int} (h : (s.get fd).2.2 ≠ 0) : s.get fd = (0, 0, 8) := by
  unfold OSt.get at *
  cases hf : s.fds (ik fd) with
  | none => rfl
  | some id => rw [hf] at h; simp at h
theorem OSt.get_id (s : OSt) (fd : Int) : (s.get fd).2.1 = at0 s.fds fd := by
  unfold OSt.get at0
  cases hf : s.fds (ik fd) <;> rfl
noncomputable def OSt.dup (s : OSt) (fd : Int) : (Int × Int) × OSt := if (s.get fd).2.2 = 0 then s.open_ (s.get fd).2.1 else ((0, 8), s)
set_option maxRecDepth 100000 in
theorem dup_calls {w : World} {t N : Nat} {s : OSt} {F : List Nat} (h : OS w t s N F) (hN : N < 1099511627770) {fd : Int} (hi : W64 fd) :
    Calls Try.prog 15 #[.pointer (some ⟨t, 0, none⟩), .int .i64 fd] w (OPost2 t F w (s.dup fd).1 (s.dup fd).2 (N + 2)) := by
  have HG := hide (get_calls h hi)
  have hid : W64 (s.get fd).2.1 := by rw [OSt.get_id]; exact (h.wf hi).1
  have HO := hide (open_calls h hN hid)
  have HS := hide (h.mono (Nat.le_add_right N 2))
  unfold OSt.dup
  unfold v3 at HG
  by_cases he : (s.get fd).2.2 = 0
  · rw [if_pos he]
    rw [he] at HG
    clear h hid he
    go_enter Try.func15, Try.ntmps15
    go_wp2_with fail
    refine HG.out.mono ?_
    rintro e w1 ⟨rfl, rfl⟩
    go_wp2_with fail
    refine HO.out.mono ?_
    rintro e w2 ⟨rfl, ho, hf⟩
    have HE := hide (And.intro ho hf)
    clear ho hf
    go_wp2
    go_ret2
    exact ⟨rfl, HE.out.1, HE.out.2⟩
  · rw [if_neg he]
    have hg := OSt.get_0 he
    rw [hg] at HG
    simp only at HG
    clear h hid he hg
    go_enter Try.func15, Try.ntmps15
    go_wp2_with fail
    refine HG.out.mono ?_
    rintro e w1 ⟨rfl, rfl⟩
    go_wp2
    go_ret2
    exact ⟨rfl, HS.out, Fr.refl _ _⟩
def LPost2 (t : Nat) (F : List Nat) (w : World) (l : List Int) (er : Int) (s : OSt) (N : Nat) (e : Ending) (w' : World) : Prop := ∃ v, e = .returned (.tuple #[v, .int .i64 er]) ∧ IntsAt w' w.heap.size v l ∧ OS w' t s N F ∧ Fr F F w w'
noncomputable def OSt.unfd (s : OSt) (fd : Int) : OSt := { s with fds := upd s.fds (ik fd) none }
noncomputable def OSt.close (s : OSt) (fd : Int) : (List Int × Int) × OSt := if (s.get fd).2.2 = 0 then (((s.unfd fd).dead (s.get fd).2.1, 0), (s.unfd fd).less (s.get fd).2.1) else (([], 8), s)
theorem IntsAt.base {w : World} {B B' : Nat} {v : Value} {l : List Int} (h : IntsAt w B v l) (hb : B' ≤ B) : IntsAt w B' v l := by
  obtain ⟨A, c, rfl, h2⟩ := h
  refine ⟨A, c, rfl, fun i x hi => ?_⟩
  obtain ⟨g, h3, h4, h5⟩ := h2 i x hi
  exact ⟨g, h3, Nat.le_trans hb h4, h5⟩
set_option maxRecDepth 100000 in
set_option maxHeartbeats 800000 in
theorem close_calls {w : World} {t N : Nat} {s : OSt} {F : List Nat} (h : OS w t s N F) (hN : N < 1099511627770) {fd : Int} (hi : W64 fd) :
    Calls Try.prog 9 #[.pointer (some ⟨t, 0, none⟩), .int .i64 fd] w (LPost2 t F w (s.close fd).1.1 (s.close fd).1.2 (s.close fd).2 (N + 2)) := by
  have HG := hide (get_calls h hi)
  have hid : W64 (s.get fd).2.1 := by rw [OSt.get_id]; exact (h.wf hi).1
  have HS := hide (h.mono (Nat.le_add_right N 2))
  unfold OSt.close
  unfold v3 at HG
  by_cases he : (s.get fd).2.2 = 0
  · rw [if_pos he]
    rw [he] at HG
    obtain ⟨nb, kb, hb, fb, pb, h1, rfl⟩ := h
    obtain ⟨c0, c1, c2, c3, c4, c5, cf⟩ := h1.cells
    have HM := hide h1
    have hmf := hide h1.mf
    have HID := hide hid
    clear he h1 hid
    go_enter Try.func9, Try.ntmps9
    go_wp2_with fail
    refine HG.out.mono ?_
    rintro e w1 ⟨rfl, rfl⟩
    go_wp2_with (at_delete; refine wpList_drop_MI _ rfl _ _ 55 rfl O.ki O.und hmf.out rfl _ (ik fd) rfl (O.keyi hi) ?_)
    intro w2 hm2 ht2
    have HM2 := hide (HM.out.turn_f (Nat.le_refl _) hm2 ht2)
    have HF2 := hide (turned_fr (F := [t, nb, kb, hb, fb, pb]) ht2 (by simp))
    have HL := hide (less_calls (s := s.unfd fd) ⟨nb, kb, hb, fb, pb, HM2.out, rfl⟩ (by omega) HID.out)
    clear hm2 ht2 c0 c1 c2 c3 c4 c5 cf
    obtain ⟨c0, c1, c2, c3, c4, c5, cf⟩ := HM2.out.cells
    go_wp2_with fail
    refine HL.out.mono ?_
    rintro e w3 ⟨v, rfl, h3, h4, h5⟩
    have HE := hide (And.intro (h3.base HF2.out.size) (And.intro (h4.mono (Nat.le_succ _)) (HF2.out.trans h5)))
    clear h3 h4 h5
    go_wp2
    go_ret2
    exact ⟨v, rfl, HE.out.1, HE.out.2.1, HE.out.2.2⟩
  · rw [if_neg he]
    have hg := OSt.get_0 he
    rw [hg] at HG
    simp only at HG
    clear h hid he hg
    go_enter Try.func9, Try.ntmps9
    go_wp2_with fail
    refine HG.out.mono ?_
    rintro e w1 ⟨rfl, rfl⟩
    go_wp2
    go_ret2
    exact ⟨_, rfl, IntsAt.nil _ _, HS.out, Fr.refl _ _⟩
end Go.Proofs.Ytfdkemkfiddmjaa
