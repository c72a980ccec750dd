/- The reference's memory: Grace; condition: the memory is held. -/
import Derived.Test.YteglgmdmnhkmgaaRK5
set_option linter.unusedVariables false
set_option linter.unusedSimpArgs false
namespace Go.Proofs.Yteglgmdmnhkmgaa
open Go.RowKit Go.MapKept

theorem rk_neqn (W : World) (A : Option Addr) (n c : Nat) : (binOp .neq 31 (.slice A n c) (.slice none 0 0)).run Try.prog W = .ok (.bool (!A.isNone)) W := by
  simp only [binOp]
  simp [Op.equal, Op.maxDepth, Lib.run_equalIn_slice_nil W 9999 31 5 A n c 0 0 Try.underlying31]
theorem RM.kill {w : World} {x : Nat} {ls : List RE} {sv : Value} {k : KA} (h : RM w x ls sv k) {i : Nat} {ent : RE} (hli : ls[i]? = some ent) {q : RA} (ha : ent.a = some q) {L : Nat} (hL : (k.live.filter fun y => y.1 != i + 1).length = L) :
    RM ((w.setCell ⟨ent.r, 0, none⟩ (.slice none 0 0)).setCell ⟨x, 1, none⟩ (.int .i64 L)) x (ls.set i { ent with a := none, p := q.perm, t := q.ret }) sv { k with live := k.live.filter fun y => y.1 != i + 1 } ∧
    rfoot x sv (ls.set i { ent with a := none, p := q.perm, t := q.ret }) = rfoot x sv ls ∧ Fr (rfoot x sv ls) (rfoot x sv ls) w ((w.setCell ⟨ent.r, 0, none⟩ (.slice none 0 0)).setCell ⟨x, 1, none⟩ (.int .i64 L)) ∧ k.live.length = L + 1 := by
  obtain ⟨a1, a2, a3, a4, a5, a6, a7⟩ := h.apart hli
  have hrd := h.hr ent (List.mem_of_getElem? hli)
  have hone := liveOf_one ls 1 i ent { ent with a := none, p := q.perm, t := q.ret } q hli ha rfl
  have hkill := liveOf_kill ls 1 i ent { ent with a := none, p := q.perm, t := q.ret } hli rfl
  rw [← h.lv] at hone hkill
  rw [show 1 + i = i + 1 by omega] at hkill
  rw [hkill, hL] at hone
  have hx1 : (w.setCell ⟨ent.r, 0, none⟩ (.slice none 0 0)).heap[x]? = some (memO sv k.live.length k.til) := by rw [setCell_other (fun e => a1 e.symm)]; exact h.hx
  have hr1 : (w.setCell ⟨ent.r, 0, none⟩ (.slice none 0 0)).heap[ent.r]? = some ({ ent with a := none, p := q.perm, t := q.ret } : RE).cells := by
    have h0 := hrd
    unfold RE.cells at h0
    rw [ha] at h0
    exact heap_setCell_same h0
  refine ⟨h.change (k' := { k with live := k.live.filter fun y => y.1 != i + 1 }) hli { ent with a := none, p := q.perm, t := q.ret } rfl rfl (by rw [hL]; exact memO_live hx1 L) ?_ (fun a ha => by cases ha) ?_ (by simp [World.setCell]) rfl hkill.symm, foot_set x sv hli rfl rfl, ?_, by omega⟩
  · rw [setCell_other a1]; exact hr1
  · intro b _ hb1 hb2 _
    rw [setCell_other hb1, setCell_other hb2]
  · refine fr_one rfl rfl rfl (by simp [World.setCell]) fun b _ hb => ?_
    rw [setCell_other (fun e => hb (by rw [e]; exact (foot_r hli).2.2)), setCell_other (fun e => hb (by rw [e]; exact (foot_r hli).1))]
def gk (k : KA) (j : Nat) : KA := { k with live := k.live.filter fun y => !(y.2.ret && decide (y.1 ≤ j)) }
theorem gk_zero {w : World} {x : Nat} {ls : List RE} {sv : Value} {k : KA} (h : RM w x ls sv k) : gk k 0 = k := by
  unfold gk
  rw [List.filter_eq_self.2]
  intro y hy
  rw [h.lv] at hy
  have := (mem_liveOf ls 1 y hy).1
  have : decide (y.1 ≤ 0) = false := by simp; omega
  rw [this]; simp
theorem gk_all {w : World} {x : Nat} {ls : List RE} {sv : Value} {k : KA} (h : RM w x ls sv k) : gk k ls.length = k.grace := by
  unfold gk KA.grace
  congr 1
  refine List.filter_congr fun y hy => ?_
  rw [h.lv] at hy
  obtain ⟨h1, e, h2, _⟩ := mem_liveOf ls 1 y hy
  have := (List.getElem?_eq_some_iff.1 h2).1
  have : decide (y.1 ≤ ls.length) = true := by simp; omega
  rw [this]; simp
theorem gk_succ (k : KA) (j : Nat) : (gk k (j + 1)).live = (gk k j).live.filter fun y => !(y.2.ret && y.1 == j + 1) := by
  unfold gk
  simp only [List.filter_filter]
  refine List.filter_congr fun y _ => ?_
  by_cases c : y.1 = j + 1
  · cases y.2.ret <;> simp [c]
  · have : decide (y.1 ≤ j + 1) = decide (y.1 ≤ j) := by rw [Bool.eq_iff_iff]; simp; omega
    rw [this]
    simp [c]
/-- The entry of a number that is live. -/
theorem RM.at_live {w : World} {x : Nat} {ls : List RE} {sv : Value} {k : KA} (h : RM w x ls sv k) {j : Nat} {ent : RE} (hj : ls[j]? = some ent) {y : Nat × RA} (hy : y ∈ k.live) (e : y.1 = j + 1) : ent.a = some y.2 := by
  rw [h.lv] at hy
  obtain ⟨h1, e', h2, h3⟩ := mem_liveOf ls 1 y hy
  rw [e, Nat.add_sub_cancel, hj] at h2
  cases h2
  exact h3
theorem gk_same {w : World} {x : Nat} {ls : List RE} {sv : Value} {k : KA} {j : Nat} (h : RM w x ls sv (gk k j)) {ent : RE} (hj : ls[j]? = some ent) (ha : ∀ q, ent.a = some q → q.ret = false) : gk k (j + 1) = gk k j := by
  have : (gk k (j + 1)).live = (gk k j).live := by
    rw [gk_succ, List.filter_eq_self.2]
    intro y hy
    by_cases c : y.1 = j + 1
    · rw [ha _ (h.at_live hj hy c)]; simp
    · simp [c]
  show ({ k with live := (gk k (j + 1)).live } : KA) = { k with live := (gk k j).live }
  rw [this]
theorem gk_kill {w : World} {x : Nat} {ls : List RE} {sv : Value} {k : KA} {j : Nat} (h : RM w x ls sv (gk k j)) {ent : RE} (hj : ls[j]? = some ent) {q : RA} (ha : ent.a = some q) (hq : q.ret = true) : gk k (j + 1) = { gk k j with live := (gk k j).live.filter fun y => y.1 != j + 1 } := by
  have : (gk k (j + 1)).live = (gk k j).live.filter fun y => y.1 != j + 1 := by
    rw [gk_succ]
    refine List.filter_congr fun y hy => ?_
    by_cases c : y.1 = j + 1
    · have := h.at_live hj hy c
      rw [ha] at this
      cases this
      simp [c, hq]
    · have hb : (y.1 == j + 1) = false := by simpa using c
      simp [bne, hb]
  show ({ k with live := (gk k (j + 1)).live } : KA) = _
  rw [this]
  rfl
def GraceRel (w : World) (x : Nat) (sv : Value) (k : KA) (n : Nat) (G : List Nat) (v : Value) (wr : World) : Prop :=
  ∃ (j : Nat) (ls : List RE), j ≤ n ∧ v = .int .i64 j ∧ RM wr x ls sv (gk k j) ∧ ls.length = n ∧ rfoot x sv ls = G ∧ Fr G G w wr
theorem GraceRel.same {w wr : World} {x : Nat} {sv : Value} {k : KA} {n : Nat} {G : List Nat} {j : Nat} {ls : List RE} (hj : j < n) (h : RM wr x ls sv (gk k j)) (hl : ls.length = n) (hG : rfoot x sv ls = G) (hf : Fr G G w wr) {ent : RE} (hli : ls[j]? = some ent) (ha : ∀ q, ent.a = some q → q.ret = false) :
    GraceRel w x sv k n G (.int .i64 ((j : Int) + 1)) wr := ⟨j + 1, ls, by omega, by simp, by rw [gk_same h hli ha]; exact h, hl, hG, hf⟩
set_option maxRecDepth 100000 in
set_option maxHeartbeats 2000000 in
theorem grace_R {w : World} {x : Nat} {k : KA} {G : List Nat} (h : RS w x k G) (hw : WF k) :
    Calls Try.prog 33 #[.pointer (some ⟨x, 0, none⟩)] w (RPostS x G w (.tuple #[]) k.grace) := by
  obtain ⟨ls, sv, h2, rfl⟩ := h
  have hneq := rk_neqn
  have hn32 : ls.length < 4294967296 := by rw [← h2.md]; exact hw.mx
  have H0 := hide (show GraceRel w x sv k ls.length (rfoot x sv ls) (.int .i64 0) w from ⟨0, ls, Nat.zero_le _, rfl, by rw [gk_zero h2]; exact h2, rfl, rfl, Fr.refl _ _⟩)
  have HALL := hide (gk_all h2)
  have hlv := hw.lv
  generalize hn : ls.length = n at *
  generalize rfoot x sv ls = G at *
  clear h2 hw hn
  go_enter Try.func33, Try.ntmps33
  go_wp2_with fail
  go_loopw [2] (fun v wr => GraceRel w x sv k n G v wr) (fun v _ => n - (intOf v).toNat)
  case atStart => exact H0.out
  case round =>
    obtain ⟨j, l, hj, rfl, hm, hll, hG, hf⟩ := hrel
    have H := hide hm
    have HF := hide hf
    have HG := hide hG
    have HL := hide hll
    obtain ⟨A, cap, hsv, hel⟩ := hm.form
    obtain ⟨c0, c1, c2, fz⟩ := hm.cells
    have fz1 := fz 1
    have HSV := hide hsv
    rw [hsv, hll] at c0
    clear hf hG fz H0
    by_cases hlt : j < n
    · obtain ⟨ent, hli⟩ : ∃ ent, l[j]? = some ent := ⟨l[j], List.getElem?_eq_getElem (by omega)⟩
      obtain ⟨g, rfl, hc⟩ := hel j ent hli
      have hrd := hm.hr ent (List.mem_of_getElem? hli)
      have hfr := RE.frz hrd 0
      have hj0 : (0 : Int) ≤ j := by omega
      have hj1 : (j : Int) < n := by omega
      have HLI := hide hli
      rcases RE.reads hrd with ⟨ha, r0, r2⟩ | ⟨q, ha, r0, r1, r2⟩
      · have HS := hide (GraceRel.same hlt hm hll HG.out HF.out hli (fun q hq => by rw [ha] at hq; cases hq))
        clear hm hll hel hsv hli hrd ha H
        cases ht : ent.t <;> rw [ht] at r2
        all_goals
          go_wp2
          exact ⟨HS.out, by show n - ((j : Int) + 1).toNat < n - ((j : Int)).toNat; omega⟩
      · cases hret : q.ret with
        | false =>
          rw [hret] at r2
          have HS := hide (GraceRel.same hlt hm hll HG.out HF.out hli (fun q' hq => by rw [ha] at hq; cases hq; exact hret))
          clear hm hll hel hsv hli hrd ha H hret
          go_wp2
          exact ⟨HS.out, by show n - ((j : Int) + 1).toNat < n - ((j : Int)).toNat; omega⟩
        | true =>
          rw [hret] at r2
          have hgk := gk_kill hm hli ha hret
          obtain ⟨k1, k2, k3, k4⟩ := hm.kill hli ha rfl
          rw [← hgk] at k1
          obtain ⟨L, hL⟩ : ∃ L, L = ((gk k j).live.filter fun y => y.1 != j + 1).length := ⟨_, rfl⟩
          rw [← hL] at k1 k3 k4
          rw [HG.out] at k2 k3
          have HS : Hid (GraceRel w x sv k n G (.int .i64 ((j : Int) + 1)) ((wr.setCell ⟨ent.r, 0, none⟩ (.slice none 0 0)).setCell ⟨x, 1, none⟩ (.int .i64 L))) :=
            hide ⟨j + 1, _, by omega, by simp, k1, by rw [List.length_set]; exact hll, k2, HF.out.trans k3⟩
          have hlive : (gk k j).live.length ≤ k.live.length := List.length_filter_le _ _
          have hLL : ((gk k j).live.length : Int) = (L : Int) + 1 := by omega
          rw [hLL] at c1
          have hL0 : (0 : Int) ≤ L := by omega
          have hL1 : L ≤ 4096 := by omega
          have a1 := (hm.apart hli).1
          have a1' : ¬ x = ent.r := fun e => a1 e.symm
          clear hm hll hel hsv hli hrd ha H hret k1 k2 k3 k4 hL hLL hgk hlive
          go_wp2
          exact ⟨HS.out, by show n - ((j : Int) + 1).toNat < n - ((j : Int)).toNat; omega⟩
    · obtain rfl : j = n := by omega
      rw [HALL.out] at hm
      have HP := hide (show RPostS x G w (.tuple #[]) k.grace (.returned (.tuple #[])) wr from ⟨G, rfl, ⟨l, sv, hm, HG.out⟩, HF.out⟩)
      clear hm hel hsv H
      go_wp2
      go_end0
      exact HP.out
end Go.Proofs.Yteglgmdmnhkmgaa
