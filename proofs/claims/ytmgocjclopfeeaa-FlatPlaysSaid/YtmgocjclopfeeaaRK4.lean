/- The reference's memory: SetFail, Free, Retire; condition: the memory is held. -/
import Derived.Test.YtmgocjclopfeeaaRK3
set_option linter.unusedVariables false
set_option linter.unusedSimpArgs false
namespace Go.Proofs.Ytmgocjclopfeeaa
open Go.RowKit Go.MapKept

theorem memO_til {w : World} {x : Nat} {sv : Value} {l t : Nat} (h : w.heap[x]? = some (memO sv l t)) (n : Nat) : (w.setCell ⟨x, 2, none⟩ (.int .i64 n)).heap[x]? = some (memO sv l n) := by
  unfold memO at h ⊢
  exact heap_setCell_same h
theorem memO_live {w : World} {x : Nat} {sv : Value} {l t : Nat} (h : w.heap[x]? = some (memO sv l t)) (n : Nat) : (w.setCell ⟨x, 1, none⟩ (.int .i64 n)).heap[x]? = some (memO sv n t) := by
  unfold memO at h ⊢
  exact heap_setCell_same h
theorem setCell_other {w : World} {a : Addr} {v : Value} {b : Nat} (h : b ≠ a.block) : (w.setCell a v).heap[b]? = w.heap[b]? := Below.heap_setCell _ _ _ _ h
theorem fr_one {w w' : World} {F : List Nat} (os : w'.os = w.os) (tp : w'.tape = w.tape) (ou : w'.output = w.output) (sz : w.heap.size ≤ w'.heap.size) (hb : ∀ b, b < w.heap.size → b ∉ F → w'.heap[b]? = w.heap[b]?) : Fr F F w w' :=
  ⟨os, tp, ou, sz, hb, fun k hk => .inl hk⟩
theorem liveOf_one : ∀ (ls : List RE) (s i : Nat) (ent ent' : RE) (q : RA), ls[i]? = some ent → ent.a = some q → ent'.a = none → (liveOf s (ls.set i ent')).length + 1 = (liveOf s ls).length
  | [], s, i, ent, ent', q, h, _, _ => by simp at h
  | e :: l, s, 0, ent, ent', q, h, ha, ha' => by
    simp at h
    subst h
    rw [List.set_cons_zero, liveOf, liveOf, ha, ha']
    simp
  | e :: l, s, i + 1, ent, ent', q, h, ha, ha' => by
    have ih := liveOf_one l (s + 1) i ent ent' q (by simpa using h) ha ha'
    rw [List.set_cons_succ, liveOf, liveOf, List.length_append, List.length_append, ← ih]
    omega
theorem foot_r {x : Nat} {sv : Value} {ls : List RE} {i : Nat} {ent : RE} (hi : ls[i]? = some ent) : ent.r ∈ rfoot x sv ls ∧ ent.d ∈ rfoot x sv ls ∧ x ∈ rfoot x sv ls := by
  have hm := List.mem_of_getElem? hi
  unfold rfoot
  simp only [List.mem_cons, List.mem_append, List.mem_flatMap]
  exact ⟨.inr (.inr ⟨ent, hm, by simp⟩), .inr (.inr ⟨ent, hm, by simp⟩), by simp⟩
set_option maxRecDepth 100000 in
theorem fail_R {w : World} {x : Nat} {k k' : KA} {G : List Nat} (h : RS w x k G) {n e : Int} (E : k.fail n = (e, k')) :
    Calls Try.prog 19 #[.pointer (some ⟨x, 0, none⟩), .int .i64 n] w (RPostS x G w (.int .i64 e) k') := by
  obtain ⟨ls, sv, h1, rfl⟩ := h
  unfold KA.fail at E
  by_cases hn : n < 0 ∨ 1048576 < n
  · rw [if_pos hn] at E
    cases E
    have HP := hide (show RPostS x (rfoot x sv ls) w (.int .i64 1) k (.returned (.int .i64 1)) w from ⟨_, rfl, ⟨ls, sv, h1, rfl⟩, Fr.refl _ _⟩)
    clear h1
    by_cases h0 : n < 0
    · go_enter Try.func19, Try.ntmps19
      go_wp2
      go_ret
      exact HP.out
    · have h2 : 1048576 < n := by omega
      go_enter Try.func19, Try.ntmps19
      go_wp2
      go_ret
      exact HP.out
  · rw [if_neg hn] at E
    cases E
    have h0 : ¬ n < 0 := by omega
    have h2 : ¬ 1048576 < n := by omega
    obtain ⟨N, rfl⟩ : ∃ N : Nat, n = N := ⟨n.toNat, by omega⟩
    obtain ⟨-, -, c2, fz⟩ := h1.cells
    have fz2 := fz 2
    have HP : Hid (RPostS x (rfoot x sv ls) w (.int .i64 0) { k with til := (N : Int).toNat } (.returned (.int .i64 0)) (w.setCell ⟨x, 2, none⟩ (.int .i64 N))) :=
      hide ⟨_, rfl, ⟨ls, sv, h1.own _ (memO_til h1.hx N) (fun b _ hb => setCell_other hb) (by simp [World.setCell]) rfl rfl, rfl⟩, Fr.setCell (by unfold rfoot; simp) _⟩
    clear fz h1
    go_enter Try.func19, Try.ntmps19
    go_wp2
    go_ret
    exact HP.out
set_option maxRecDepth 100000 in
theorem free_R {w : World} {x : Nat} {k k' : KA} {G : List Nat} (h : RS w x k G) (hw : WF k) {A : Int} (a : Nat) (hA : A = a) (h1 : a < 18446744073709551616) {e : Int} (E : k.free a = (e, k')) :
    Calls Try.prog 44 #[.pointer (some ⟨x, 0, none⟩), .int .u64 A] w (RPostS x G w (.int .i64 e) k') := by
  obtain ⟨ls, sv, h2, rfl⟩ := h
  subst hA
  have H := hide h2
  have HF := hide (first_R h2 a h1 (by rw [← h2.md]; exact hw.mx))
  have hlv := hw.lv
  obtain ⟨-, c1, -, fz⟩ := h2.cells
  have fz1 := fz 1
  clear h2 fz hw
  unfold KA.free at E
  go_enter Try.func44, Try.ntmps44
  go_wp2_with fail
  refine HF.out.mono ?_
  rintro e1 W ⟨rfl, ⟨rfl, hk⟩ | ⟨i, ent, q, hli, ha, hi, rfl, hk⟩⟩
  · rw [hk] at E
    cases E
    have HP := hide (show RPostS x (rfoot x sv ls) w (.int .i64 1) k (.returned (.int .i64 1)) w from ⟨_, rfl, ⟨ls, sv, H.out, rfl⟩, Fr.refl _ _⟩)
    clear hk HF
    go_wp2
    go_ret
    exact HP.out
  · rw [hk] at E
    cases E
    have hrd := H.out.hr ent (List.mem_of_getElem? hli)
    have hfr := RE.frz hrd 0
    obtain ⟨a1, a2, a3, a4, a5, a6, a7⟩ := H.out.apart hli
    rcases RE.reads hrd with ⟨ha', _, _⟩ | ⟨q', ha', r0, r1, r2⟩
    · rw [ha] at ha'; cases ha'
    rw [ha] at ha'
    cases ha'
    have hone := liveOf_one ls 1 i ent { ent with a := none, p := q.perm, t := q.ret } q hli ha rfl
    have hkill := liveOf_kill ls 1 i ent { ent with a := none, p := q.perm, t := q.ret } hli rfl
    rw [← H.out.lv] at hone hkill
    rw [show 1 + i = hi32 a by omega] at hkill
    rw [hkill] at hone
    obtain ⟨L, hL⟩ : ∃ L, L = (k.live.filter fun y => y.1 != hi32 a).length := ⟨_, rfl⟩
    rw [← hL] at hone
    have hLk : (k.live.length : Int) = (L : Int) + 1 := by omega
    rw [hLk] at c1
    have hL0 : (0 : Int) ≤ L := by omega
    have hL1 : L ≤ 4096 := by omega
    have HP : Hid (RPostS x (rfoot x sv ls) w (.int .i64 0) { k with live := k.live.filter fun y => y.1 != hi32 a } (.returned (.int .i64 0)) ((w.setCell ⟨ent.r, 0, none⟩ (.slice none 0 0)).setCell ⟨x, 1, none⟩ (.int .i64 L))) := hide (by
      have hx1 : (w.setCell ⟨ent.r, 0, none⟩ (.slice none 0 0)).heap[x]? = some (memO sv k.live.length k.til) := by rw [setCell_other (fun e => a1 e.symm)]; exact H.out.hx
      have hr1 : (w.setCell ⟨ent.r, 0, none⟩ (.slice none 0 0)).heap[ent.r]? = some ({ ent with a := none, p := q.perm, t := q.ret } : RE).cells := by
        have h0 := hrd
        unfold RE.cells at h0
        rw [ha] at h0
        exact heap_setCell_same h0
      refine ⟨_, rfl, ⟨_, sv, H.out.change (k' := { k with live := k.live.filter fun y => y.1 != hi32 a }) hli { ent with a := none, p := q.perm, t := q.ret } rfl rfl (by rw [← hL]; exact memO_live hx1 L) ?_ (fun a ha => by cases ha) ?_ (by simp [World.setCell]) rfl hkill.symm, rfl⟩, ?_⟩
      · rw [setCell_other a1]; exact hr1
      · intro b _ hb1 hb2 _
        rw [setCell_other hb1, setCell_other hb2]
      · rw [foot_set x sv hli (ent' := { ent with a := none, p := q.perm, t := q.ret }) rfl rfl]
        refine fr_one rfl rfl rfl (by simp [World.setCell]) fun b _ hb => ?_
        rw [setCell_other (fun e => hb (by rw [e]; exact (foot_r hli).2.2)), setCell_other (fun e => hb (by rw [e]; exact (foot_r hli).1))])
    have a1' : ¬ x = ent.r := fun e => a1 e.symm
    clear hk HF hone hkill hL hLk hrd ha hli hlv H r1 r2 a7 a2 a3 a4 a5 a6
    go_wp2
    go_ret
    exact HP.out
end Go.Proofs.Ytmgocjclopfeeaa
