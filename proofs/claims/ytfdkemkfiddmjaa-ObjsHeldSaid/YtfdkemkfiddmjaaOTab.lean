/- Objects' tables: what a world holds, and contracts of counts' methods and of open; conditions: each contract's own. -/
import Derived.Test.YtfdkemkfiddmjaaFr
import Derived.Test.YtfdkemkfiddmjaaOMap
import Derived.StringKeys
import Derived.Test.YtfdkemkfiddmjaaProg
set_option linter.unusedVariables false
set_option linter.unusedSimpArgs false
namespace Go.Proofs.Ytfdkemkfiddmjaa
open Go.RowKit Go.MapKept Go.Maps

theorem O.und : Try.prog.underlying 55 = some (.map 3 3) := by kernel_rfl
theorem O.undS : Try.prog.underlying 58 = some (.map 9 3) := by kernel_rfl
theorem O.undInt : Try.prog.underlying 3 = some (.int .i64) := by kernel_rfl
theorem O.undStr : Try.prog.underlying 9 = some .string := by kernel_rfl
theorem O.zero (w : World) : (zeroValue 3).run Try.prog w = .ok (.int .i64 0) w := by kernel_rfl
theorem O.ki : Keyed Try.prog 3 := int_keyed O.undInt
theorem O.ks : Keyed Try.prog 9 := string_keyed O.undStr
/-- Is it a number of the kind? -/
abbrev W64 (x : Int) : Prop := (Lit.int .i64 x).wf = true
theorem w64_iff (x : Int) : W64 x ↔ -9223372036854775808 ≤ x ∧ x ≤ 9223372036854775807 := by
  simp [W64, Lit.wf, IntKind.min, IntKind.max, IntKind.signed, IntKind.bits]
theorem O.keyi {x : Int} (h : W64 x) : keyOf Try.prog 3 (.int .i64 x) = some (.int .i64 x) := keyOf_int_mk O.undInt h
theorem O.keys {s : ByteArray} (h : s.size ≤ maxLen) : keyOf Try.prog 9 (.string s) = some (.string s.data.toList) := WideMaps.keyOf_string_mk O.undStr h
abbrev MII (w : World) (b n : Nat) (f : Lit → Option Int) : Prop := MI Try.prog 3 3 w b n f
abbrev MIS (w : World) (b n : Nat) (f : Lit → Option Int) : Prop := MI Try.prog 9 3 w b n f
theorem MII.at {w : World} {b n : Nat} {f : Lit → Option Int} (h : MII w b n f) {x : Int} (hx : W64 x) :
    (Instr.lookup 55 (.map (some b)) (.int .i64 x) false).run Try.prog w = .ok (.int .i64 ((f (.int .i64 x)).getD 0)) w ∧ (Instr.lookup 55 (.map (some b)) (.int .i64 x) true).run Try.prog w = .ok (.tuple #[.int .i64 ((f (.int .i64 x)).getD 0), .bool (f (.int .i64 x)).isSome]) w ∧ W64 ((f (.int .i64 x)).getD 0) :=
  MI.look h O.ki O.und O.undInt (O.zero w) (O.keyi hx)
theorem MIS.at {w : World} {b n : Nat} {f : Lit → Option Int} (h : MIS w b n f) {s : ByteArray} (hx : s.size ≤ maxLen) :
    (Instr.lookup 58 (.map (some b)) (.string s) false).run Try.prog w = .ok (.int .i64 ((f (.string s.data.toList)).getD 0)) w ∧ (Instr.lookup 58 (.map (some b)) (.string s) true).run Try.prog w = .ok (.tuple #[.int .i64 ((f (.string s.data.toList)).getD 0), .bool (f (.string s.data.toList)).isSome]) w ∧ W64 ((f (.string s.data.toList)).getD 0) :=
  MI.look h O.ks O.undS O.undInt (O.zero w) (O.keys hx)

structure OSt where
  n : Lit → Option Int
  kinds : Lit → Option Int
  holds : Lit → Option Int
  fds : Lit → Option Int
  pins : Lit → Option Int
  made : Nat
def tabO (nb kb hb fb pb : Nat) (made : Nat) : Obj := .cells #[.map (some nb), .map (some kb), .map (some hb), .map (some fb), .map (some pb), .int .i64 made] 60 (0, 0)
def Small (f : Lit → Option Int) (N : Nat) : Prop := ∀ k, -(N : Int) ≤ (f k).getD 0 ∧ (f k).getD 0 ≤ N
/-- World w holds at block t the table s; N: how much was done with it at most. -/
structure OM (w : World) (t nb kb hb fb pb : Nat) (s : OSt) (N : Nat) : Prop where
  ht : w.heap[t]? = some (tabO nb kb hb fb pb s.made)
  mn : MII w nb N s.n
  mkd : MII w kb N s.kinds
  mh : MII w hb N s.holds
  mf : MII w fb N s.fds
  mp : MIS w pb N s.pins
  nd : [t, nb, kb, hb, fb, pb].Nodup
  bn : Small s.n N
  bh : Small s.holds N
  md : s.made ≤ N
def OS (w : World) (t : Nat) (s : OSt) (N : Nat) (F : List Nat) : Prop := ∃ nb kb hb fb pb, OM w t nb kb hb fb pb s N ∧ F = [t, nb, kb, hb, fb, pb]
def OPost (t : Nat) (F : List Nat) (w : World) (v : Value) (s : OSt) (N : Nat) (e : Ending) (w' : World) : Prop := e = .returned v ∧ OS w' t s N F ∧ Fr F F w w'
section
variable {w w' : World} {t nb kb hb fb pb N : Nat} {s : OSt}
theorem OM.cells (h : OM w t nb kb hb fb pb s N) : w.cell? ⟨t, 0, none⟩ = some (.map (some nb)) ∧ w.cell? ⟨t, 1, none⟩ = some (.map (some kb)) ∧ w.cell? ⟨t, 2, none⟩ = some (.map (some hb)) ∧ w.cell? ⟨t, 3, none⟩ = some (.map (some fb)) ∧ w.cell? ⟨t, 4, none⟩ = some (.map (some pb)) ∧
    w.cell? ⟨t, 5, none⟩ = some (.int .i64 s.made) ∧ ∀ i, w.frozen? ⟨t, i, none⟩ = false := by
  have := h.ht
  unfold tabO at this
  refine ⟨?_, ?_, ?_, ?_, ?_, ?_, fun i => ?_⟩ <;> simp [World.cell?, World.frozen?, this]
theorem OM.frame (h : OM w t nb kb hb fb pb s N) (hf : ∀ b ∈ [t, nb, kb, hb, fb, pb], w'.heap[b]? = w.heap[b]?) : OM w' t nb kb hb fb pb s N :=
  { h with
    ht := (hf t (by simp)).trans h.ht
    mn := h.mn.frame (hf nb (by simp))
    mkd := h.mkd.frame (hf kb (by simp))
    mh := h.mh.frame (hf hb (by simp))
    mf := h.mf.frame (hf fb (by simp))
    mp := h.mp.frame (hf pb (by simp)) }
theorem Small.mono {f : Lit → Option Int} {N M : Nat} (h : Small f N) (hm : N ≤ M) : Small f M := fun k => by have := h k; omega
theorem Small.upd {f : Lit → Option Int} {N : Nat} (h : Small f N) (k : Lit) (v : Int) (hv : v = (f k).getD 0 + 1 ∨ v = (f k).getD 0 - 1) : Small (upd f k (some v)) (N + 1) := fun x => by
  by_cases e : x = k
  · subst e
    rw [upd_same]
    have := h x
    simp only [Option.getD_some]
    omega
  · rw [upd_other _ _ e]
    have := h x
    omega
theorem Small.none {f : Lit → Option Int} {N : Nat} (h : Small f N) (k : Lit) : Small (Proofs.Ytfdkemkfiddmjaa.upd f k Option.none) N := fun x => by
  by_cases e : x = k
  · subst e
    rw [upd_same]
    simp
  · rw [upd_other _ _ e]
    exact h x
theorem OM.mono (h : OM w t nb kb hb fb pb s N) {M : Nat} (hm : N ≤ M) : OM w t nb kb hb fb pb s M :=
  ⟨h.ht, h.mn.mono hm, h.mkd.mono hm, h.mh.mono hm, h.mf.mono hm, h.mp.mono hm, h.nd, h.bn.mono hm, h.bh.mono hm, Nat.le_trans h.md hm⟩
theorem OM.apart (h : OM w t nb kb hb fb pb s N) : (t ≠ nb ∧ t ≠ kb ∧ t ≠ hb ∧ t ≠ fb ∧ t ≠ pb) ∧ (nb ≠ kb ∧ nb ≠ hb ∧ nb ≠ fb ∧ nb ≠ pb) ∧ (kb ≠ hb ∧ kb ≠ fb ∧ kb ≠ pb) ∧ (hb ≠ fb ∧ hb ≠ pb) ∧ fb ≠ pb := by
  have := h.nd
  simp only [List.nodup_cons, List.mem_cons, List.not_mem_nil, or_false, not_or, not_false_eq_true, List.nodup_nil, and_true] at this
  obtain ⟨⟨a1, a2, a3, a4, a5⟩, ⟨b1, b2, b3, b4⟩, ⟨c1, c2, c3⟩, ⟨d1, d2⟩, e1⟩ := this
  exact ⟨⟨a1, a2, a3, a4, a5⟩, ⟨b1, b2, b3, b4⟩, ⟨c1, c2, c3⟩, ⟨d1, d2⟩, e1⟩
theorem turned_fr {b : Nat} {F : List Nat} (h : w.mapTurned w' b) (hb : b ∈ F) : Fr F F w w' := by
  have g := h.grown
  exact ⟨g.os, g.tape, g.output, g.size, fun k hk hn => g.block k hk (fun e => hn (by cases e; exact hb)), fun k hk => .inl hk⟩
theorem turned_other {b c : Nat} (h : w.mapTurned w' b) (hc : c < w.heap.size) (hne : c ≠ b) : w'.heap[c]? = w.heap[c]? := h.grown.block c hc (fun e => hne (by cases e; rfl))
theorem OM.lts (h : OM w t nb kb hb fb pb s N) : ∀ b ∈ [t, nb, kb, hb, fb, pb], b < w.heap.size := by
  intro b hb
  simp only [List.mem_cons, List.not_mem_nil, or_false] at hb
  rcases hb with rfl | rfl | rfl | rfl | rfl | rfl
  · exact lt_of_heap h.ht
  · exact h.mn.lt
  · exact h.mkd.lt
  · exact h.mh.lt
  · exact h.mf.lt
  · exact h.mp.lt
theorem OM.turn_n {g : Lit → Option Int} (h : OM w t nb kb hb fb pb s N) {M : Nat} (hM : N ≤ M) (hm : MII w' nb M g) (ht : w.mapTurned w' nb) (hs : Small g M) : OM w' t nb kb hb fb pb { s with n := g } M := by
  obtain ⟨⟨a1, a2, a3, a4, a5⟩, ⟨b1, b2, b3, b4⟩, ⟨c1, c2, c3⟩, ⟨d1, d2⟩, e1⟩ := h.apart
  have hl := h.lts
  exact ⟨(turned_other ht (hl t (by simp)) a1).trans h.ht, hm, (h.mkd.mono hM).frame (turned_other ht (hl kb (by simp)) b1.symm), (h.mh.mono hM).frame (turned_other ht (hl hb (by simp)) b2.symm), (h.mf.mono hM).frame (turned_other ht (hl fb (by simp)) b3.symm), (h.mp.mono hM).frame (turned_other ht (hl pb (by simp)) b4.symm), h.nd, hs, h.bh.mono hM, Nat.le_trans h.md hM⟩
theorem OM.turn_k {g : Lit → Option Int} (h : OM w t nb kb hb fb pb s N) {M : Nat} (hM : N ≤ M) (hm : MII w' kb M g) (ht : w.mapTurned w' kb) : OM w' t nb kb hb fb pb { s with kinds := g } M := by
  obtain ⟨⟨a1, a2, a3, a4, a5⟩, ⟨b1, b2, b3, b4⟩, ⟨c1, c2, c3⟩, ⟨d1, d2⟩, e1⟩ := h.apart
  have hl := h.lts
  exact ⟨(turned_other ht (hl t (by simp)) a2).trans h.ht, (h.mn.mono hM).frame (turned_other ht (hl nb (by simp)) b1), hm, (h.mh.mono hM).frame (turned_other ht (hl hb (by simp)) c1.symm), (h.mf.mono hM).frame (turned_other ht (hl fb (by simp)) c2.symm), (h.mp.mono hM).frame (turned_other ht (hl pb (by simp)) c3.symm), h.nd, h.bn.mono hM, h.bh.mono hM, Nat.le_trans h.md hM⟩
theorem OM.turn_h {g : Lit → Option Int} (h : OM w t nb kb hb fb pb s N) {M : Nat} (hM : N ≤ M) (hm : MII w' hb M g) (ht : w.mapTurned w' hb) (hs : Small g M) : OM w' t nb kb hb fb pb { s with holds := g } M := by
  obtain ⟨⟨a1, a2, a3, a4, a5⟩, ⟨b1, b2, b3, b4⟩, ⟨c1, c2, c3⟩, ⟨d1, d2⟩, e1⟩ := h.apart
  have hl := h.lts
  exact ⟨(turned_other ht (hl t (by simp)) a3).trans h.ht, (h.mn.mono hM).frame (turned_other ht (hl nb (by simp)) b2), (h.mkd.mono hM).frame (turned_other ht (hl kb (by simp)) c1), hm, (h.mf.mono hM).frame (turned_other ht (hl fb (by simp)) d1.symm), (h.mp.mono hM).frame (turned_other ht (hl pb (by simp)) d2.symm), h.nd, h.bn.mono hM, hs, Nat.le_trans h.md hM⟩
theorem OM.turn_f {g : Lit → Option Int} (h : OM w t nb kb hb fb pb s N) {M : Nat} (hM : N ≤ M) (hm : MII w' fb M g) (ht : w.mapTurned w' fb) : OM w' t nb kb hb fb pb { s with fds := g } M := by
  obtain ⟨⟨a1, a2, a3, a4, a5⟩, ⟨b1, b2, b3, b4⟩, ⟨c1, c2, c3⟩, ⟨d1, d2⟩, e1⟩ := h.apart
  have hl := h.lts
  exact ⟨(turned_other ht (hl t (by simp)) a4).trans h.ht, (h.mn.mono hM).frame (turned_other ht (hl nb (by simp)) b3), (h.mkd.mono hM).frame (turned_other ht (hl kb (by simp)) c2), (h.mh.mono hM).frame (turned_other ht (hl hb (by simp)) d1), hm, (h.mp.mono hM).frame (turned_other ht (hl pb (by simp)) e1.symm), h.nd, h.bn.mono hM, h.bh.mono hM, Nat.le_trans h.md hM⟩
theorem OM.turn_p {g : Lit → Option Int} (h : OM w t nb kb hb fb pb s N) {M : Nat} (hM : N ≤ M) (hm : MIS w' pb M g) (ht : w.mapTurned w' pb) : OM w' t nb kb hb fb pb { s with pins := g } M := by
  obtain ⟨⟨a1, a2, a3, a4, a5⟩, ⟨b1, b2, b3, b4⟩, ⟨c1, c2, c3⟩, ⟨d1, d2⟩, e1⟩ := h.apart
  have hl := h.lts
  exact ⟨(turned_other ht (hl t (by simp)) a5).trans h.ht, (h.mn.mono hM).frame (turned_other ht (hl nb (by simp)) b4), (h.mkd.mono hM).frame (turned_other ht (hl kb (by simp)) c3), (h.mh.mono hM).frame (turned_other ht (hl hb (by simp)) d2), (h.mf.mono hM).frame (turned_other ht (hl fb (by simp)) e1), hm, h.nd, h.bn.mono hM, h.bh.mono hM, Nat.le_trans h.md hM⟩
end
theorem OS.lt {w : World} {t N : Nat} {s : OSt} {F : List Nat} (h : OS w t s N F) : ∀ b ∈ F, b < w.heap.size := by
  obtain ⟨nb, kb, hb, fb, pb, h1, rfl⟩ := h
  exact h1.lts
theorem OS.frame {w w' : World} {t N : Nat} {s : OSt} {F : List Nat} (h : OS w t s N F) (hf : ∀ b ∈ F, w'.heap[b]? = w.heap[b]?) : OS w' t s N F := by
  obtain ⟨nb, kb, hb, fb, pb, h1, rfl⟩ := h
  exact ⟨nb, kb, hb, fb, pb, h1.frame hf, rfl⟩
theorem OS.fr {w w' : World} {t N : Nat} {s : OSt} {F : List Nat} (h : OS w t s N F) (hf : Fr [] [] w w') : OS w' t s N F := h.frame fun b hb => hf.block b (h.lt b hb) (by simp)
theorem OS.mono {w : World} {t N M : Nat} {s : OSt} {F : List Nat} (h : OS w t s N F) (hm : N ≤ M) : OS w t s M F := by
  obtain ⟨nb, kb, hb, fb, pb, h1, rfl⟩ := h
  exact ⟨nb, kb, hb, fb, pb, h1.mono hm, rfl⟩
/-- A number's key. -/
abbrev ik (x : Int) : Lit := .int .i64 x
/-- What something tells, or 0. -/
abbrev at0 (f : Lit → Option Int) (x : Int) : Int := (f (ik x)).getD 0
noncomputable def OSt.more (s : OSt) (id : Int) : OSt := { s with n := upd s.n (ik id) (some (at0 s.n id + 1)) }
noncomputable def OSt.less (s : OSt) (id : Int) : OSt := { s with n := upd s.n (ik id) (if 0 < at0 s.n id - 1 then some (at0 s.n id - 1) else none) }
def OSt.dead (s : OSt) (id : Int) : List Int := if 0 < at0 s.n id - 1 then [] else [id]
theorem upd_upd (f : Lit → Option Int) (k : Lit) (a b : Option Int) : upd (upd f k a) k b = upd f k b := by
  funext x
  by_cases e : x = k
  · subst e; rw [upd_same, upd_same]
  · rw [upd_other _ _ e, upd_other _ _ e, upd_other _ _ e]
theorem wrap_in {x : Int} (h : -9223372036854775808 ≤ x ∧ x ≤ 9223372036854775807) : wrap64 x = x := by unfold wrap64; omega
def TellsW (w : World) (v : Value) (e : Ending) (w' : World) : Prop := e = .returned v ∧ w = w'
set_option maxRecDepth 100000 in
theorem there_calls {w : World} {t N : Nat} {s : OSt} {F : List Nat} (h : OS w t s N F) {id : Int} (hi : W64 id) :
    Calls Try.prog 37 #[.pointer (some ⟨t, 0, none⟩), .int .i64 id] w (TellsW w (.bool (decide (0 < at0 s.n id)))) := by
  obtain ⟨nb, kb, hb, fb, pb, h1, rfl⟩ := h
  obtain ⟨l1, l2, l3⟩ := h1.mn.at hi
  obtain ⟨c0, c1, c2, c3, c4, c5, cf⟩ := h1.cells
  generalize hv : (s.n (ik id)).getD 0 = v at *
  clear h1 l2 l3
  go_enter Try.func37, Try.ntmps37
  go_wp2
  go_ret
  exact ⟨by simp [at0, hv], rfl⟩
theorem at_step {x : Int} {N : Nat} (hb : -(N : Int) ≤ x ∧ x ≤ N) (hN : N < 1099511627776) : wrap64 (x + 1) = x + 1 ∧ wrap64 (x - 1) = x - 1 ∧ W64 (x + 1) ∧ W64 (x - 1) :=
  ⟨wrap_in (by omega), wrap_in (by omega), (w64_iff _).2 (by omega), (w64_iff _).2 (by omega)⟩
set_option maxRecDepth 100000 in
theorem more_calls {w : World} {t N : Nat} {s : OSt} {F : List Nat} (h : OS w t s N F) (hN : N < 1099511627776) {id : Int} (hi : W64 id) :
    Calls Try.prog 36 #[.pointer (some ⟨t, 0, none⟩), .int .i64 id] w (OPost t F w (.tuple #[]) (s.more id) (N + 1)) := by
  obtain ⟨nb, kb, hb, fb, pb, h1, rfl⟩ := h
  obtain ⟨l1, l2, l3⟩ := h1.mn.at hi
  obtain ⟨c0, c1, c2, c3, c4, c5, cf⟩ := h1.cells
  obtain ⟨hw, hw', hq1, hq2⟩ := at_step (h1.bn (ik id)) hN
  have HM := hide h1
  have hmn := hide h1.mn
  have HQ := hide hq1
  clear h1 l2 hq1 hq2 hw'
  go_enter Try.func36, Try.ntmps36
  go_wp2_with (at_mapUpdate; refine wpList_store_MI _ rfl _ _ _ 55 rfl O.ki O.und O.undInt hmn.out (by unfold maxLen; omega) rfl _ (ik id) _ rfl rfl (O.keyi hi) ?_ ?_)
  · first | exact HQ.out | (rw [hw]; exact HQ.out)
  intro w1 hm1 ht1
  have HE : Hid (OPost t [t, nb, kb, hb, fb, pb] w (.tuple #[]) (s.more id) (N + 1) (.returned (.tuple #[])) w1) := hide ⟨rfl, ⟨nb, kb, hb, fb, pb, HM.out.turn_n (Nat.le_succ _) (by first | exact hm1 | (rw [hw] at hm1; exact hm1)) ht1 (HM.out.bn.upd _ _ (.inl rfl)), rfl⟩, turned_fr ht1 (by simp)⟩
  clear hm1 ht1
  go_wp2
  go_end0
  exact HE.out
/-- The numbers that a slice has. -/
def IntsAt (w : World) (base : Nat) (v : Value) (l : List Int) : Prop := ∃ A c, v = .slice A l.length c ∧ ∀ (i : Nat) (x : Int), l[i]? = some x → ∃ g, A = some ⟨g, 0, none⟩ ∧ base ≤ g ∧ w.cell? ⟨g, i, none⟩ = some (.int .i64 x)
theorem IntsAt.nil (w : World) (base : Nat) : IntsAt w base (.slice none 0 0) [] := ⟨none, 0, rfl, fun i x h => by simp at h⟩
theorem IntsAt.one (w : World) (base : Nat) (hb : base ≤ w.heap.size) (x : Int) (t : TypeId) : IntsAt (w.alloc (.cells #[.int .i64 x] t)) base (.slice (some ⟨w.heap.size, 0, none⟩) 1 1) [x] :=
  ⟨_, _, rfl, fun i y h => ⟨_, rfl, hb, by
    cases i with
    | zero =>
      simp at h; subst h
      simp only [World.cell?]
      rw [heap_alloc_new]
      rfl
    | succ i => simp at h⟩⟩
theorem IntsAt.keep {w w' : World} {base : Nat} {v : Value} {l : List Int} (h : IntsAt w base v l) (hf : ∀ b, base ≤ b → b < w.heap.size → w'.heap[b]? = w.heap[b]?) : IntsAt w' base v l := by
  obtain ⟨A, c, rfl, h2⟩ := h
  refine ⟨A, c, rfl, fun i x hi => ?_⟩
  obtain ⟨g, h3, h4, h5⟩ := h2 i x hi
  refine ⟨g, h3, h4, ?_⟩
  rw [← h5]
  simp only [World.cell?]
  rw [hf g h4 (World.block_lt_of_cell? _ _ h5)]
def LPost (t : Nat) (F : List Nat) (w : World) (l : List Int) (s : OSt) (N : Nat) (e : Ending) (w' : World) : Prop := ∃ v, e = .returned v ∧ IntsAt w' w.heap.size v l ∧ OS w' t s N F ∧ Fr F F w w'
set_option maxRecDepth 100000 in
set_option maxHeartbeats 800000 in
theorem less_calls {w : World} {t N : Nat} {s : OSt} {F : List Nat} (h : OS w t s N F) (hN : N < 1099511627776) {id : Int} (hi : W64 id) :
    Calls Try.prog 23 #[.pointer (some ⟨t, 0, none⟩), .int .i64 id] w (LPost t F w (s.dead id) (s.less id) (N + 1)) := by
  obtain ⟨nb, kb, hb, fb, pb, h1, rfl⟩ := h
  obtain ⟨l1, l2, l3⟩ := h1.mn.at hi
  obtain ⟨c0, c1, c2, c3, c4, c5, cf⟩ := h1.cells
  obtain ⟨hw, hw', hq1, hq2⟩ := at_step (h1.bn (ik id)) hN
  have HM := hide h1
  have hmn := hide h1.mn
  have HQ := hide hq2
  clear h1 l2 hq1 hq2 hw
  unfold OSt.dead OSt.less at0
  by_cases hv : 0 < (s.n (ik id)).getD 0 - 1
  · have hv2 := hv
    rw [if_pos hv, if_pos hv]
    go_enter Try.func23, Try.ntmps23
    go_wp2_with (at_mapUpdate; refine wpList_store_MI _ rfl _ _ _ 55 rfl O.ki O.und O.undInt hmn.out (by unfold maxLen; omega) rfl _ (ik id) _ rfl rfl (O.keyi hi) ?_ ?_)
    · first | exact HQ.out | (rw [hw']; exact HQ.out)
    intro w1 hm1 ht1
    have hm2 : MII w1 nb (N + 1) (upd s.n (ik id) (some ((s.n (ik id)).getD 0 - 1))) := by first | exact hm1 | (rw [hw'] at hm1; exact hm1)
    have HM1 := hide (HM.out.turn_n (Nat.le_succ _) hm2 ht1 (HM.out.bn.upd _ _ (.inr rfl)))
    have HF1 := hide (turned_fr (F := [t, nb, kb, hb, fb, pb]) ht1 (by simp))
    obtain ⟨q1, q2, q3⟩ := hm2.at hi
    rw [upd_same] at q1
    simp only [Option.getD_some] at q1
    have hm3 := hide hm2
    clear hm1 hm2 ht1 q2 q3 l1 c0 c1 c2 c3 c4 c5 cf
    obtain ⟨c0, c1, c2, c3, c4, c5, cf⟩ := HM1.out.cells
    go_wp2
    go_ret
    exact ⟨_, rfl, IntsAt.nil _ _, ⟨nb, kb, hb, fb, pb, HM1.out, rfl⟩, HF1.out⟩
  · rw [if_neg hv, if_neg hv]
    go_enter Try.func23, Try.ntmps23
    go_wp2_with (at_mapUpdate; refine wpList_store_MI _ rfl _ _ _ 55 rfl O.ki O.und O.undInt hmn.out (by unfold maxLen; omega) rfl _ (ik id) _ rfl rfl (O.keyi hi) ?_ ?_)
    · first | exact HQ.out | (rw [hw']; exact HQ.out)
    intro w1 hm1 ht1
    have hm2 : MII w1 nb (N + 1) (upd s.n (ik id) (some ((s.n (ik id)).getD 0 - 1))) := by first | exact hm1 | (rw [hw'] at hm1; exact hm1)
    have HM1 := hide (HM.out.turn_n (Nat.le_succ _) hm2 ht1 (HM.out.bn.upd _ _ (.inr rfl)))
    have HF1 := hide (turned_fr (F := [t, nb, kb, hb, fb, pb]) ht1 (by simp))
    obtain ⟨q1, q2, q3⟩ := hm2.at hi
    rw [upd_same] at q1
    simp only [Option.getD_some] at q1
    have hm3 := hide hm2
    clear hm1 hm2 ht1 q2 q3 l1 c0 c1 c2 c3 c4 c5 cf
    obtain ⟨c0, c1, c2, c3, c4, c5, cf⟩ := HM1.out.cells
    go_wp2_with (at_delete; refine wpList_drop_MI _ rfl _ _ 55 rfl O.ki O.und hm3.out rfl _ (ik id) rfl (O.keyi hi) ?_)
    intro w2 hm4 ht2
    rw [upd_upd] at hm4
    have HM2 := hide (HM1.out.turn_n (Nat.le_refl _) hm4 ht2 ((HM.out.bn.none _).mono (Nat.le_succ _)))
    have HF2 := hide (HF1.out.trans (turned_fr (F := [t, nb, kb, hb, fb, pb]) ht2 (by simp)))
    clear hm4 ht2
    go_wp2
    go_ret
    exact ⟨_, rfl, IntsAt.one _ _ HF2.out.size _ _, ⟨nb, kb, hb, fb, pb, HM2.out.frame (fun b hb => Below.heap_alloc _ _ _ (HM2.out.lts b hb)), rfl⟩, HF2.out.alloc' _⟩
end Go.Proofs.Ytfdkemkfiddmjaa
