/- Contract of the trie's Delete: it answers as the plain data say; condition: table and memory lie in the world. -/
import Derived.Test.YtopdgpmeccdogaaTDel
set_option linter.unusedVariables false
set_option linter.unusedSimpArgs false
namespace Go.Proofs.Ytopdgpmeccdogaa
open Go.RowKit Go.MapKept
open Go.ChangeMaps (setBlock)

theorem TM.putG {w w' : World} {x m : Nat} {s : TSpec} {t : CT} {n : Nat} (h : TM w x m s t n) {p : List Bool} {b : Nat} {l r : CT} {a0 : Nat} {f0 : ByteArray} (hs : t.sub p = .node b l r a0 f0) (a : Nat) (ha : a < 18446744073709551616) (f : ByteArray) (hB : w'.heap[b]? = some (CT.obj l r a f)) (hf : Fr [b] [b] w w') (hold : ∀ k, k ≠ b → w'.heap[k]? = w.heap[k]?) :
    TM (w') x m s (t.mod p (CT.putg a f)) n ∧ (t.mod p (CT.putg a f)).F = tset t.F p a ∧ Fr (x :: t.foot) (x :: (t.mod p (CT.putg a f)).foot) w (w') := by
  have hlt := h.lt
  have hnd := h.nd
  simp only [List.nodup_cons] at hnd
  have hbf : b ∈ t.foot := CT.sub_foot t p b (by rw [hs]; simp [CT.foot])
  have hbx : b ≠ x := fun e => hnd.1 (e ▸ hbf)
  have hnode := CT.holds_sub h.ht p
  have hnb := CT.node_nodup t p hnd.2
  rw [hs] at hnode hnb
  have hbl2 : b ∉ l.foot ∧ b ∉ r.foot := by
    simp only [CT.foot, List.nodup_cons, List.mem_append, not_or] at hnb
    exact hnb.1
  have hg : (CT.putg a f (.node b l r a0 f0)).holds (w') :=
    ⟨hB, CT.holds_frame l hnode.2.1 (fun k hk => hold k (fun e => hbl2.1 (e ▸ hk))), CT.holds_frame r hnode.2.2 (fun k hk => hold k (fun e => hbl2.2 (e ▸ hk)))⟩
  have hF : (t.mod p (CT.putg a f)).F = tset t.F p a := funext fun q => CT.F_put t p q hs
  have hptr : (t.mod p (CT.putg a f)).ptr = t.ptr := CT.ptr_mod t p _ (by rw [hs]; rfl)
  refine ⟨⟨?_, ?_, ?_, ?_, fun q => ?_⟩, hF, ?_⟩
  · rw [hold x hbx.symm, hptr]
    exact h.hx
  · exact CT.holds_mod rfl hg t p hs h.ht hnd.2 (fun k hk hne => hold k hne)
  · rw [CT.foot_put]; exact h.nd
  · cases ht : t.mod p (CT.putg a f) with
    | nil =>
      rw [ht] at hptr
      obtain ⟨b', l', r', a', f', e⟩ := h.nn
      rw [e] at hptr
      cases hptr
    | node b' l' r' a' f' => exact ⟨b', l', r', a', f', rfl⟩
  · rw [hF]
    unfold tset
    split
    · exact ha
    · exact h.ab q
  · rw [CT.foot_put]
    exact ⟨hf.os, hf.tape, hf.output, hf.size, fun k hk hn => hold k (fun e => hn (by simp [e, hbf])), fun k hk => .inl hk⟩
theorem TM.zero {w : World} {x m : Nat} {s : TSpec} {t : CT} {n : Nat} (h : TM w x m s t n) {p : List Bool} {b : Nat} {l r : CT} {a0 : Nat} {f0 : ByteArray} (hs : t.sub p = .node b l r a0 f0) :
    TM (w.setCell ⟨b, 2, none⟩ (.int .u64 0)) x m s (t.mod p (CT.putg 0 f0)) n ∧ (t.mod p (CT.putg 0 f0)).F = tset t.F p 0 ∧ Fr (x :: t.foot) (x :: (t.mod p (CT.putg 0 f0)).foot) w (w.setCell ⟨b, 2, none⟩ (.int .u64 0)) := by
  have hnode := CT.holds_sub h.ht p
  rw [hs] at hnode
  refine h.putG hs 0 (by decide) f0 ?_ ⟨rfl, rfl, rfl, by simp, fun k hk hn => Below.heap_setCell _ _ _ _ (fun e => hn (by simpa using e)), fun k hk => .inl hk⟩ (fun k hne => Below.heap_setCell _ _ _ _ hne)
  rw [heap_setCell_same hnode.1]
  rfl
def tdelete (s : TSpec) (f : List Bool → Nat) (n : Nat) (k : KA) (key : ByteArray) : Int × (List Bool → Nat) × Nat × KA :=
  if s.ok key = false then (1, f, n, k) else
  if f (tpath key) = 0 then (4, f, n, k) else (0, tset f (tpath key) 0, n - 1, (k.retire (f (tpath key))).2)
set_option maxRecDepth 100000 in
theorem tdelete_bad {w : World} {x m : Nat} {s : TSpec} {t : CT} {n : Nat} (h : TM w x m s t n) (hs : s.May) (key : ByteArray) (hk : s.ok key = false) :
    Calls Try.prog 16 #[.pointer (some ⟨x, 0, none⟩), .string key] w (FreshPost w (.int .i64 1)) := by
  have HB := hide (bits_bad h hs key hk)
  obtain ⟨c0, c2, c3, c4, c5, c6, -⟩ := h.cells
  obtain ⟨b, hb⟩ := h.root
  rw [hb] at c5
  clear h hk hb
  go_enter Try.func16, Try.ntmps16
  go_wp2_with fail
  refine HB.out.mono ?_
  rintro e w1 ⟨rfl, h1⟩
  go_wp2
  go_ret
  exact ⟨rfl, h1.fr []⟩
set_option maxRecDepth 100000 in
theorem tdelete_miss {w : World} {x m : Nat} {s : TSpec} {t : CT} {n : Nat} (h : TM w x m s t n) (hs : s.May) (key : ByteArray) (hk : s.ok key = true) (ha : t.F (tpath key) = 0) :
    Calls Try.prog 16 #[.pointer (some ⟨x, 0, none⟩), .string key] w (FreshPost w (.int .i64 4)) := by
  obtain ⟨hb, hlen⟩ := bits_good h hs key hk
  have HB := hide hb
  have hs1 := hs.ky
  obtain ⟨c0, c2, c3, c4, c5, c6, -⟩ := h.cells
  obtain ⟨b, hb⟩ := h.root
  rw [hb] at c5
  have HT := hide h
  clear h hk hb
  generalize tpath key = p at *
  go_enter Try.func16, Try.ntmps16
  go_wp2_with fail
  refine HB.out.mono ?_
  rintro e w1 ⟨d, rfl, hdw, hd, hfr⟩
  have hm1 := HT.out.fr hfr (by simp)
  have HF := hide (find_no hm1 p d hd (by omega))
  have hx1 := CT.holds_sub hm1.ht p
  have HFR := hide hfr
  clear hm1 hd hdw hfr HB HT
  unfold CT.F at ha
  cases hx : t.sub p with
  | nil =>
    rw [hx] at HF
    clear hx1 ha hx
    go_wp2_with fail
    refine HF.out.mono ?_
    rintro e w' ⟨rfl, rfl⟩
    go_wp2
    go_ret
    exact ⟨rfl, HFR.out⟩
  | node b1 l1 r1 a1 f1 =>
    rw [hx] at hx1 ha HF
    obtain ⟨-, -, q2, -⟩ := CT.obj_reads hx1.1
    have ha1 : a1 = 0 := ha
    subst ha1
    replace HF : Hid (Calls Try.prog 33 #[.pointer (some ⟨x, 0, none⟩), .slice (some ⟨d, 0, none⟩) p.length p.length, .bool false] w1 (Tells w1 (.pointer (some ⟨b1, 0, none⟩)))) := HF
    clear hx1 ha hx
    go_wp2_with fail
    refine HF.out.mono ?_
    rintro e w' ⟨rfl, rfl⟩
    go_wp2
    go_ret
    exact ⟨rfl, HFR.out⟩
set_option maxRecDepth 100000 in
set_option maxHeartbeats 800000 in
theorem tdelete_hit {w : World} {x m : Nat} {s : TSpec} {t : CT} {n : Nat} {k : KA} {F : List Nat} (H : TK w x m s t.F n k (x :: t.foot) F) (h : TM w x m s t n) (hs : s.May) (key : ByteArray) (hk : s.ok key = true) (ha : t.F (tpath key) ≠ 0) (hn1 : 1 ≤ n) (hn2 : n < 4294967296) :
    Calls Try.prog 16 #[.pointer (some ⟨x, 0, none⟩), .string key] w (TKPost x m s (x :: t.foot) F w (.int .i64 0) (tset t.F (tpath key) 0) (n - 1) (k.retire (t.F (tpath key))).2) := by
  obtain ⟨hb, hlen⟩ := bits_good h hs key hk
  have HB := hide hb
  have hs1 := hs.ky
  obtain ⟨c0, c2, c3, c4, c5, c6, -⟩ := h.cells
  obtain ⟨b, hb⟩ := h.root
  rw [hb] at c5
  have HT := hide (And.intro h H)
  have hab := h.ab (tpath key)
  have hn3 : (1 : Int) ≤ n := by omega
  have hn4 : (n : Int) < 4294967296 := by omega
  clear h hk hb H
  generalize tpath key = p at *
  obtain ⟨b1, l1, r1, a1, f1, hsub⟩ : ∃ b l r a f, t.sub p = .node b l r a f := by
    cases hx : t.sub p with
    | nil => exact absurd (by unfold CT.F; rw [hx]; rfl) ha
    | node b l r a f => exact ⟨b, l, r, a, f, rfl⟩
  have hFa : t.F p = a1 := by unfold CT.F; rw [hsub]; rfl
  rw [hFa] at ha hab
  have hne : ((a1 : Int) == 0) = false := by rw [beq_eq_false_iff_ne]; omega
  have HS := hide (And.intro hsub hFa)
  have hptr : (t.sub p).ptr = some ⟨b1, 0, none⟩ := by rw [hsub]; rfl
  have HPT := hide hptr
  have HR : ∀ W, KS W m k F → Hid (Calls Try.prog 39 #[.pointer (some ⟨m, 0, none⟩), .int .u64 (a1 : Nat)] W (KPostS m F W (.int .i64 (k.retire a1).1) (k.retire a1).2)) := fun W hW => hide (retire_S hW rfl hab rfl)
  clear hsub hptr hFa
  go_enter Try.func16, Try.ntmps16
  go_wp2_with fail
  refine HB.out.mono ?_
  rintro e w1 ⟨d, rfl, hdw, hd, hfr⟩
  have hm1 := HT.out.1.fr hfr (by simp)
  have H1 := HT.out.2.fr0 hfr
  have HF := hide (find_no hm1 p d hd (by omega))
  rw [HPT.out] at HF
  obtain ⟨c0, c2, c3, c4, c5, c6, -⟩ := hm1.cells
  have hh := CT.holds_sub hm1.ht p
  rw [HS.out.1] at hh
  obtain ⟨-, -, q2, -⟩ := CT.obj_reads hh.1
  have HX := hide (And.intro hfr (And.intro H1 hm1))
  have hks := H1.ks
  clear hh hm1 hd hdw hfr HB HT HPT H1
  go_wp2_with fail
  refine HF.out.mono ?_
  rintro e w' ⟨rfl, rfl⟩
  clear HF
  go_wp2_with fail
  go_region_with (go_at_call 39; refine (HR _ ?_).out.mono ?_; (first | exact hks | exact hks.drew | exact hks.drewN _); rintro e w2 ⟨F2, rfl, hk2, f2⟩)
  all_goals
    have f2' : Fr F F2 w1 w2 := by first | exact f2 | exact (Fr.refl F _).drew.trans f2
    have hm2 := HX.out.2.2.fr f2' HX.out.2.1.dj
    have K2 := HX.out.2.1.ofK hk2 f2'
    obtain ⟨g1, g2, g3⟩ := hm2.zero HS.out.1
    obtain ⟨g4, g5⟩ := g1.cnt (n - 1) ((n : Int) - 1) (by omega)
    have K3 := K2.ofT ⟨_, g1, g2, rfl⟩ g3
    have K4 := K3.ofT ⟨_, g4, g2, rfl⟩ g5
    have HE := hide (And.intro K4 (((HX.out.1.none.trans f2'.right).trans g3.left).trans g5.left))
    unfold cntW at HE
    have hh := CT.holds_sub hm2.ht p
    rw [HS.out.1] at hh
    obtain ⟨-, -, q2, -, -, -, z2, -⟩ := CT.obj_reads hh.1
    obtain ⟨-, -, -, -, -, d6, y6⟩ := g1.cells
    clear hh g1 g2 g3 g4 g5 K2 K3 K4 hm2 f2 f2' hk2 hks HR
    go_wp2
    go_ret
    have := HS.out.2
    rw [this]
    exact ⟨_, F2, rfl, HE.out.1, HE.out.2⟩
theorem tdelete_K {w : World} {x m : Nat} {s : TSpec} {f f' : List Bool → Nat} {n n' : Nat} {k k' : KA} {G F : List Nat} {e' : Int} (H : TK w x m s f n k G F) (hs : s.May) (key : ByteArray) (hn : n < 4294967296) (hn1 : f (tpath key) ≠ 0 → 1 ≤ n) (E : tdelete s f n k key = (e', f', n', k')) :
    Calls Try.prog 16 #[.pointer (some ⟨x, 0, none⟩), .string key] w (TKPost x m s G F w (.int .i64 e') f' n' k') := by
  obtain ⟨t, h, rfl, rfl⟩ := H.ts
  unfold tdelete at E
  cases hk : s.ok key with
  | false =>
    rw [if_pos hk] at E
    simp only [Prod.mk.injEq] at E
    obtain ⟨rfl, rfl, rfl, rfl⟩ := E
    exact (tdelete_bad h hs key hk).mono fun e w' hp => hp.toT H
  | true =>
    rw [if_neg (by rw [hk]; decide)] at E
    by_cases ha : t.F (tpath key) = 0
    · rw [if_pos ha] at E
      simp only [Prod.mk.injEq] at E
      obtain ⟨rfl, rfl, rfl, rfl⟩ := E
      exact (tdelete_miss h hs key hk ha).mono fun e w' hp => hp.toT H
    · rw [if_neg ha] at E
      simp only [Prod.mk.injEq] at E
      obtain ⟨rfl, rfl, rfl, rfl⟩ := E
      exact tdelete_hit H h hs key hk ha (hn1 ha) hn
end Go.Proofs.Ytopdgpmeccdogaa
