/- Contracts of the trie's Update at a prefix that has no value: it answers and writes as the plain data say; condition: table and memory lie in the world. -/
import Derived.Test.YtopdgpmeccdogaaTUpd
set_option linter.unusedVariables false
set_option linter.unusedSimpArgs false
namespace Go.Proofs.Ytopdgpmeccdogaa
open Go.RowKit Go.MapKept
open Go.ChangeMaps (setBlock)

/-- An entry's node is written. -/
def putW (w : World) (b a : Nat) (f : ByteArray) : World := (w.setCell ⟨b, 2, none⟩ (.int .u64 a)).setCell ⟨b, 3, none⟩ (.string f)
def cntW (w : World) (x : Nat) (z : Int) : World := w.setCell ⟨x, 6, none⟩ (.int .i64 z)
theorem CT.node_nodup : ∀ (t : CT) (p : List Bool), t.foot.Nodup → (t.sub p).foot.Nodup := by
  intro t p
  induction p generalizing t with
  | nil => intro h; exact h
  | cons y p ih =>
    intro h
    refine ih _ ?_
    cases t with
    | nil => exact h
    | node c l0 r0 a0 f0 =>
      simp only [CT.foot, List.nodup_cons, List.nodup_append] at h
      simp only [CT.kid]
      split
      · exact h.2.2.1
      · exact h.2.1
theorem CT.foot_put (t : CT) (p : List Bool) (a : Nat) (f : ByteArray) : (t.mod p (CT.putg a f)).foot = t.foot := by
  induction p generalizing t with
  | nil => cases t <;> rfl
  | cons x p ih =>
    cases t with
    | nil => rfl
    | node b l r a0 f0 => cases x <;> simp [CT.mod, CT.foot, ih]
theorem TM.put {w : World} {x m : Nat} {s : TSpec} {t : CT} {n : Nat} (h : TM w x m s t n) {p : List Bool} {b : Nat} {l r : CT} {a0 : Nat} {f0 : ByteArray} (hs : t.sub p = .node b l r a0 f0) (a : Nat) (ha : a < 18446744073709551616) (f : ByteArray) :
    TM (putW w b a f) x m s (t.mod p (CT.putg a f)) n ∧ (t.mod p (CT.putg a f)).F = tset t.F p a ∧ Fr (x :: t.foot) (x :: (t.mod p (CT.putg a f)).foot) w (putW w b a f) := by
  have hlt := h.lt
  have hnd := h.nd
  simp only [List.nodup_cons] at hnd
  have hbf : b ∈ t.foot := CT.sub_foot t p b (by rw [hs]; simp [CT.foot])
  have hbx : b ≠ x := fun e => hnd.1 (e ▸ hbf)
  have hnode := CT.holds_sub h.ht p
  have hnb := CT.node_nodup t p hnd.2
  rw [hs] at hnode hnb
  have hbl2 : b ∉ l.foot ∧ b ∉ r.foot := by
    simp only [CT.foot, List.nodup_cons, List.mem_append, not_or] at hnb
    exact hnb.1
  have hold : ∀ k, k ≠ b → (putW w b a f).heap[k]? = w.heap[k]? := fun k hne => by
    unfold putW
    rw [Below.heap_setCell _ _ _ _ hne, Below.heap_setCell _ _ _ _ hne]
  have hB : (putW w b a f).heap[b]? = some (CT.obj l r a f) := by
    unfold putW
    rw [heap_setCell_same (heap_setCell_same hnode.1)]
    rfl
  have hg : (CT.putg a f (.node b l r a0 f0)).holds (putW w b a f) :=
    ⟨hB, CT.holds_frame l hnode.2.1 (fun k hk => hold k (fun e => hbl2.1 (e ▸ hk))), CT.holds_frame r hnode.2.2 (fun k hk => hold k (fun e => hbl2.2 (e ▸ hk)))⟩
  have hF : (t.mod p (CT.putg a f)).F = tset t.F p a := funext fun q => CT.F_put t p q hs
  have hptr : (t.mod p (CT.putg a f)).ptr = t.ptr := CT.ptr_mod t p _ (by rw [hs]; rfl)
  refine ⟨⟨?_, ?_, ?_, ?_, fun q => ?_⟩, hF, ?_⟩
  · rw [hold x hbx.symm, hptr]
    exact h.hx
  · exact CT.holds_mod rfl hg t p hs h.ht hnd.2 (fun k hk hne => hold k hne)
  · rw [CT.foot_put]; exact h.nd
  · cases ht : t.mod p (CT.putg a f) with
    | nil =>
      rw [ht] at hptr
      obtain ⟨b', l', r', a', f', e⟩ := h.nn
      rw [e] at hptr
      cases hptr
    | node b' l' r' a' f' => exact ⟨b', l', r', a', f', rfl⟩
  · rw [hF]
    unfold tset
    split
    · exact ha
    · exact h.ab q
  · rw [CT.foot_put]
    exact ⟨rfl, rfl, rfl, by simp [putW], fun k hk hn => hold k (fun e => hn (by simp [e, hbf])), fun k hk => .inl hk⟩
theorem TM.cnt {w : World} {x m : Nat} {s : TSpec} {t : CT} {n : Nat} (h : TM w x m s t n) (n' : Nat) (z : Int) (hz : z = n') : TM (cntW w x z) x m s t n' ∧ Fr (x :: t.foot) (x :: t.foot) w (cntW w x z) := by
  subst hz
  have hnd := h.nd
  simp only [List.nodup_cons] at hnd
  have hold : ∀ k, k ≠ x → (cntW w x n').heap[k]? = w.heap[k]? := fun k hne => Below.heap_setCell _ _ _ _ hne
  refine ⟨⟨?_, ?_, h.nd, h.nn, h.ab⟩, ⟨rfl, rfl, rfl, by simp [cntW], fun k hk hn => hold k (fun e => hn (by simp [e])), fun k hk => .inl hk⟩⟩
  · unfold cntW
    rw [heap_setCell_same h.hx]
    rfl
  · exact CT.holds_frame t h.ht fun k hk => hold k (fun e => hnd.1 (e ▸ hk))
def tinsert (s : TSpec) (f : List Bool → Nat) (n : Nat) (k : KA) (p : List Bool) (value : ByteArray) : Int × (List Bool → Nat) × Nat × KA :=
  if (k.alloc s.value 3).2.1 ≠ 0 then ((k.alloc s.value 3).2.1, f, n, (k.alloc s.value 3).2.2) else
  (((k.alloc s.value 3).2.2.put (k.alloc s.value 3).1 (nats value)).1, tset f p (k.alloc s.value 3).1, n + 1, ((k.alloc s.value 3).2.2.put (k.alloc s.value 3).1 (nats value)).2)
def tnew (s : TSpec) (f : List Bool → Nat) (n : Nat) (k : KA) (p : List Bool) (value : ByteArray) (fl : Int) : Int × (List Bool → Nat) × Nat × KA :=
  if fl = 2 then (4, f, n, k) else if n = s.max then (3, f, n, k) else tinsert s f n k p value
def TCut (m a : Nat) (er : Int) (k1 : KA) (F : List Nat) (w : World) (u v : Value) (wx : World) : Prop := u = .int .u64 a ∧ v = .int .i64 er ∧ ∃ F2, KS wx m k1 F2 ∧ Fr F F2 w wx
set_option maxRecDepth 100000 in
set_option maxHeartbeats 1600000 in
theorem tupdate_new {w : World} {x m : Nat} {s : TSpec} {t : CT} {n : Nat} {k k' : KA} {F : List Nat} {e' : Int} {f' : List Bool → Nat} {n' : Nat} (H : TK w x m s t.F n k (x :: t.foot) F) (h : TM w x m s t n) (hs : s.May) (key value : ByteArray) (fl : Int) (hk : s.ok key = true) (hv : value.size = s.value) (h0 : 0 ≤ fl) (h2 : fl ≤ 2)
    (ha : t.F (tpath key) = 0) (hn : n < 4294967296) (hmade : k.made + 1 < 4294967296) (E : tnew s t.F n k (tpath key) value fl = (e', f', n', k')) :
    Calls Try.prog 10 #[.pointer (some ⟨x, 0, none⟩), .string key, .string value, .int .i64 fl] w (TKPost x m s (x :: t.foot) F w (.int .i64 e') f' n' k') := by
  obtain ⟨hb, hlen⟩ := bits_good h hs key hk
  have HB := hide hb
  have hs1 := hs.ky
  obtain ⟨c0, c2, c3, c4, c5, c6, -⟩ := h.cells
  obtain ⟨b, hb⟩ := h.root
  rw [hb] at c5
  have HT := hide (And.intro h H)
  have hb2 : ((value.size : Int) != (s.value : Int)) = false := by rw [bne_eq_false_iff_eq]; omega
  have hb5 : ¬ 2 < fl := by omega
  have HE := hide E
  have HLT : Hid ((∀ b ∈ x :: t.foot, b < w.heap.size) ∧ ∀ b ∈ F, b < w.heap.size) := hide ⟨h.lt, H.ks.lt⟩
  clear h hk hb hv H E
  generalize tpath key = p at *
  go_enter Try.func10, Try.ntmps10
  go_wp2_with fail
  refine HB.out.mono ?_
  rintro e w1 ⟨d, rfl, hdw, hd, hfr⟩
  have hm1 := HT.out.1.fr hfr (by simp)
  have H1 := HT.out.2.fr0 hfr
  have HF := hide (find_no hm1 p d hd (by omega))
  obtain ⟨pt, hpt⟩ : ∃ pt, (t.sub p).ptr = pt := ⟨_, rfl⟩
  rw [hpt] at HF
  have HPT := hide hpt
  clear hpt
  obtain ⟨c0, c2, c3, c4, c5, c6, -⟩ := hm1.cells
  have HX := hide (And.intro hfr (And.intro H1 (And.intro hm1 (And.intro hd hdw))))
  have hx1 := CT.holds_sub hm1.ht p
  clear hm1 hd hdw hfr HB HT H1
  go_wp2_with fail
  refine HF.out.mono ?_
  rintro e w' ⟨rfl, rfl⟩
  clear HF
  go_upto_region 7 with fail
  go_cut [61] (fun v wx => v = .bool false ∧ wx = w1)
  case first =>
    unfold CT.F at ha
    cases hx : t.sub p with
    | nil =>
      obtain rfl : pt = none := by have := HPT.out; rw [hx] at this; exact this.symm
      clear hx1 ha HPT
      have hx' := hide hx
      clear hx
      go_wp2_with fail
      go_meet
      exact ⟨rfl, rfl⟩
    | node b1 l1 r1 a1 f1 =>
      rw [hx] at hx1 ha
      obtain ⟨-, -, q2, -⟩ := CT.obj_reads hx1.1
      have ha1 : a1 = 0 := ha
      subst ha1
      obtain rfl : pt = some ⟨b1, 0, none⟩ := by have := HPT.out; rw [hx] at this; exact this.symm
      clear hx1 ha HPT
      have hx' := hide hx
      clear hx
      go_wp2_with fail
      go_meet
      exact ⟨rfl, rfl⟩
  case rest =>
    clear hx1 HPT
    obtain ⟨rfl, rfl⟩ := hcut
    have HE2 := HE.out
    unfold tnew at HE2
    have hcase : fl = 2 ∨ (fl ≠ 2 ∧ n = s.max) ∨ (fl ≠ 2 ∧ n ≠ s.max) := by omega
    rcases hcase with h2 | ⟨h2, h3⟩ | ⟨h2, h3⟩
    · rw [if_pos h2] at HE2
      simp only [Prod.mk.injEq] at HE2
      subst h2
      have HEE := hide HE2
      clear HE2 HE
      go_wp2
      go_ret
      obtain ⟨rfl, rfl, rfl, rfl⟩ := HEE.out
      exact ⟨_, _, rfl, HX.out.2.1, HX.out.1.none⟩
    · rw [if_neg h2, if_pos h3] at HE2
      simp only [Prod.mk.injEq] at HE2
      have hb3 : (fl == 2) = false := by rw [beq_eq_false_iff_ne]; omega
      have hb4 : ((n : Int) == (s.max : Int)) = true := by rw [beq_iff_eq]; omega
      have HEE := hide HE2
      have HMX := hide h3
      clear HE2 HE h2 h3
      go_wp2_with fail
      go_region
      all_goals
        have HF : Hid (TKPost x m s (x :: t.foot) F w (.int .i64 e') f' n' k' (.returned (.int .i64 3)) wc.drew) := by
          obtain ⟨rfl, rfl, rfl, rfl⟩ := HEE.out
          exact hide ⟨_, _, rfl, HX.out.2.1.fr0 (Fr.refl [] wc).drew, (HX.out.1.trans (Fr.refl [] wc).drew).none⟩
        go_wp2
        go_ret
        exact HF.out
    · rw [if_neg h2, if_neg h3] at HE2
      have hb3 : (fl == 2) = false := by rw [beq_eq_false_iff_ne]; omega
      have hb4 : ((n : Int) == (s.max : Int)) = false := by rw [beq_eq_false_iff_ne]; omega
      have HEE := hide HE2
      obtain ⟨a, er, k1, hal⟩ : ∃ a er k1, k.alloc s.value 3 = (a, er, k1) := ⟨_, _, _, rfl⟩
      have hab : a < 18446744073709551616 := by
        unfold KA.alloc at hal
        split at hal
        · simp at hal; omega
        split at hal
        · simp at hal; omega
        split at hal
        · simp at hal; omega
        · simp only [Prod.mk.injEq] at hal
          omega
      have HA_ : ∀ W, KS W m k F → Hid (Calls Try.prog 35 #[.pointer (some ⟨m, 0, none⟩), .int .i64 s.value, .int .i64 3] W (KPostS m F W (.tuple #[.int .u64 a, .int .i64 er]) k1)) := fun W hW => hide (alloc_S hW hmade hal)
      have HL := hide hal
      clear HE2 HE h2 h3 hal hmade
      obtain ⟨wo, rfl⟩ : ∃ wo : World, wo = wc := ⟨_, rfl⟩
      go_upto_region 13 with fail
      go_cut [77] (fun v wx => v = .bool false ∧ Same wo wx)
      case first =>
        clear HA_
        go_region
        all_goals
          go_wp2_with fail
          go_meet
          exact ⟨rfl, by first | exact Same.refl _ | exact (Same.refl _).drew⟩
      case rest =>
        obtain ⟨rfl, hsm⟩ := hcut
        have H2 := HX.out.2.1.fr0 (hsm.fr [])
        have hm2 := HX.out.2.2.1.fr (hsm.fr []) (by simp)
        have hd2 : wc.heap[d]? = some (byteCells (pbits p)) := by rw [hsm.heap]; exact HX.out.2.2.2.1
        have HY := hide (And.intro (HX.out.1.trans (hsm.fr [])) (And.intro H2 (And.intro hm2 (And.intro hd2 HX.out.2.2.2.2))))
        have hks := H2.ks
        obtain ⟨c0, c2, c3, c4, c5, c6, -⟩ := hm2.cells
        clear HX hsm H2 hm2 hd2
        obtain ⟨wp, rfl⟩ : ∃ wp : World, wp = wc := ⟨_, rfl⟩
        go_upto_region 15 with fail
        go_cut [12, 13] (fun u v wx => TCut m a er k1 F wp u v wx)
        case first =>
          go_region_with (go_at_call 35; refine (HA_ _ ?_).out.mono ?_; (first | exact hks | exact hks.drew | exact hks.drewN _); rintro e w2 ⟨F2, rfl, hk2, f2⟩)
          all_goals
            go_wp2_with fail
            go_meet
            exact ⟨rfl, rfl, F2, hk2, by first | exact f2 | exact (Fr.refl F wp).drew.trans f2⟩
        case rest =>
          clear HA_ hks
          obtain ⟨rfl, rfl, F2, hk2, f2⟩ := hcut
          have H3 := HY.out.2.1.ofK hk2 f2
          have hm3 := HY.out.2.2.1.fr f2 HY.out.2.1.dj
          have hdF : d ∉ F := fun hf => by
            have h1 := HY.out.2.2.2.2
            have h2 := HLT.out.2 d hf
            omega
          have hdT : d ∉ x :: t.foot := fun hf => by
            have h1 := HY.out.2.2.2.2
            have h2 := HLT.out.1 d hf
            omega
          have hd3 : wc.heap[d]? = some (byteCells (pbits p)) := f2.keep HY.out.2.2.2.1 hdF
          have hf3 : Fr ((x :: t.foot) ++ F) ((x :: t.foot) ++ F2) w wc := HY.out.1.none.trans f2.right
          by_cases her : er = 0
          · subst her
            have HE2 := HEE.out
            unfold tinsert at HE2
            rw [HL.out] at HE2
            simp only [ne_eq, not_true_eq_false, if_false, Prod.mk.injEq] at HE2
            have HM := hide (find_make hm3 p d hd3 hdT (by omega))
            have HZ := hide (And.intro H3 (And.intro hd3 (And.intro hdT (And.intro hf3 HE2))))
            clear H3 hm3 hd3 hdT hf3 hdF HY HE2 HEE HL HLT hk2 f2
            obtain ⟨wq, rfl⟩ : ∃ wq : World, wq = wc := ⟨_, rfl⟩
            go_wp2_with fail
            refine HM.out.mono ?_
            rintro e w3 ⟨t3, b3, l3, r3, a3, f3, rfl, hs3, hm3, hF3, hfr3⟩
            have hd4 := hfr3.keep HZ.out.2.1 HZ.out.2.2.1
            have HFO := hide (form_ok hm3 p d hd4 (by omega) (by omega) (by omega))
            have HQ := hide (And.intro hs3 (And.intro hm3 (And.intro hF3 hfr3)))
            clear hs3 hm3 hF3 hfr3 hd4 HM
            go_wp2_with fail
            refine HFO.out.mono ?_
            rintro e w4 ⟨fm, rfl, hfr4⟩
            clear HFO
            have hm4 := HQ.out.2.1.fr hfr4 (by simp)
            have hh := CT.holds_sub hm4.ht p
            rw [HQ.out.1] at hh
            obtain ⟨-, -, q2, q3, -, -, z2, z3⟩ := CT.obj_reads hh.1
            obtain ⟨g1, g2, g3⟩ := hm4.put HQ.out.1 a hab fm
            obtain ⟨g4, g5⟩ := g1.cnt (n + 1) ((n : Int) + 1) (by omega)
            obtain ⟨d0, -, -, -, -, d6, y6⟩ := g1.cells
            have d0' := g4.cells.1
            have K3 := HZ.out.1.ofT ⟨t3, HQ.out.2.1, rfl, rfl⟩ HQ.out.2.2.2
            have K4 := K3.fr0 hfr4
            have K5 := K4.ofT ⟨_, g1, g2, rfl⟩ g3
            have K6 := K5.ofT ⟨_, g4, g2, rfl⟩ g5
            have f6 := (((HZ.out.2.2.2.1.trans HQ.out.2.2.2.left).trans hfr4.none).trans g3.left).trans g5.left
            have HK6 := hide (And.intro K6 f6)
            have hks6 := K6.ks
            unfold cntW putW at d0' hks6
            unfold putW at d0 d6 y6
            have HP : ∀ W, KS W m k1 F2 → Hid (Calls Try.prog 34 #[.pointer (some ⟨m, 0, none⟩), .int .u64 (a : Nat), .string value] W (KPostS m F2 W (.int .i64 (k1.put a (nats value)).1) (k1.put a (nats value)).2)) := fun W hW => hide (put_S hW rfl hab rfl)
            have hn2 : (n : Int) + 1 < 9223372036854775808 := by omega
            have hn3 : (0 : Int) ≤ n := by omega
            clear hh g1 g2 g3 g4 g5 hm4 K3 K4 K5 K6 f6 hfr4
            go_wp2_with fail
            refine (HP _ hks6).out.mono ?_
            rintro e w7 ⟨F7, rfl, k7, f7⟩
            have HF : Hid (TKPost x m s (x :: t.foot) F w (.int .i64 e') f' n' k' (.returned (.int .i64 (k1.put a (nats value)).1)) w7) := by
              obtain ⟨rfl, rfl, rfl, rfl⟩ := HZ.out.2.2.2.2
              rw [← HQ.out.2.2.1]
              exact hide ⟨_, F7, rfl, HK6.out.1.ofK k7 f7, HK6.out.2.trans f7.right⟩
            clear HP HK6 HZ HQ hks6
            go_wp2
            go_ret
            exact HF.out
          · have her' : (er != 0) = true := by rw [bne_iff_ne]; exact her
            have HF : Hid (TKPost x m s (x :: t.foot) F w (.int .i64 e') f' n' k' (.returned (.int .i64 er)) wc) := by
              have hE := HEE.out
              unfold tinsert at hE
              rw [HL.out, if_pos her] at hE
              simp only [Prod.mk.injEq] at hE
              obtain ⟨rfl, rfl, rfl, rfl⟩ := hE
              exact hide ⟨_, F2, rfl, H3, hf3⟩
            clear H3 hm3 hd3 hdT hf3 hdF HY HEE HL HLT hk2 f2
            go_wp2
            go_ret
            exact HF.out
end Go.Proofs.Ytopdgpmeccdogaa
