/- Contract of the hash table's Update at a key that is not there: it answers and writes as the plain data say; condition: table and memory lie in the world. -/
import Derived.Test.YtgkbiknokpmjmaaHAdd
import Derived.Deep.DeepCutAuto
set_option linter.unusedVariables false
set_option linter.unusedSimpArgs false
namespace Go.Proofs.Ytgkbiknokpmjmaa
open Go.RowKit Go.MapKept
open Go.ChangeMaps (setBlock)

def Cut1 (full : Bool) (w : World) (v : Value) (wx : World) : Prop := v = .bool full ∧ Same w wx
def Cut2 (m a : Nat) (er : Int) (k1 : KA) (F : List Nat) (w : World) (u v : Value) (wx : World) : Prop := u = .int .u64 a ∧ v = .int .i64 er ∧ ∃ F2, KS wx m k1 F2 ∧ Fr F F2 w wx
def Cut3 (x m : Nat) (s : HSpec) (h2 : HA) (k2 : KA) (G F : List Nat) (w : World) (wx : World) : Prop := ∃ G2 F2, HK wx x m s h2 k2 G2 F2 ∧ Fr (G ++ F) (G2 ++ F2) w wx
theorem Cut3.mk {x m : Nat} {s : HSpec} {h2 : HA} {k2 : KA} {G F G2 F2 : List Nat} {w wx : World} (h : HK wx x m s h2 k2 G2 F2) (f : Fr (G ++ F) (G2 ++ F2) w wx) : Cut3 x m s h2 k2 G F w wx := ⟨G2, F2, h, f⟩
def RoomSays (full : Bool) (t : HT) (s : HSpec) (k1 : KA) : Prop := (full = true → ∀ r ∈ t.es, (∀ q ∈ t.es, r.e.used ≤ q.e.used) → t.abs.room s k1 = (t.abs.drop r.e.key, (k1.retire r.e.at_).2)) ∧ (full = false → t.abs.room s k1 = (t.abs, k1)) ∧ (full = true → t.es ≠ [])
theorem HA.find_drop {h : HA} {k key : ByteArray} (hf : h.find key = none) : (h.drop k).find key = none := by
  simp only [HA.find, HA.drop, List.find?_eq_none, List.mem_filter] at hf ⊢
  exact fun e he => hf e he.1
theorem HA.find_room {h : HA} {s : HSpec} {k : KA} {key : ByteArray} (hf : h.find key = none) : (h.room s k).1.find key = none := by
  unfold HA.room
  split
  · split
    · exact HA.find_drop hf
    · exact hf
  · exact hf
theorem HA.room_clock (h : HA) (s : HSpec) (k : KA) : (h.room s k).1.clock = h.clock := by
  unfold HA.room
  split
  · split <;> rfl
  · rfl
set_option maxRecDepth 100000 in
set_option maxHeartbeats 1600000 in
/-- Behind the room that was made: the entry is added, marked, and written. -/
theorem hupdate_tail {w : World} {x m : Nat} {s : HSpec} {t : HT} {k k' : KA} {G F : List Nat} {e' : Int} {key value : ByteArray} {a : Nat} (H : HK w x m s t.abs k G F) (hG : G = t.foot x) (h : HM w x m s t) (hno : ∀ r ∈ t.es, r.e.key ≠ key) (ha : a < 18446744073709551616)
    (hc : t.clock + 1 < 9223372036854775808) (E : k.put a (nats value) = (e', k')) :
    ∃ W4, (Instr.mapUpdate 100 (.map (some t.lb)) (.string key) (.pointer (some ⟨w.heap.size, 0, none⟩))).run Try.prog (w.alloc (.cells #[.int .u64 a, .int .i64 0] 109)) = .ok () W4 ∧
      Hid (Calls Try.prog 65 #[.pointer (some ⟨x, 0, none⟩), .pointer (some ⟨w.heap.size, 0, none⟩)] W4 fun e w' => e = .returned (.tuple #[]) ∧ w' = useW W4 x w.heap.size t.clock) ∧
      Hid (∃ G2, HK (useW W4 x w.heap.size t.clock) x m s (t.abs.put key a) k G2 F ∧ Fr G G2 w (useW W4 x w.heap.size t.clock)) ∧
      (useW W4 x w.heap.size t.clock).cell? ⟨x, 0, none⟩ = some (.pointer (some ⟨m, 0, none⟩)) ∧ (useW W4 x w.heap.size t.clock).cell? ⟨w.heap.size, 0, none⟩ = some (.int .u64 a) := by
  subst hG
  obtain ⟨W4, hup, h4, f4⟩ := h.add hno ha
  have hj : (t.add w.heap.size key a).es[t.es.length]? = some ⟨w.heap.size, t.clk, ⟨key, a, 0⟩⟩ := by simp [HT.add]
  have hu := use_calls h4 hj hc
  have hmu := h4.use hj
  have hr := List.mem_of_getElem? hj
  have hfr := useW_fr W4 x w.heap.size t.clock (HT.mem_x x (t.add w.heap.size key a)) (HT.mem_b x hr)
  have g0 := (hmu.reads (r := HC.mark ⟨w.heap.size, t.clk, ⟨key, a, 0⟩⟩ (t.clock + 1)) (by
    exact List.mem_iff_getElem.2 ⟨t.es.length, by simp [HT.use, HT.add], by simp [HT.use, HT.add]⟩)).1
  have f := f4.trans hfr
  refine ⟨W4, hup, hide hu, hide ⟨_, H.ofH ⟨_, hmu, ?_, (HT.use_foot _ hj x).symm⟩ f, f⟩, hmu.cells.1, g0⟩
  rw [HT.use_abs _ h4.kn hj, HT.add_abs]
  rfl
set_option maxRecDepth 100000 in
set_option maxHeartbeats 1600000 in
theorem hupdate_new {w : World} {x m : Nat} {s : HSpec} {t : HT} {k k' : KA} {h' : HA} {F : List Nat} {e' : Int} (H : HK w x m s t.abs k (t.foot x) F) (h : HM w x m s t) (key value : ByteArray) (fl : Int) (hk : key.size = s.key) (hv : value.size = s.value) (h0 : 0 ≤ fl) (h2 : fl < 2)
    (hfn : t.abs.find key = none) (hc : t.clock + 1 < 9223372036854775808) (hmade : k.made + 1 < 4294967296) (hun : (t.abs.es.map (·.used)).Nodup) (hpos : 0 < s.max) (hnf : ¬ (t.es.length = s.max ∧ s.kind = 1)) (E : t.abs.insert s k key value = (e', h', k')) :
    Calls Try.prog 26 #[.pointer (some ⟨x, 0, none⟩), .string key, .string value, .int .i64 fl] w (HKPost x m s (t.foot x) F w (.int .i64 e') h' k') := by
  have hno := HA.find_none hfn
  have hnn := HK.notNil t.lb
  have hb : ((key.size : Int) != (s.key : Int)) = false := by rw [bne_eq_false_iff_eq]; omega
  have hb2 : ((value.size : Int) != (s.value : Int)) = false := by rw [bne_eq_false_iff_eq]; omega
  have hb3 : (fl == 2) = false := by rw [beq_eq_false_iff_ne]; omega
  have hb5 : ¬ 2 < fl := by omega
  obtain ⟨full, hfull⟩ : ∃ b : Bool, ((t.es.length : Int) == (s.max : Int)) = b := ⟨_, rfl⟩
  have hl := hlen_runs h
  have hld := hlen_runs (h.frame (w' := w.drew) (fun _ _ => rfl))
  obtain ⟨a, er, k1, hal⟩ : ∃ a er k1, k.alloc s.value 3 = (a, er, k1) := ⟨_, _, _, rfl⟩
  have hab : a < 18446744073709551616 := by
    unfold KA.alloc at hal
    split at hal
    · simp at hal; omega
    split at hal
    · simp at hal; omega
    split at hal
    · simp at hal; omega
    · simp only [Prod.mk.injEq] at hal
      omega
  have HA_ : ∀ W, KS W m k F → Hid (Calls Try.prog 62 #[.pointer (some ⟨m, 0, none⟩), .int .i64 s.value, .int .i64 3] W (KPostS m F W (.tuple #[.int .u64 a, .int .i64 er]) k1)) := fun W hW => hide (alloc_S hW hmade hal)
  obtain ⟨c0, c1, c2, c3, c4, c5, c6, -⟩ := h.cells
  have hf := h.find_miss hno
  have HH := hide (And.intro H h)
  have HE := hide E
  have HL := hide hal
  have HN := hide (And.intro hno (And.intro hun (And.intro hc (And.intro hpos (And.intro hfn hnf)))))
  clear h H E hal hno hk hv hun hc hfn hmade hpos hnf
  go_enter Try.func26, Try.ntmps26
  go_upto_region 7 with fail
  go_cut [11] (fun s11 wx => Cut1 full w s11 wx)
  case first =>
    have HFU := hide hfull
    cases full with
    | true =>
      go_region
      all_goals
        go_wp2_with fail
        go_meet
        exact ⟨rfl, by first | exact Same.refl _ | exact (Same.refl _).drew⟩
    | false =>
      go_region
      all_goals
        go_wp2_with fail
        go_meet
        exact ⟨rfl, by first | exact Same.refl _ | exact (Same.refl _).drew⟩
  case rest =>
    have hfull' := hide hfull
    obtain ⟨rfl, hs1⟩ := hcut
    have H1 : HK wc x m s t.abs k (t.foot x) F := HH.out.1.fr0 (hs1.fr [])
    have h1 : HM wc x m s t := HH.out.2.same hs1
    have HF1 := hide (hs1.fr (t.foot x ++ F))
    have HH1 := hide (And.intro H1 h1)
    have hks := H1.ks
    have hm1 := h1.cells
    clear hs1 HH H1 h1 c0 c1 c2 c3 c4 c5 c6 hf hl hld hfull
    have hkind : full = true → ((s.kind : Int) == 1) = false := by
      intro e
      subst e
      have h3 := hfull'.out
      have h4 := HN.out.2.2.2.2.2
      rw [beq_iff_eq] at h3
      rw [beq_eq_false_iff_ne]
      intro e2
      exact h4 ⟨by omega, by omega⟩
    obtain ⟨c0, c1, c2, c3, c4, c5, c6, -⟩ := hm1
    generalize hwc : wc = w1 at *
    clear hwc
    go_upto_region 8 with fail
    go_cut [83] (fun s83 wx => s83 = .bool false ∧ wx = w1)
    case first =>
      cases full with
      | true =>
        have hkd := hkind rfl
        clear hkind
        go_wp2_with fail
        go_meet
        exact ⟨rfl, rfl⟩
      | false =>
        clear hkind
        go_wp2_with fail
        go_meet
        exact ⟨rfl, rfl⟩
    case rest =>
    obtain ⟨rfl, rfl⟩ := hcut
    go_upto_region 10 with fail
    go_cut [12, 13] (fun s12 s13 wx => Cut2 m a er k1 F wc s12 s13 wx)
    case first =>
      clear hkind
      go_region_with (go_at_call 62; refine (HA_ _ ?_).out.mono ?_; (first | exact hks | exact hks.drew | exact hks.drewN _); rintro e w2 ⟨F2, rfl, hk2, f2⟩)
      all_goals
        go_wp2_with fail
        go_meet
        exact ⟨rfl, rfl, F2, hk2, by first | exact f2 | exact (Fr.refl F wc).drew.trans f2⟩
    case rest =>
      obtain ⟨rfl, rfl, F2, hk2, f2⟩ := hcut
      have H2 : HK wc x m s t.abs k1 (t.foot x) F2 := HH1.out.1.ofK hk2 f2
      have h2' : HM wc x m s t := HH1.out.2.fr f2 HH1.out.1.dj
      have HF2 : Hid (Fr (t.foot x ++ F) (t.foot x ++ F2) w wc) := hide (HF1.out.trans f2.right)
      have HH2 := hide (And.intro H2 h2')
      clear hk2 f2 HH1 HF1 H2 h2' hks HA_ c0 c1 c2 c3 c4 c5 c6 hkind
      by_cases her : er = 0
      · subst her
        have hroom1 : full = true → ∀ r ∈ t.es, (∀ q ∈ t.es, r.e.used ≤ q.e.used) → t.abs.room s k1 = (t.abs.drop r.e.key, (k1.retire r.e.at_).2) := by
          intro e r hr hm
          subst e
          have h3 := hfull'.out
          rw [beq_iff_eq] at h3
          have h4 : t.abs.oldest = some r.e := oldest_of HN.out.2.1 (List.mem_map.2 ⟨r, hr, rfl⟩) (by
            intro q hq
            obtain ⟨q', hq', rfl⟩ := List.mem_map.1 hq
            exact hm q' hq')
          unfold HA.room
          rw [if_pos (by simp [HT.abs]; omega), h4]
        have hroom2 : full = false → t.abs.room s k1 = (t.abs, k1) := by
          intro e
          subst e
          have h3 := hfull'.out
          rw [beq_eq_false_iff_ne] at h3
          unfold HA.room
          rw [if_neg (by simp [HT.abs]; omega)]
        have hne : full = true → t.es ≠ [] := by
          intro e hnil
          subst e
          have h3 := hfull'.out
          have h4 := HN.out.2.2.2.1
          rw [beq_iff_eq, hnil] at h3
          simp at h3
          omega
        have HR : Hid (RoomSays full t s k1) := hide (And.intro hroom1 (And.intro hroom2 hne))
        clear hroom1 hroom2 hne
        go_upto_if 100 with fail
        go_cut [] (fun wx => Cut3 x m s (t.abs.room s k1).1 (t.abs.room s k1).2 (t.foot x) F w wx)
        case first =>
          cases full with
          | true =>
            go_wp2_with fail
            refine (oldest_calls HH2.out.2 (HR.out.2.2 rfl)).mono ?_
            rintro e w3 ⟨r, hr, rfl, hmin, f3⟩
            have H3 : HK w3 x m s t.abs k1 (t.foot x) F2 := HH2.out.1.fr0 f3
            have h3 : HM w3 x m s t := HH2.out.2.fr f3 (by simp)
            obtain ⟨j, hj1, hj2⟩ := List.getElem_of_mem hr
            have hj : t.es[j]? = some r := by rw [List.getElem?_eq_getElem hj1, hj2]
            have hrm := HR.out.1 rfl r hr hmin
            have hdr := drop_calls H3 h3 hj (e' := (k1.retire r.e.at_).1) (k' := (k1.retire r.e.at_).2) rfl
            have HX := hide (And.intro hrm (HF2.out.more f3))
            clear hrm H3 h3 hj hj1 hj2 hmin hr f3
            go_wp2_with fail
            refine hdr.mono ?_
            rintro e w4 ⟨G4, F4, rfl, H4, f4⟩
            go_wp2_with fail
            go_meet
            rw [HX.out.1]
            exact Cut3.mk H4 (HX.out.2.trans f4)
          | false =>
            go_wp2_with fail
            go_meet
            rw [HR.out.2.1 rfl]
            exact Cut3.mk HH2.out.1 HF2.out
        case rest =>
          have HE2 := HE.out
          unfold HA.insert at HE2
          rw [HL.out] at HE2
          simp only [ne_eq, not_true_eq_false, if_false, Prod.mk.injEq] at HE2
          have hclk := HA.room_clock t.abs s k1
          have hfr := HA.find_room (s := s) (k := k1) HN.out.2.2.2.2.1
          have hc5 := HN.out.2.2.1
          clear HR HH2 HF2 HN hfull'
          obtain ⟨G5, F5, H5, f5⟩ := hcut
          generalize (t.abs.room s k1).1 = hr at *
          generalize (t.abs.room s k1).2 = kr at *
          obtain ⟨t5, h5, rfl, hG5⟩ := H5.hs
          obtain ⟨W4, hup, hu, hq, d0, g0⟩ := hupdate_tail (key := key) (value := value) (a := a) H5 hG5 h5 (HA.find_none hfr) hab (by have : t5.clock = t.clock := hclk; omega) (e' := (kr.put a (nats value)).1) (k' := (kr.put a (nats value)).2) rfl
          obtain ⟨e0, -, -, -, -, e5, -⟩ := h5.cells
          have hsz : wc.heap.size ≠ x := by have := lt_of_heap h5.hx; omega
          have A0 : (wc.alloc (.cells #[.int .u64 a, .int .i64 0] 109)).cell? ⟨x, 0, none⟩ = some (.pointer (some ⟨m, 0, none⟩)) := by
            have := heap_alloc_some (o := .cells #[.int .u64 a, .int .i64 0] 109) h5.hx
            simp only [World.cell?, this]; rfl
          have A5 : (wc.alloc (.cells #[.int .u64 a, .int .i64 0] 109)).cell? ⟨x, 5, none⟩ = some (.map (some t5.lb)) := by
            have := heap_alloc_some (o := .cells #[.int .u64 a, .int .i64 0] 109) h5.hx
            simp only [World.cell?, this]; rfl
          obtain ⟨G6, H6, f6⟩ := hq.out
          have HP : ∀ W, KS W m kr F5 → Hid (Calls Try.prog 60 #[.pointer (some ⟨m, 0, none⟩), .int .u64 a, .string value] W (KPostS m F5 W (.int .i64 (kr.put a (nats value)).1) (kr.put a (nats value)).2)) := fun W hW => hide (put_S hW rfl hab rfl)
          have hku := H6.ks
          have HX := hide (And.intro H6 (And.intro (f5.trans f6.left) HE2))
          clear H5 f5 HE HE2 HL hclk hfr hc5 h5 hG5 hq H6 f6 hsz
          generalize useW W4 x wc.heap.size t5.clock = wu at *
          go_wp2_with fail
          refine hu.out.mono ?_
          rintro e w' ⟨rfl, rfl⟩
          go_wp2_with fail
          go_region_with (go_at_call 60; refine (HP _ ?_).out.mono ?_; (first | exact hku | exact hku.drew | exact hku.drewN _); rintro e w2 ⟨F2', rfl, hk2, f2⟩)
          all_goals
            have f2' : Fr F5 F2' w' w2 := by first | exact f2 | exact (Fr.refl F5 _).drew.trans f2
            have HF : Hid (HKPost x m s (t.foot x) F w (.int .i64 e') h' k' (.returned (.int .i64 (kr.put a (nats value)).1)) w2) := by
              obtain ⟨rfl, rfl, rfl⟩ := HX.out.2.2
              exact hide ⟨G6, F2', rfl, HX.out.1.ofK hk2 f2', HX.out.2.1.trans f2'.right⟩
            go_wp2
            go_ret
            exact HF.out
      · have her' : (er != 0) = true := by rw [bne_iff_ne]; exact her
        have HF : Hid (HKPost x m s (t.foot x) F w (.int .i64 e') h' k' (.returned (.int .i64 er)) wc) := by
          have hE := HE.out
          unfold HA.insert at hE
          rw [HL.out] at hE
          rw [if_pos her] at hE
          simp only [Prod.mk.injEq] at hE
          obtain ⟨rfl, rfl, rfl⟩ := hE
          exact hide ⟨_, F2, rfl, HH2.out.1, HF2.out⟩
        go_wp2
        go_ret
        exact HF.out
/-- Update answers and writes as the plain data say. -/
theorem hupdate_K {w : World} {x m : Nat} {s : HSpec} {h h' : HA} {k k' : KA} {G F : List Nat} (H : HK w x m s h k G F) (key value : ByteArray) (fl : Int) {e' : Int} (hc : h.clock + 1 < 9223372036854775808) (hmade : k.made + 1 < 4294967296) (hun : (h.es.map (·.used)).Nodup) (hpos : 0 < s.max)
    (E : h.update s k key value fl = (e', h', k')) :
    Calls Try.prog 26 #[.pointer (some ⟨x, 0, none⟩), .string key, .string value, .int .i64 fl] w (HKPost x m s G F w (.int .i64 e') h' k') := by
  obtain ⟨t, h1, rfl, rfl⟩ := H.hs
  unfold HA.update at E
  by_cases hbad : key.size ≠ s.key ∨ value.size ≠ s.value ∨ fl < 0 ∨ 2 < fl
  · rw [if_pos hbad] at E
    simp only [Prod.mk.injEq] at E
    obtain ⟨rfl, rfl, rfl⟩ := E
    exact (hupdate_arg h1 key value fl hbad).mono fun e w' ⟨he, hw⟩ => ⟨_, _, he, hw ▸ H, hw ▸ Fr.refl _ _⟩
  rw [if_neg hbad] at E
  have k1 : key.size = s.key := by omega
  have k2 : value.size = s.value := by omega
  have k3 : 0 ≤ fl := by omega
  have k4 : fl ≤ 2 := by omega
  cases hf : t.abs.find key with
  | none =>
    rw [hf] at E
    by_cases e2 : fl = 2
    · subst e2
      simp only [if_true, Prod.mk.injEq] at E
      obtain ⟨rfl, rfl, rfl⟩ := E
      exact (hupdate_none h1 key value k1 k2 (HA.find_none hf)).mono fun e w' ⟨he, hw⟩ => ⟨_, _, he, hw ▸ H, hw ▸ Fr.refl _ _⟩
    simp only [if_neg e2] at E
    have hle : t.abs.es.length = t.es.length := by simp [HT.abs]
    by_cases e3 : t.abs.es.length = s.max ∧ s.kind = 1
    · rw [if_pos e3] at E
      simp only [Prod.mk.injEq] at E
      obtain ⟨rfl, rfl, rfl⟩ := E
      exact (hupdate_full h1 key value fl k1 k2 k3 (by omega) (HA.find_none hf) (by omega) e3.2).mono fun e w' ⟨he, hw⟩ => ⟨_, _, he, H.fr0 (hw.fr []), hw.fr _⟩
    · rw [if_neg e3] at E
      exact hupdate_new H h1 key value fl k1 k2 k3 (by omega) hf hc hmade hun hpos (by rw [hle] at e3; exact e3) E
  | some e =>
    rw [hf] at E
    obtain ⟨j, r, hj, rfl, rfl⟩ := HA.find_some hf
    by_cases e1 : fl = 1
    · subst e1
      simp only [if_true, Prod.mk.injEq] at E
      obtain ⟨rfl, rfl, rfl⟩ := E
      exact (hupdate_exists h1 value hj k1 k2).mono fun e w' ⟨he, hw⟩ => ⟨_, _, he, hw ▸ H, hw ▸ Fr.refl _ _⟩
    · simp only [if_neg e1, Prod.mk.injEq] at E
      obtain ⟨rfl, rfl, rfl⟩ := E
      exact hupdate_old H h1 value fl hj k1 k2 k3 k4 e1 hc rfl
end Go.Proofs.Ytgkbiknokpmjmaa
