/- The law HashKeys computes true for every argument and leaves old memory alone; no condition. -/
import Derived.Test.YtpacfhpnnejlbaaLHLru
import Derived.Test.YtpacfhpnnejlbaaHStr
set_option linter.unusedVariables false
set_option linter.unusedSimpArgs false
namespace Go.Proofs.Ytpacfhpnnejlbaa
open Go.RowKit Go.MapKept
open Go.ChangeMaps (setBlock)

theorem countP_less {α : Type} (P Q : α → Bool) (b : α) : ∀ l : List α, l.Nodup → b ∈ l → P b = true → Q b = false → (∀ k ∈ l, k ≠ b → P k = Q k) → l.countP P = l.countP Q + 1
  | [], _, hb, _, _, _ => by simp at hb
  | x :: l, hn, hb, hp, hq, h => by
    simp only [List.nodup_cons] at hn
    rw [List.countP_cons, List.countP_cons]
    by_cases hx : x = b
    · subst hx
      have : l.countP P = l.countP Q := List.countP_congr (fun k hk => by
        rw [h k (List.mem_cons_of_mem _ hk) (fun e => hn.1 (e ▸ hk))])
      rw [this, hp, hq]
      simp
    · have hb' : b ∈ l := by
        rcases List.mem_cons.1 hb with e | e
        · exact absurd e.symm hx
        · exact e
      rw [countP_less P Q b l hn.2 hb' hp hq (fun k hk hne => h k (List.mem_cons_of_mem _ hk) hne), h x List.mem_cons_self hx]
      omega
def HKs : HSpec := ⟨1, 2, 1, 50⟩
theorem HKs.may : HKs.May := ⟨.inl rfl, by decide, by decide, by decide⟩
structure KFill (j : Nat) (h : HA) (k : KA) : Prop where
  inv : HInv HKs h k
  ck : h.clock ≤ j
  md : k.made ≤ j
def FillRel (w : World) (x m : Nat) (len : Nat) (i : Value) (wr : World) : Prop :=
  ∃ (j : Nat) (h : HA) (k : KA) (G F : List Nat), j ≤ len ∧ j ≤ 50 ∧ i = .int .i64 j ∧ HK wr x m HKs h k G F ∧ Fr [] (G ++ F) w wr ∧ KFill j h k
/-- n keys were told, the last of them is l. -/
structure KTold (n : Nat) (l : ByteArray) (h : HA) (k : KA) : Prop where
  inv : HInv HKs h k
  ck : h.clock ≤ 50 + n
  md : k.made ≤ 50
  cnt : (h.es.map (·.key)).countP (HQ HKs l) + n = h.es.length
  first : n = 0 → l = ⟨#[]⟩
  later : 0 < n → l.size = 2
def ToldRel (w : World) (x m : Nat) (last i : Value) (wr : World) : Prop :=
  ∃ (n : Nat) (l : ByteArray) (h : HA) (k : KA) (G F : List Nat), n ≤ 50 ∧ last = .string l ∧ i = .int .i64 n ∧ HK wr x m HKs h k G F ∧ Fr [] (G ++ F) w wr ∧ KTold n l h k
theorem KFill.told {j : Nat} {h : HA} {k : KA} (H : KFill j h k) (hj : j ≤ 50) : KTold 0 ⟨#[]⟩ h k := by
  refine ⟨H.inv, by have := H.ck; omega, by have := H.md; omega, ?_, fun _ => rfl, fun h => by omega⟩
  have : (h.es.map (·.key)).countP (HQ HKs ⟨#[]⟩) = (h.es.map (·.key)).length := by
    rw [List.countP_eq_length]
    intro a ha
    simp [HQ, HKs]
    exact .inr (by decide +kernel)
  rw [this]
  simp
theorem KTold.end_ {n : Nat} {l : ByteArray} {h : HA} {k : KA} (H : KTold n l h k) (hq : ∀ q ∈ h.es, HQ HKs l q.key = false) : n = h.es.length := by
  have h1 := H.cnt
  have : (h.es.map (·.key)).countP (HQ HKs l) = 0 := by
    rw [List.countP_eq_zero]
    intro a ha
    obtain ⟨q, hq1, rfl⟩ := List.mem_map.1 ha
    simp [hq q hq1]
  omega
theorem KTold.step {n : Nat} {l b : ByteArray} {h : HA} {k : KA} (H : KTold n l h k) (hb : ∃ q ∈ h.es, q.key = b) (hQ : HQ HKs l b = true) (hmin : ∀ q ∈ h.es, HQ HKs l q.key = true → kl q.key b = false) {a : Nat} {h' : HA} (E : h.lookup b = (a, h')) :
    0 < a ∧ KTold (n + 1) b h' k ∧ n < 50 ∧ (0 < n → kl l b = true) := by
  obtain ⟨v1, v2, v3, v4⟩ := H.inv.lookup b E
  have hsz : b.size = 2 := by
    obtain ⟨q, hq, rfl⟩ := hb
    exact H.inv.sz q hq
  have hbm : b ∈ h.es.map (·.key) := by
    obtain ⟨q, hq, rfl⟩ := hb
    exact List.mem_map.2 ⟨q, hq, rfl⟩
  have hQb : ∀ k, HQ HKs b k = kl b k := by intro k; simp [HQ, HKs, hsz]
  have hc := countP_less (HQ HKs l) (HQ HKs b) b (h.es.map (·.key)) H.inv.kn hbm hQ (by rw [hQb, kl_irrefl]) (fun k hk hne => by
    obtain ⟨q, hq, rfl⟩ := List.mem_map.1 hk
    rw [hQb]
    cases h1 : HQ HKs l q.key with
    | true =>
      have h2 := hmin q hq h1
      cases h3 : kl b q.key with
      | true => rfl
      | false => exact absurd (kl_tri h2 h3) hne
    | false =>
      cases h3 : kl b q.key with
      | false => rfl
      | true =>
        exfalso
        simp only [HQ, Bool.or_eq_false_iff] at h1
        simp only [HQ, h1.2, Bool.or_false] at hQ
        rw [kl_trans hQ h3] at h1
        cases h1.1)
  have hlen : h'.es.length = h.es.length := by
    have := congrArg List.length v3
    simpa using this
  have hcn := H.cnt
  have hmx : h.es.length ≤ 50 := H.inv.mx
  refine ⟨(v4 hb).1, ⟨v1, by have := H.ck; omega, H.md, by rw [v3, hlen]; omega, fun h => by omega, fun _ => hsz⟩, by omega, fun hn => ?_⟩
  have h1 := H.later hn
  simpa [HQ, HKs, h1] using hQ
set_option maxRecDepth 100000 in
set_option maxHeartbeats 1600000 in
theorem law_hkeys (a : Option Addr) (len cap : Nat) (w : World) (hrow : RowStr w a len cap) : Calls Try.prog 3 #[.slice a len cap] w fun e w' => e = .returned (.bool true) ∧ Below w.heap.size w w' := by
  have hlen := rowStr_len hrow
  have HROW := hide hrow
  clear hrow
  have hmay := HKs.may
  have hleq := @run_leq_str Try.prog
  go_enter Try.func3, Try.ntmps3
  go_wp2_with fail
  refine (new_S w).mono ?_
  rintro e w1 ⟨m, F, rfl, h0, f0⟩
  have hn := hide (hnew_S h0 _ hmay)
  go_wp2_with fail
  refine hn.out.mono ?_
  rintro e w2 ⟨x, G, rfl, H0, f2⟩
  have g2 : Fr [] (G ++ F) w w2 := Fr.beside f0 f2
  clear h0 hn f0 f2
  go_wp2_with fail
  go_loopw [6] (fun i wr => FillRel w x m len i wr) (fun i _ => len - (intOf i).toNat)
  case atStart => exact ⟨0, _, _, _, _, Nat.zero_le _, by omega, rfl, H0, g2, ⟨HInv.start _, by simp, by simp⟩⟩
  case round =>
    obtain ⟨j, h, k, G1, F1, hj1, hj2, rfl, H1, f1, hst⟩ := hrel
    clear H0 g2
    by_cases hgo : j < len ∧ j < 50
    · obtain ⟨hlt, hlt2⟩ := hgo
      obtain ⟨b, o, key, rfl, hcell⟩ := rowStr_at HROW.out j hlt
      obtain ⟨e', h', k', E⟩ : ∃ e' h' k', h.update HKs k key ⟨#[118]⟩ 0 = (e', h', k') := ⟨_, _, _, rfl⟩
      obtain ⟨u1, u2, u3, u4, u5⟩ := hst.inv.update hmay key _ (by have := hst.md; omega) E
      have c1 := hcell _ _ f1
      have HU := hide (hupdate_K H1 key ⟨#[118]⟩ 0 (by have := hst.ck; omega) (by have := hst.md; omega) hst.inv.un (by show 0 < 50; omega) E)
      have HS : Hid (KFill (j + 1) h' k') := hide ⟨u1, by have := hst.ck; omega, by have := hst.md; omega⟩
      clear hst u1 u2 u3 u4 u5 E
      go_wp2_with fail
      refine HU.out.mono ?_
      rintro e w3 ⟨G3, F3, rfl, H3, f3⟩
      replace f3 := f1.trans f3
      have HX : Hid (FillRel w x m len (.int .i64 ((j + 1 : Nat) : Int)) w3) := hide ⟨j + 1, _, _, _, _, by omega, by omega, rfl, H3, f3, HS.out⟩
      clear HU H1 f1 c1 H3 f3 HS
      go_wp2
      exact ⟨HX.out, by simp [intOf]; omega⟩
    · have HT : Hid (ToldRel w x m (.string ⟨#[]⟩) (.int .i64 0) wr) := hide ⟨0, _, _, _, _, _, by omega, rfl, rfl, H1, f1, hst.told hj2⟩
      clear H1 f1 hst
      have hgo' : j = len ∨ (j = 50 ∧ 50 < len) := by omega
      clear hgo hj1 hj2
      rcases hgo' with rfl | ⟨rfl, hl50⟩
      all_goals
        go_wp2_with fail
        go_loopw [7, 8] (fun last i wr => ToldRel w x m last i wr) (fun _ i _ => 51 - (intOf i).toNat)
        case atStart => exact HT.out
        case round =>
          obtain ⟨n, l, h, k, G1, F1, hn, rfl, rfl, H1, f1, hst⟩ := hrel
          clear HT
          have HN := hide (hnext_K H1 l)
          go_wp2_with fail
          refine HN.out.mono ?_
          rintro e w3 ⟨b, c, rfl, hb, f3⟩
          clear HN
          replace H1 := H1.fr0 f3
          replace f3 := f1.more f3
          clear f1
          rcases hb with ⟨rfl, rfl, hq⟩ | ⟨rfl, hb1, hb2, hb3⟩
          · have hnl := hst.end_ hq
            have HL := hide (hlen_S H1.hs)
            have hnl' : ((n : Int) == (h.es.length : Nat)) = true := by rw [beq_iff_eq]; omega
            clear hst hq hnl H1
            go_wp2_with fail
            refine HL.out.mono ?_
            rintro e w' ⟨rfl, rfl⟩
            clear HL
            go_wp2_with fail
            refine (hawake _).mono ?_
            rintro e w' ⟨rfl, hb5⟩
            go_wp2
            go_ret
            exact ⟨rfl, f3.below0.trans (hb5.mono f3.size)⟩
          · obtain ⟨a5, h5, E5⟩ : ∃ a5 h5, h.lookup b = (a5, h5) := ⟨_, _, rfl⟩
            obtain ⟨s1, s2, s3, s4⟩ := hst.step hb1 hb2 hb3 E5
            have HL := hide (hlookup_K H1 b (by have := hst.ck; omega) E5)
            have hne : ((a5 : Int) == 0) = false := by rw [beq_eq_false_iff_ne]; omega
            have HS := hide s2
            clear hst hb1 hb2 hb3 E5 s1 s2 H1
            by_cases hn0 : 0 < n
            · have hkl := s4 hn0
              have hn0' : (0 : Int) < n := by omega
              have hlq : ∀ (ty : TypeId) (W : World), (binOp .leq ty (.string b) (.string l)).run Try.prog W = .ok (.bool false) W := fun ty W => by rw [hleq, hkl]; rfl
              clear hleq s4 hkl hn0
              go_wp2_with fail
              refine HL.out.mono ?_
              rintro e w5 ⟨G5, F5, rfl, H5, f5⟩
              have HX : Hid (ToldRel w x m (.string b) (.int .i64 ((n + 1 : Nat) : Int)) w5) := hide ⟨n + 1, b, _, _, _, _, by omega, rfl, rfl, H5, f3.trans f5, HS.out⟩
              clear H5 f5 f3 HS HL
              go_wp2
              exact ⟨HX.out, by simp [intOf]; omega⟩
            · obtain rfl : n = 0 := by omega
              clear hleq s4 hn0
              go_wp2_with fail
              refine HL.out.mono ?_
              rintro e w5 ⟨G5, F5, rfl, H5, f5⟩
              have HX : Hid (ToldRel w x m (.string b) (.int .i64 ((0 + 1 : Nat) : Int)) w5) := hide ⟨0 + 1, b, _, _, _, _, by omega, rfl, rfl, H5, f3.trans f5, HS.out⟩
              clear H5 f5 f3 HS HL
              go_wp2
              exact ⟨HX.out, by simp [intOf]⟩
end Go.Proofs.Ytpacfhpnnejlbaa
