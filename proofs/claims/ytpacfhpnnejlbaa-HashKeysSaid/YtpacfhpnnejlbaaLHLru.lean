/- The law HashLru computes true for every argument and leaves old memory alone; no condition. -/
import Derived.Test.YtpacfhpnnejlbaaHPure
import Derived.Test.YtpacfhpnnejlbaaOpen
set_option linter.unusedVariables false
set_option linter.unusedSimpArgs false
namespace Go.Proofs.Ytpacfhpnnejlbaa
open Go.RowKit Go.MapKept
open Go.ChangeMaps (setBlock)

theorem clamp10 (n : Int) : ∃ N : Nat, 1 ≤ N ∧ N ≤ 10 ∧ max 1 (min n 10) = (N : Int) := ⟨(max 1 (min n 10)).toNat, by omega, by omega, by omega⟩
structure LruSt (s : HSpec) (j : Nat) (l : ByteArray) (h : HA) (k : KA) : Prop where
  inv : HInv s h k
  ck : h.clock ≤ 3 * j
  md : k.made ≤ j
  last : l.toList ≠ [] → ∃ q ∈ h.es, q.key = l ∧ q.used = h.clock
def LruRel (w : World) (x m : Nat) (s : HSpec) (len : Nat) (last i : Value) (wr : World) : Prop :=
  ∃ (j : Nat) (l : ByteArray) (h : HA) (k : KA) (G F : List Nat), j ≤ len ∧ j ≤ 200 ∧ last = .string l ∧ i = .int .i64 j ∧ HK wr x m s h k G F ∧ Fr [] (G ++ F) w wr ∧ LruSt s j l h k
theorem rowStr_at {w : World} {a : Option Addr} {len cap : Nat} (h : RowStr w a len cap) (j : Nat) (hj : j < len) : ∃ (b o : Nat) (s : ByteArray), a = some ⟨b, o, none⟩ ∧ ∀ W F, Fr [] F w W → W.cell? ⟨b, o + j, none⟩ = some (.string s) := by
  rcases h with rfl | ⟨b, o, rfl, h1, h2, h3⟩
  · omega
  · obtain ⟨s, hs, -⟩ := h3 j hj
    exact ⟨b, o, s, rfl, fun W F f => by
      have := lt_of_cell hs
      rw [← hs]
      exact f.below0.cell this⟩
theorem rowStr_len {w : World} {a : Option Addr} {len cap : Nat} (h : RowStr w a len cap) : len ≤ 9223372036854775807 := by
  rcases h with rfl | ⟨b, o, rfl, h1, h2, h3⟩
  · omega
  · unfold maxLen at h2; omega
theorem lru_may (N : Nat) (h1 : 1 ≤ N) (h2 : N ≤ 10) : (HSpec.mk 9 1 1 N).May := ⟨.inr rfl, ⟨by show 1 ≤ 1; omega, by show 1 ≤ 512; omega⟩, ⟨by show 1 ≤ 1; omega, by show 1 ≤ 4096; omega⟩, ⟨h1, by show N ≤ 4096; omega⟩⟩
set_option maxRecDepth 100000 in
set_option maxHeartbeats 1600000 in
theorem law_hlru (a : Option Addr) (len cap : Nat) (n : Int) (w : World) (hrow : RowStr w a len cap) : Calls Try.prog 4 #[.slice a len cap, .int .i64 n] w fun e w' => e = .returned (.bool true) ∧ Below w.heap.size w w' := by
  obtain ⟨N, hN1, hN2, hc⟩ := clamp10 n
  have hlen := rowStr_len hrow
  have HROW := hide hrow
  clear hrow
  have hmay := lru_may N hN1 hN2
  go_enter Try.func4, Try.ntmps4
  go_wp2_with fail
  all_goals
    have hN : ∃ V : Int, V = N := ⟨_, rfl⟩
    first
      | (have hV : (1 : Int) = N := by omega
         rw [hV])
      | (have hV : (10 : Int) = N := by omega
         rw [hV])
      | (have hV : n = (N : Int) := by omega
         rw [hV])
    clear hV hc
    refine (new_S w).mono ?_
    rintro e w1 ⟨m, F, rfl, h0, f0⟩
    have hn := hide (hnew_S h0 _ hmay)
    go_wp2_with fail
    refine hn.out.mono ?_
    rintro e w2 ⟨x, G, rfl, H0, f2⟩
    have g2 : Fr [] (G ++ F) w w2 := Fr.beside f0 f2
    clear h0 hn f0 f2
    go_wp2_with fail
    go_loopw [8, 9] (fun last i wr => LruRel w x m ⟨9, 1, 1, N⟩ len last i wr) (fun _ i _ => len - (intOf i).toNat)
    case atStart => exact ⟨0, ⟨#[]⟩, _, _, _, _, Nat.zero_le _, by omega, rfl, rfl, H0, g2, ⟨HInv.start _, by simp, by simp, fun h => absurd (by decide +kernel : (ByteArray.mk #[]).toList = []) h⟩⟩
    case round =>
      obtain ⟨j, l, h, k, G1, F1, hj1, hj2, rfl, rfl, H1, f1, hst⟩ := hrel
      clear H0 g2
      by_cases hlt : j < len
      · by_cases hlt2 : j < 200
        · obtain ⟨b, o, key, rfl, hcell⟩ := rowStr_at HROW.out j hlt
          obtain ⟨e', h', k', E⟩ : ∃ e' h' k', h.update ⟨9, 1, 1, N⟩ k key ⟨#[118]⟩ 0 = (e', h', k') := ⟨_, _, _, rfl⟩
          obtain ⟨u1, u2, u3, u4, u5⟩ := hst.inv.update hmay key _ (by have := hst.md; omega) E
          have c1 := hcell _ _ f1
          have HC := hide hcell
          clear hcell
          have HU := hide (hupdate_K H1 key ⟨#[118]⟩ 0 (by have := hst.ck; omega) (by have := hst.md; omega) hst.inv.un (by show 0 < N; omega) E)
          have HS := hide (And.intro hst (And.intro u1 (And.intro u2 (And.intro u3 (And.intro u4 u5)))))
          clear hst u1 u2 u3 u4 u5 E
          go_wp2_with fail
          refine HU.out.mono ?_
          rintro e w3 ⟨G3, F3, rfl, H3, f3⟩
          replace f3 := f1.trans f3
          clear HU H1 f1 c1
          by_cases he : e' = 0
          · subst he
            obtain ⟨q1, q2, q3, q4, -, q6⟩ := HS.out
            obtain ⟨t1, ⟨top, ht1, ht2, ht3⟩, t3⟩ := q6 rfl
            have c3 := HC.out _ _ f3
            have md4 : k'.made ≤ j + 1 := by have := q1.md; omega
            have hck : h'.clock ≤ 3 * j + 1 := by have := q1.ck; omega
            by_cases hl : l.toList = []
            · have hl' : l.toList.isEmpty = true := by rw [hl]; rfl
              obtain ⟨h4, hh4⟩ : ∃ h4, h4 = h' := ⟨_, rfl⟩
              have inv4 : HInv ⟨9, 1, 1, N⟩ h4 k' := by rw [hh4]; exact q2
              have hin4 : ∃ q ∈ h4.es, q.key = key := by rw [hh4]; exact ⟨top, ht1, ht2⟩
              have hck4 : h4.clock ≤ 3 * j + 2 := by rw [hh4]; omega
              have H4 : HK w3 x m ⟨9, 1, 1, N⟩ h4 k' G3 F3 := by rw [hh4]; exact H3
              have f4 := f3
              clear hh4 q1 q2 q3 q4 q6 t1 ht1 ht2 ht3 t3 HS H3 f3 hck
              go_wp2_with fail
              refine (hlen_S H4.hs).mono ?_
              rintro e w' ⟨rfl, rfl⟩
              have hle : ((h4.es.length : Nat) : Int) ≤ N := by have : h4.es.length ≤ N := inv4.mx; omega
              obtain ⟨a5, h5, E5⟩ : ∃ a5 h5, h4.lookup key = (a5, h5) := ⟨_, _, rfl⟩
              obtain ⟨v1, v2, v3, v4⟩ := inv4.lookup key E5
              obtain ⟨v5, v6⟩ := v4 hin4
              have HL := hide (hlookup_K H4 key (by omega) E5)
              have c4 := HC.out _ _ f4
              have hne : ((a5 : Int) == 0) = false := by rw [beq_eq_false_iff_ne]; omega
              have HV := hide (And.intro v1 (And.intro v2 v6))
              clear E5 v1 v2 v3 v4 v5 v6 inv4 hin4 H4
              go_wp2_with fail
              refine HL.out.mono ?_
              rintro e w5 ⟨G5, F5, rfl, H5, f5⟩
              replace f5 := f4.trans f5
              have c5 := HC.out _ _ f5
              have HX : Hid (LruRel w x m ⟨9, 1, 1, N⟩ len (.string key) (.int .i64 ((j + 1 : Nat) : Int)) w5) := hide ⟨j + 1, key, _, _, _, _, by omega, by omega, rfl, rfl, H5, f5, ⟨HV.out.1, by have := HV.out.2.1; omega, md4, fun _ => HV.out.2.2⟩⟩
              clear HV HL H5 f5 HC f4 c4
              go_wp2
              exact ⟨HX.out, by simp [intOf]; omega⟩
            · have hl' : l.toList.isEmpty = false := by cases hx : l.toList with | nil => exact absurd hx hl | cons _ _ => rfl
              by_cases hNN : (1 : Int) < N
              · obtain ⟨q, hq1, hq2, hq3⟩ := q1.last hl
                obtain ⟨p, hp1, hp2⟩ := t3 q hq1 hq3 (by show 1 < N; omega)
                obtain ⟨a4, h4, E4⟩ : ∃ a4 h4, h'.lookup l = (a4, h4) := ⟨_, _, rfl⟩
                obtain ⟨inv4, v2, v3, v4⟩ := q2.lookup l E4
                have hin4 : ∃ q ∈ h4.es, q.key = key := by
                  have : key ∈ h4.es.map (·.key) := by rw [v3]; exact List.mem_map.2 ⟨top, ht1, ht2⟩
                  obtain ⟨z, z1, z2⟩ := List.mem_map.1 this
                  exact ⟨z, z1, z2⟩
                have hpos := (v4 ⟨p, hp1, hp2.trans hq2⟩).1
                have hne4 : ((a4 : Int) == 0) = false := by rw [beq_eq_false_iff_ne]; omega
                have hck4 : h4.clock ≤ 3 * j + 2 := by omega
                have HL4 := hide (hlookup_K H3 l (by omega) E4)
                have I4 := hide (And.intro inv4 hin4)
                clear q1 q2 q3 q4 q6 t1 ht1 ht2 ht3 t3 HS H3 hck hq1 hq2 hq3 hp1 hp2 E4 v2 v3 v4 inv4 hin4 hpos
                go_wp2_with fail
                refine HL4.out.mono ?_
                rintro e w4 ⟨G4, F4, rfl, H4, f4⟩
                replace f4 := f3.trans f4
                obtain ⟨inv4, hin4⟩ := I4.out
                clear HL4 f3 c3 I4
                go_wp2_with fail
                refine (hlen_S H4.hs).mono ?_
                rintro e w' ⟨rfl, rfl⟩
                have hle : ((h4.es.length : Nat) : Int) ≤ N := by have : h4.es.length ≤ N := inv4.mx; omega
                obtain ⟨a5, h5, E5⟩ : ∃ a5 h5, h4.lookup key = (a5, h5) := ⟨_, _, rfl⟩
                obtain ⟨v1, v2, v3, v4⟩ := inv4.lookup key E5
                obtain ⟨v5, v6⟩ := v4 hin4
                have HL := hide (hlookup_K H4 key (by omega) E5)
                have c4 := HC.out _ _ f4
                have hne : ((a5 : Int) == 0) = false := by rw [beq_eq_false_iff_ne]; omega
                have HV := hide (And.intro v1 (And.intro v2 v6))
                clear E5 v1 v2 v3 v4 v5 v6 inv4 hin4 H4
                go_wp2_with fail
                refine HL.out.mono ?_
                rintro e w5 ⟨G5, F5, rfl, H5, f5⟩
                replace f5 := f4.trans f5
                have c5 := HC.out _ _ f5
                have HX : Hid (LruRel w x m ⟨9, 1, 1, N⟩ len (.string key) (.int .i64 ((j + 1 : Nat) : Int)) w5) := hide ⟨j + 1, key, _, _, _, _, by omega, by omega, rfl, rfl, H5, f5, ⟨HV.out.1, by have := HV.out.2.1; omega, md4, fun _ => HV.out.2.2⟩⟩
                clear HV HL H5 f5 HC f4 c4
                go_wp2
                exact ⟨HX.out, by simp [intOf]; omega⟩
              · obtain ⟨h4, hh4⟩ : ∃ h4, h4 = h' := ⟨_, rfl⟩
                have inv4 : HInv ⟨9, 1, 1, N⟩ h4 k' := by rw [hh4]; exact q2
                have hin4 : ∃ q ∈ h4.es, q.key = key := by rw [hh4]; exact ⟨top, ht1, ht2⟩
                have hck4 : h4.clock ≤ 3 * j + 2 := by rw [hh4]; omega
                have H4 : HK w3 x m ⟨9, 1, 1, N⟩ h4 k' G3 F3 := by rw [hh4]; exact H3
                have f4 := f3
                clear hh4 q1 q2 q3 q4 q6 t1 ht1 ht2 ht3 t3 HS H3 f3 hck
                go_wp2_with fail
                refine (hlen_S H4.hs).mono ?_
                rintro e w' ⟨rfl, rfl⟩
                have hle : ((h4.es.length : Nat) : Int) ≤ N := by have : h4.es.length ≤ N := inv4.mx; omega
                obtain ⟨a5, h5, E5⟩ : ∃ a5 h5, h4.lookup key = (a5, h5) := ⟨_, _, rfl⟩
                obtain ⟨v1, v2, v3, v4⟩ := inv4.lookup key E5
                obtain ⟨v5, v6⟩ := v4 hin4
                have HL := hide (hlookup_K H4 key (by omega) E5)
                have c4 := HC.out _ _ f4
                have hne : ((a5 : Int) == 0) = false := by rw [beq_eq_false_iff_ne]; omega
                have HV := hide (And.intro v1 (And.intro v2 v6))
                clear E5 v1 v2 v3 v4 v5 v6 inv4 hin4 H4
                go_wp2_with fail
                refine HL.out.mono ?_
                rintro e w5 ⟨G5, F5, rfl, H5, f5⟩
                replace f5 := f4.trans f5
                have c5 := HC.out _ _ f5
                have HX : Hid (LruRel w x m ⟨9, 1, 1, N⟩ len (.string key) (.int .i64 ((j + 1 : Nat) : Int)) w5) := hide ⟨j + 1, key, _, _, _, _, by omega, by omega, rfl, rfl, H5, f5, ⟨HV.out.1, by have := HV.out.2.1; omega, md4, fun _ => HV.out.2.2⟩⟩
                clear HV HL H5 f5 HC f4 c4
                go_wp2
                exact ⟨HX.out, by simp [intOf]; omega⟩
          · have he' : (e' != 0) = true := by rw [bne_iff_ne]; exact he
            obtain ⟨q1, q2, q3, q4, q5, -⟩ := HS.out
            obtain ⟨rfl, rfl⟩ := q5 he
            have HX : Hid (LruRel w x m ⟨9, 1, 1, N⟩ len (.string l) (.int .i64 ((j + 1 : Nat) : Int)) w3) := hide ⟨j + 1, l, _, _, _, _, by omega, by omega, rfl, rfl, H3, f3, ⟨q2, by have := q1.ck; omega, by have := q1.md; omega, q1.last⟩⟩
            clear H3 f3 q1 q2 q3 q4 q5 HS he
            go_wp2
            exact ⟨HX.out, by simp [intOf]; omega⟩
        · obtain rfl : j = 200 := by omega
          go_wp2_with fail
          refine (hawake _).mono ?_
          rintro e w' ⟨rfl, hb5⟩
          go_wp2
          go_ret
          exact ⟨rfl, f1.below0.trans (hb5.mono f1.size)⟩
      · obtain rfl : j = len := by omega
        go_wp2_with fail
        refine (hawake _).mono ?_
        rintro e w' ⟨rfl, hb5⟩
        go_wp2
        go_ret
        exact ⟨rfl, f1.below0.trans (hb5.mono f1.size)⟩
end Go.Proofs.Ytpacfhpnnejlbaa
