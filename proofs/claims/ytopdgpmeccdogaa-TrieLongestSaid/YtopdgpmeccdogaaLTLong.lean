/- The law TrieLongest computes true for every argument and leaves old memory alone; no condition. -/
import Derived.Test.YtopdgpmeccdogaaTLong
import Derived.Test.YtopdgpmeccdogaaOpen
set_option linter.unusedVariables false
set_option linter.unusedSimpArgs false
namespace Go.Proofs.Ytopdgpmeccdogaa
open Go.RowKit Go.MapKept
open Go.ChangeMaps (setBlock)

theorem rowStr_at {w : World} {a : Option Addr} {len cap : Nat} (h : RowStr w a len cap) (j : Nat) (hj : j < len) : ∃ (b o : Nat) (s : ByteArray), a = some ⟨b, o, none⟩ ∧ s.size ≤ 9223372036854775807 ∧ ∀ W F, Fr [] F w W → W.cell? ⟨b, o + j, none⟩ = some (.string s) := by
  rcases h with rfl | ⟨b, o, rfl, h1, h2, h3⟩
  · omega
  · obtain ⟨s, hs, hs2⟩ := h3 j hj
    exact ⟨b, o, s, rfl, hs2, fun W F f => by
      have := lt_of_cell hs
      rw [← hs]
      exact f.below0.cell this⟩
theorem rowStr_len {w : World} {a : Option Addr} {len cap : Nat} (h : RowStr w a len cap) : len ≤ 9223372036854775807 := by
  rcases h with rfl | ⟨b, o, rfl, h1, h2, h3⟩
  · omega
  · unfold maxLen at h2; omega
theorem rowI_at {w : World} {a : Option Addr} {len cap : Nat} {zs : List Int} (h : RowI .i64 w a len cap zs) (j : Nat) (hj : j < len) : ∃ (x : Addr) (z : Int), a = some x ∧ ∀ W F, Fr [] F w W → W.cell? (x.add j) = some (.int .i64 z) := by
  rcases h with ⟨rfl, rfl, rfl, rfl⟩ | ⟨x, rfl, h1, h2, h3, h4, h5⟩
  · omega
  · refine ⟨x, zs.getD j 0, rfl, fun W F f => ?_⟩
    have hc := h4 j (by omega)
    have := lt_of_cell hc
    rw [← hc]
    exact f.below0.cell this
theorem rowI_len {w : World} {a : Option Addr} {len cap : Nat} {zs : List Int} (h : RowI .i64 w a len cap zs) : len ≤ 9223372036854775807 := by
  rcases h with ⟨rfl, rfl, rfl, rfl⟩ | ⟨x, rfl, h1, h2, h3, h4, h5⟩
  · omega
  · unfold maxLen at h2; omega
theorem clamp32 (n : Int) : ∃ N : Nat, N ≤ 32 ∧ max 0 (min n 32) = (N : Int) := ⟨(max 0 (min n 32)).toNat, by omega, by omega⟩
theorem sbit_eq2 (s : ByteArray) (q Q R : Nat) (hQ : q / 8 = Q) (hR : 7 - q % 8 = R) (h : Q < s.size) : bits BinOp.and IntKind.u8 (((s[Q]'h).toNat : Int) / 2 ^ min (IntKind.u64.wrap (R : Int)).toNat 8) 1 = ((sbit (nats s) q : Nat) : Int) := by
  have hw : IntKind.u64.wrap (R : Int) = R := IntKind.wrap_u64 R |>.trans (by omega)
  have hm : min (IntKind.u64.wrap (R : Int)).toNat 8 = R := by rw [hw]; omega
  rw [hm]
  have h1 : (((s[Q]'h).toNat : Int) / 2 ^ R) = (((s[Q]'h).toNat / 2 ^ R : Nat) : Int) := by
    rw [Int.natCast_ediv, Int.natCast_pow]; rfl
  have h2 := (s[Q]'h).toNat_lt
  have h3 : (s[Q]'h).toNat / 2 ^ R ≤ (s[Q]'h).toNat := Nat.div_le_self _ _
  rw [h1]
  have := u8_and_nat ((s[Q]'h).toNat / 2 ^ R) 1 (by omega) (by omega)
  rw [show ((1 : Nat) : Int) = 1 from rfl] at this
  rw [this, Nat.and_one_is_mod]
  unfold sbit
  rw [hQ, hR, getD_nats s Q h]
theorem beq_cast (a b : Nat) : (((a : Nat) : Int) == ((b : Nat) : Int)) = (a == b) := by
  rw [Bool.eq_iff_iff]; simp; omega
theorem Same.drewN {w w' : World} (h : Same w w') (n : Nat) : Same w (w'.drewN n) := ⟨h.heap, h.os, h.tape, h.output⟩
def T60 : TSpec := ⟨8, 1, 60⟩
theorem T60.may : T60.May := ⟨by decide, by decide, by decide⟩
def LongRel (w : World) (x m len1 len2 : Nat) (at_ : ByteArray) (u v : Value) (W : World) : Prop :=
  ∃ (i : Nat) (best : Int) (f : List Bool → Nat) (n : Nat) (k : KA) (G F : List Nat), i ≤ len1 ∧ i ≤ len2 ∧ i ≤ 60 ∧ u = .int .i64 best ∧ v = .int .i64 i ∧ TK W x m T60 f n k G F ∧ Fr [] (G ++ F) w W ∧ TInv f n i k ∧ Longest f (spath 32 (nats at_)) best
set_option maxRecDepth 100000 in
set_option maxHeartbeats 1600000 in
theorem law_tlong (a1 a2 : Option Addr) (len1 cap1 len2 cap2 : Nat) (zs : List Int) (at_ : ByteArray) (w : World) (hr1 : RowI .i64 w a1 len1 cap1 zs) (hr2 : RowStr w a2 len2 cap2) (hat : at_.size ≤ 9223372036854775807) :
    Calls Try.prog 3 #[.slice a1 len1 cap1, .slice a2 len2 cap2, .string at_] w fun e w' => e = .returned (.bool true) ∧ Below w.heap.size w w' := by
  by_cases hs : at_.size = 4
  · have hsz : ((at_.size : Int) != 4) = false := by rw [hs]; rfl
    have hl1 := rowI_len hr1
    have hl2 := rowStr_len hr2
    have HR := hide (And.intro hr1 hr2)
    clear hr1 hr2 hat
    go_enter Try.func3, Try.ntmps3
    go_wp2_with fail
    refine (new_S _).mono ?_
    rintro e w1 ⟨m, F, rfl, h0, f0⟩
    have hn := hide (tnew_S h0 T60 T60.may)
    go_wp2_with fail
    refine hn.out.mono ?_
    rintro e w2 ⟨x, G, rfl, H, f2⟩
    have f : Fr [] (G ++ F) w w2 := Fr.beside f0 f2
    have HL : Hid (LongRel w x m len1 len2 at_ (.int .i64 (-1)) (.int .i64 0) w2) := hide ⟨0, -1, _, _, _, _, _, by omega, by omega, by omega, rfl, rfl, H, f, TInv.start, Longest.start _⟩
    clear h0 hn f0 f2 H f
    go_wp2_with fail
    go_loopw [10, 11] (fun u v wr => LongRel w x m len1 len2 at_ u v wr) (fun _ v _ => 60 - (intOf v).toNat)
    case atStart => exact HL.out
    case round =>
      obtain ⟨i, best, f, n, k, G, F, hi1, hi2, hi3, rfl, rfl, H, fr, hinv, hlong⟩ := hrel
      clear HL
      by_cases hgo : i < len1 ∧ i < len2 ∧ i < 60
      · obtain ⟨g1, g2, g3⟩ := hgo
        obtain ⟨y, z, rfl, hy⟩ := rowI_at HR.out.1 i g1
        obtain ⟨b, o, bt, rfl, hbt, hb⟩ := rowStr_at HR.out.2 i g2
        have HY := hide hy
        have HB := hide hb
        have c1 := hy _ _ fr
        have c2 := hb _ _ fr
        clear hy hb
        obtain ⟨N, hN, hc⟩ := clamp32 z
        obtain ⟨wo, rfl⟩ : ∃ wo : World, wo = wr := ⟨_, rfl⟩
        go_upto_region 11 with fail
        go_cut [12] (fun v wx => v = .int .i64 N ∧ wx = wo)
        case first =>
          go_wp2_with fail
          all_goals
            go_meet
            refine ⟨?_, rfl⟩
            congr 1
            omega
        case rest =>
        obtain ⟨rfl, hww⟩ := hcut
        obtain rfl : wo = wc := hww.symm
        clear hc hww c1
        by_cases hbs : bt.size = 4
        · have hb4 : ((bt.size : Int) != 4) = false := by rw [hbs]; rfl
          obtain ⟨f', n', k', E, u1, u2, u3⟩ := hinv.update g3 hN hbs
          have hlong' := hlong.step hN u3 u2
          have hcn := hinv.cnt
          have hmd := hinv.md
          have HI := hide (And.intro u1 hlong')
          have HE := hide E
          clear hinv hlong u1 u2 u3 hlong' E
          go_wp2_with fail
          refine (key_calls N hN bt (by omega) _).mono ?_
          rintro e w3 ⟨rfl, r3⟩
          replace H := H.fr0 r3
          replace fr := fr.more r3
          have hN1 : (0 : Int) ≤ N := by omega
          have hN2 : (N : Int) ≤ 32 := by omega
          have c2 := HB.out _ _ fr
          clear r3
          go_wp2_with fail
          refine (le_calls N 1 (by omega) _).mono ?_
          rintro e w4 ⟨rfl, r4⟩
          replace H := H.fr0 r4
          replace fr := fr.more r4
          have c2 := HB.out _ _ fr
          clear r4
          unfold strOf
          go_wp2_with fail
          refine (tupdate_K H T60.may _ _ _ (by omega) (by omega) HE.out).mono ?_
          rintro e w5 ⟨G5, F5, rfl, H5, r5⟩
          replace fr := fr.trans r5
          clear H r5 HE
          have HQ := hide (And.intro H5 fr)
          have hcell5 := HB.out _ _ fr
          clear H5 fr c2
          obtain ⟨wp, rfl⟩ : ∃ wp : World, wp = w5 := ⟨_, rfl⟩
          go_wp2_with fail
          go_loopw [13, 14] (fun u v wr => ∃ q : Nat, q ≤ N ∧ u = .bool (okB (nats bt) (nats at_) q) ∧ v = .int .i64 q ∧ Same wp wr) (fun _ v _ => N - (intOf v).toNat)
          case atStart => exact ⟨0, by omega, rfl, rfl, Same.refl _⟩
          case round =>
            obtain ⟨q, hq, rfl, rfl, hsm⟩ := hrel
            by_cases hlt : q < N
            · have hcell : wr.cell? ⟨b, o + i, none⟩ = some (.string bt) := by simp only [World.cell?, hsm.heap]; exact hcell5
              have hsucc := okB_succ (nats bt) (nats at_) q
              obtain ⟨Q, hQ⟩ : ∃ Q, q / 8 = Q := ⟨_, rfl⟩
              obtain ⟨R, hR⟩ : ∃ R, 7 - q % 8 = R := ⟨_, rfl⟩
              have hi1 : (Q : Int) < bt.size := by omega
              have hi2 : (Q : Int) < at_.size := by omega
              have hj1 : Q < bt.size := by omega
              have hj2 : Q < at_.size := by omega
              have e1 : IntKind.i64.wrap ((q : Int) / 8) = (Q : Int) := by rw [IntWalk.i64_in _ (by omega)]; omega
              have e2 : IntKind.i64.wrap (7 - (q : Int) % 8) = (R : Int) := by rw [IntWalk.i64_in _ (by omega)]; omega
              have e4 : IntKind.i64.wrap (7 - IntKind.i64.wrap ((q : Int) % 8)) = (R : Int) := by rw [IntWalk.i64_in ((q : Int) % 8) (by omega)]; exact e2
              have HS := hide hsucc
              have HZ := hide (And.intro (And.intro hQ hR) (And.intro hbs hs))
              clear hsucc hbs hs hQ hR
              cases hok : okB (nats bt) (nats at_) q with
              | false =>
                rw [hok] at HS
                go_wp2
                go_quiet (fail)
                clear e1 e2 e4
                go_wp2
                exact ⟨⟨q + 1, by omega, by rw [HS.out]; rfl, by go_num, hsm.drewN _⟩, by simp [intOf]; omega⟩
              | true =>
                rw [hok] at HS
                go_wp2
                go_quiet (fail)
                clear e1 e2 e4
                go_wp2
                rw [sbit_eq2 bt q Q R HZ.out.1.1 HZ.out.1.2, sbit_eq2 at_ q Q R HZ.out.1.1 HZ.out.1.2, beq_cast]
                exact ⟨⟨q + 1, by omega, by rw [HS.out]; rfl, by go_num, hsm.drewN _⟩, by simp [intOf]; omega⟩
            · obtain rfl : q = N := by omega
              have H5 := HQ.out.1.fr0 (hsm.fr [])
              have fr5 := HQ.out.2.more (hsm.fr [])
              have HX : Hid (LongRel w x m len1 len2 at_ (.int .i64 (if okB (nats bt) (nats at_) q then max best q else best)) (.int .i64 ((i + 1 : Nat) : Int)) wr) := hide ⟨i + 1, _, f', n', k', G5, F5, by omega, by omega, by omega, rfl, rfl, H5, fr5, HI.out.1, HI.out.2⟩
              clear H5 fr5 HQ HI hsm
              cases hok : okB (nats bt) (nats at_) q with
              | false =>
                rw [hok] at HX
                go_wp2
                exact ⟨HX.out, by simp [intOf]; omega⟩
              | true =>
                rw [hok] at HX
                rw [if_pos rfl, show max best (q : Int) = if best < (q : Int) then (q : Int) else best by split <;> omega] at HX
                go_wp2
                exact ⟨HX.out, by simp [intOf]; omega⟩
        · have hb4 : ((bt.size : Int) != 4) = true := by rw [bne_iff_ne]; omega
          have HX : Hid (LongRel w x m len1 len2 at_ (.int .i64 best) (.int .i64 ((i + 1 : Nat) : Int)) wo) := hide ⟨i + 1, best, f, n, k, G, F, by omega, by omega, by omega, rfl, rfl, H, fr, ⟨by have := hinv.cnt; omega, hinv.gd, by have := hinv.md; omega, hinv.rg, hinv.inj⟩, hlong⟩
          clear hinv hlong H fr hbs
          go_wp2
          exact ⟨HX.out, by simp [intOf]; omega⟩
      · have hgo' : i = len1 ∨ (i < len1 ∧ i = len2) ∨ (i < len1 ∧ i < len2 ∧ i = 60) := by omega
        have HH := hide (And.intro hinv hlong)
        have hok := ok_key 1 60 32 (by omega) at_ hs
        have htp := tpath_key 32 (by omega) at_
        have HLK : Hid (tlook T60 f (tkey 32 at_) = lookF f (spath 32 (nats at_))) := hide (by unfold tlook; rw [show T60.ok (tkey 32 at_) = true from hok, htp]; rfl)
        have HAB : Hid (∀ p, f p < 18446744073709551616) := by
          obtain ⟨t, ht, rfl, -⟩ := H.ts
          exact hide ht.ab
        clear hgo hinv hlong hok htp hi1 hi2 hi3 HR
        rcases hgo' with rfl | ⟨g1, rfl⟩ | ⟨g1, g2, rfl⟩
        all_goals
          go_wp2_with fail
          refine (key_calls 32 (by omega) at_ (by omega) _).mono ?_
          rintro e w3 ⟨rfl, r3⟩
          replace H := H.fr0 r3
          replace fr := fr.more r3
          clear r3
          have HT := hide (tlookup_K H T60.may (tkey 32 at_))
          rw [HLK.out] at HT
          rcases HH.out.2 with ⟨rfl, hn0⟩ | ⟨b, rfl, hb1, hb2, hb3⟩
          · rw [lk_none hn0] at HT
            clear HH hn0 H HAB HLK
            go_wp2_with fail
            refine HT.out.mono ?_
            rintro e w4 ⟨G4, F4, rfl, H4, r4⟩
            replace fr := fr.trans r4
            clear HT r4 H4
            go_wp2_with fail
            refine (tawake _).mono ?_
            rintro e w' ⟨rfl, hb5⟩
            go_wp2
            go_ret
            exact ⟨rfl, fr.below0.trans (hb5.mono fr.size)⟩
          · rw [spath_length] at hb1
            rw [lk_some (by rw [spath_length]; exact hb1) hb2 hb3] at HT
            have hrd := HH.out.1.read hb2 (by rw [List.length_take, spath_length]; omega)
            rw [List.length_take, spath_length, Nat.min_eq_left hb1] at hrd
            have HRD := hide hrd
            have hab := HAB.out ((spath 32 (nats at_)).take b)
            generalize f ((spath 32 (nats at_)).take b) = av at *
            have hb0 : (0 : Int) ≤ b := by omega
            have hb32 : (b : Int) ≤ 32 := by omega
            clear HH H HAB HLK hb3 hrd hb2
            go_wp2_with fail
            refine HT.out.mono ?_
            rintro e w4 ⟨G4, F4, rfl, H4, r4⟩
            replace fr := fr.trans r4
            clear HT r4
            go_wp2_with fail
            refine (read_S H4.ks rfl hab HRD.out).mono ?_
            rintro e w' ⟨rfl, rfl⟩
            clear HRD H4
            go_wp2_with fail
            refine (tawake _).mono ?_
            rintro e w' ⟨rfl, hb5⟩
            go_wp2
            go_ret
            exact ⟨rfl, fr.below0.trans (hb5.mono fr.size)⟩
  · have hsz : ((at_.size : Int) != 4) = true := by rw [bne_iff_ne]; omega
    clear hs
    go_enter Try.func3, Try.ntmps3
    go_wp2_with fail
    refine (tawake _).mono ?_
    rintro e w' ⟨rfl, hb5⟩
    go_wp2
    go_ret
    exact ⟨rfl, hb5⟩
end Go.Proofs.Ytopdgpmeccdogaa
