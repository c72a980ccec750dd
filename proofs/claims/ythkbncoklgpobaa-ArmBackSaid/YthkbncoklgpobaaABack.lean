/- ArmBack: what was encoded is decoded as it was; condition: the instructions lie in memory, and their bytes fit. -/
import Derived.Test.YthkbncoklgpobaaAHand2
import Derived.Test.YthkbncoklgpobaaMapRaw
import Derived.Outline
import Derived.Deep.QuietTactic
import Derived.BigQuiet
import Derived.Lib.Bytes
set_option linter.unusedVariables false
set_option linter.unusedSimpArgs false
namespace Go.Proofs.Ythkbncoklgpobaa
open Go.RowKit Go.MapKept
open Go.Proofs.YthkbncoklgpobaaW.PrintWords Go.Proofs.YthkbncoklgpobaaW.PrintLast Go.Proofs.YthkbncoklgpobaaW.PrintMore
open QArmDecodes (S32 k32 z32)

theorem arm_elem {w : World} {A : Option Addr} {n : Nat} {xs : List S32} (h : Kd.C k32 w A n xs) (i : Nat) (hi : i < n) (hx : i < xs.length) : ∃ b o, A = some ⟨b, o, none⟩ ∧
    w.cell? ⟨b, o + i * 5, none⟩ = some (.int .i64 xs[i].f0) ∧ w.cell? ⟨b, o + i * 5 + 1, none⟩ = some (.int .i64 xs[i].f1) ∧ w.cell? ⟨b, o + i * 5 + 2, none⟩ = some (.int .i64 xs[i].f2) ∧
    w.cell? ⟨b, o + i * 5 + 3, none⟩ = some (.int .i64 xs[i].f3) ∧ w.cell? ⟨b, o + i * 5 + 4, none⟩ = some (.int .i64 xs[i].f4) := by
  obtain ⟨hl, hm, hc⟩ := h
  obtain ⟨ad, rfl, hc2⟩ := hc (by omega)
  obtain ⟨c, hcl, hk, hcell⟩ := hc2 i xs[i] (List.getElem?_eq_getElem hx)
  have hk' : c = [.int .i64 xs[i].f0, .int .i64 xs[i].f1, .int .i64 xs[i].f2, .int .i64 xs[i].f3, .int .i64 xs[i].f4] := by
    obtain ⟨c0, r0, rfl, rfl, c1, r1, rfl, rfl, c2, r2, rfl, rfl, c3, c4, rfl, rfl, rfl⟩ := hk
    rfl
  subst hk'
  obtain ⟨b, o, sp⟩ := ad
  have hsp : sp = none := by
    obtain ⟨c', hcl', hk', hcell'⟩ := hc2 0 xs[0] (List.getElem?_eq_getElem (by omega))
    obtain ⟨u, hu⟩ : ∃ u, c'[0]? = some u := ⟨c'[0]'(by rw [hcl']; decide), List.getElem?_eq_getElem _⟩
    have := World.cell?_spot (hcell' 0 u hu)
    simpa [Addr.add] using this
  subst hsp
  have key : ∀ m, (⟨b, o, none⟩ : Addr).add m = ⟨b, o + m, none⟩ := by
    intro m
    unfold Addr.add
    split <;> simp_all
  refine ⟨b, o, rfl, ?_, ?_, ?_, ?_, ?_⟩
  · have := hcell 0 _ rfl; rw [key] at this; exact this
  · have := hcell 1 _ rfl; rw [key] at this; exact this
  · have := hcell 2 _ rfl; rw [key] at this; exact this
  · have := hcell 3 _ rfl; rw [key] at this; exact this
  · have := hcell 4 _ rfl; rw [key] at this; exact this
theorem encAll_len : ∀ (l : List S32) (bs : List Int), encAll l = some bs → bs.length = 4 * l.length
  | [], bs, h => by simp [encAll] at h; subst h; rfl
  | x :: l, bs, h => by
    rw [encAll] at h
    split at h
    · cases h
    · obtain ⟨r, hr, rfl⟩ := Option.map_eq_some_iff.1 h
      have := encAll_len l r hr
      simp [wordBytes]; omega
theorem encAll_at : ∀ (l : List S32) (bs : List Int), encAll l = some bs → ∀ (i : Nat) (h : i < l.length), 0 ≤ sw l[i] ∧ ∀ j, j < 4 → bs.getD (4 * i + j) 0 = (wordBytes (sw l[i])).getD j 0
  | [], bs, h, i, hi => by simp at hi
  | x :: l, bs, h, i, hi => by
    rw [encAll] at h
    split at h
    · cases h
    · rename_i hx
      obtain ⟨r, hr, rfl⟩ := Option.map_eq_some_iff.1 h
      cases i with
      | zero =>
        refine ⟨by simpa using hx, fun j hj => ?_⟩
        have : j = 0 ∨ j = 1 ∨ j = 2 ∨ j = 3 := by omega
        rcases this with rfl | rfl | rfl | rfl <;> simp [wordBytes]
      | succ i =>
        obtain ⟨h1, h2⟩ := encAll_at l r hr i (by simpa using hi)
        refine ⟨h1, fun j hj => ?_⟩
        have := h2 j hj
        rw [show 4 * (i + 1) + j = (4 * i + j) + 4 by omega]
        simpa [wordBytes] using this
theorem bt_strOfNums (bs : List Int) (hb : ∀ x ∈ bs, 0 ≤ x ∧ x < 256) (i : Nat) (h : i < bs.length) : bt (strOfNums bs) i = bs.getD i 0 := by
  unfold bt
  have hs : (i : Int).toNat < (strOfNums bs).size := by rw [strOfNums_size]; simpa using h
  rw [dif_pos hs]
  have hx := hb bs[i] (List.getElem_mem _)
  have e : (strOfNums bs)[(i : Int).toNat] = UInt8.ofNat bs[i].toNat := by
    simp [strOfNums, ByteArray.getElem_eq_getElem_data]
  rw [e]
  simp [h]
  omega
theorem encAll_bytes : ∀ (l : List S32) (bs : List Int), encAll l = some bs → ∀ x ∈ bs, 0 ≤ x ∧ x < 256
  | [], bs, h, x, hx => by simp [encAll] at h; subst h; simp at hx
  | y :: l, bs, h, x, hx => by
    rw [encAll] at h
    split at h
    · cases h
    · obtain ⟨r, hr, rfl⟩ := Option.map_eq_some_iff.1 h
      rcases List.mem_append.1 hx with hx | hx
      · simp [wordBytes] at hx; omega
      · exact encAll_bytes l r hr x hx
/-- The four bytes of a word that was encoded. -/
theorem word_of_bytes (l : List S32) (bs : List Int) (h : encAll l = some bs) (i : Nat) (hi : i < l.length) : ((strOfNums bs).extract (4 * i) (4 * i + 4)).size = 4 ∧ le4 ((strOfNums bs).extract (4 * i) (4 * i + 4)) = sw l[i] ∧
    Enc l[i].f0 l[i].f1 l[i].f2 l[i].f3 l[i].f4 (sw l[i]) := by
  have hlen := encAll_len l bs h
  obtain ⟨h1, h2⟩ := encAll_at l bs h i hi
  have hen : Enc l[i].f0 l[i].f1 l[i].f2 l[i].f3 l[i].f4 (sw l[i]) := (isW_armW _ _ _ _ _).of_nonneg h1
  have hr := hen.range
  have hsz : ((strOfNums bs).extract (4 * i) (4 * i + 4)).size = 4 := by
    rw [ByteArray.size_extract, strOfNums_size]; omega
  refine ⟨hsz, ?_, hen⟩
  have hb : ∀ j : Nat, j < 4 → bt ((strOfNums bs).extract (4 * i) (4 * i + 4)) j = (wordBytes (sw l[i])).getD j 0 := by
    intro j hj
    rw [← h2 j hj, ← bt_strOfNums bs (encAll_bytes l bs h) (4 * i + j) (by omega)]
    unfold bt
    have hs1 : (j : Int).toNat < ((strOfNums bs).extract (4 * i) (4 * i + 4)).size := by rw [hsz]; simpa using hj
    have hs2 : ((4 * i + j : Nat) : Int).toNat < (strOfNums bs).size := by rw [strOfNums_size]; simp; omega
    rw [dif_pos hs1, dif_pos hs2]
    have e : (4 * (i : Int) + j).toNat = 4 * i + j := by omega
    simp [ByteArray.getElem_eq_getElem_data, ByteArray.data_extract, e]
  have b0 := hb 0 (by omega)
  have b1 := hb 1 (by omega)
  have b2 := hb 2 (by omega)
  have b3 := hb 3 (by omega)
  unfold le4
  simp only [wordBytes, List.getD_cons_zero, List.getD_cons_succ] at b0 b1 b2 b3
  have c0 : bt ((strOfNums bs).extract (4 * i) (4 * i + 4)) 0 = sw l[i] % 256 := b0
  have c1 : bt ((strOfNums bs).extract (4 * i) (4 * i + 4)) 1 = sw l[i] / 256 % 256 := b1
  have c2 : bt ((strOfNums bs).extract (4 * i) (4 * i + 4)) 2 = sw l[i] / 65536 % 256 := b2
  have c3 : bt ((strOfNums bs).extract (4 * i) (4 * i + 4)) 3 = sw l[i] / 16777216 % 256 := b3
  rw [c0, c1, c2, c3]
  omega
theorem back_elem {w : World} {A : Option Addr} {n : Nat} {xs : List S32} (h : Kd.C k32 w A n xs) (hn : xs.length = n) (bs : List Int) (hbs : encAll xs = some bs) (s : ByteArray) (hs : strOfNums bs = s) (i : Nat) (hi : i < n) :
    ∃ b o f0 f1 f2 f3 f4 sv, A = some ⟨b, o, none⟩ ∧ w.cell? ⟨b, o + i * 5, none⟩ = some (.int .i64 f0) ∧ w.cell? ⟨b, o + i * 5 + 1, none⟩ = some (.int .i64 f1) ∧ w.cell? ⟨b, o + i * 5 + 2, none⟩ = some (.int .i64 f2) ∧
    w.cell? ⟨b, o + i * 5 + 3, none⟩ = some (.int .i64 f3) ∧ w.cell? ⟨b, o + i * 5 + 4, none⟩ = some (.int .i64 f4) ∧ ref_fromle.f (s.extract (4 * i) (4 * i + 4)) = some sv ∧ arm_decode.f (wrap64 sv) = some (f0, f1, f2, f3, f4, 0) := by
  have hx : i < xs.length := by omega
  obtain ⟨b, o, hAe, c0, c1, c2, c3, c4⟩ := arm_elem h i hi hx
  obtain ⟨w1, w2, w3⟩ := word_of_bytes xs bs hbs i hx
  subst hs
  refine ⟨b, o, _, _, _, _, _, sw xs[i], hAe, c0, c1, c2, c3, c4, ?_, ?_⟩
  · rw [ref_fromle.f, if_pos w1, w2]
  · have hr := w3.range
    rw [show wrap64 (sw xs[i]) = sw xs[i] by unfold wrap64; omega, arm_decode.f, decW_enc w3]
attribute [local go_sem high] QArmDecodes.eqA32
def BackRel (n : Nat) (w : World) (v : Value) (wr : World) : Prop := ∃ i : Nat, i ≤ n ∧ v = .int .i64 i ∧ Below w.heap.size w wr
set_option maxRecDepth 100000 in
set_option maxHeartbeats 2000000 in
theorem back_none (A : Option Addr) (cap : Nat) (n : Nat) (w : World)
    (HE : Hid (Calls Try.prog 6 #[.slice A n cap] w fun e w' => e = .returned (.tuple #[.string ⟨#[]⟩, .int .i64 30]) ∧ Below w.heap.size w w')) :
    Calls Try.prog 5 #[.slice A n cap] w (BelowPost w (.bool true)) := by
  go_enter Try.func5, Try.ntmps5
  go_wp2_with fail
  refine HE.out.mono ?_
  rintro e W ⟨rfl, hb⟩
  go_wp2_with fail
  refine (law_awake.calls true _ rfl).mono ?_
  rintro e W' ⟨rfl, hb'⟩
  go_wp2
  go_ret
  exact ⟨rfl, hb.trans (hb'.mono hb.size)⟩
set_option maxRecDepth 100000 in
set_option maxHeartbeats 2000000 in
theorem back_some (A : Option Addr) (cap : Nat) (xs : List S32) (w : World) (hc : Kd.C k32 w A xs.length xs) (hA : ∀ b o, 0 < xs.length → A = some ⟨b, o, none⟩ → b < w.heap.size) (hl : xs.length * 4 < 100000000000000) (bs : List Int) (hbs : encAll xs = some bs)
    (HE : Hid (Calls Try.prog 6 #[.slice A xs.length cap] w fun e w' => e = .returned (.tuple #[.string (strOfNums bs), .int .i64 0]) ∧ Below w.heap.size w w')) :
    Calls Try.prog 5 #[.slice A xs.length cap] w (BelowPost w (.bool true)) := by
  have hlen := encAll_len xs bs hbs
  have HC := hide hc
  have HA := hide hA
  have HB := hide hbs
  have hsz : (strOfNums bs).size = 4 * xs.length := by rw [strOfNums_size, hlen]
  generalize hs : strOfNums bs = s at *
  have HS := hide hs
  have HZ := hide hsz
  clear hc hA hbs hlen hs
  generalize hn : xs.length = n at *
  have HN := hide hn
  clear hn
  have hz1 : 4 * (n : Int) < 100000000000000 := by omega
  have hz0 : 0 ≤ 4 * (n : Int) := by omega
  have hz2 : ((s.size : Nat) : Int) = 4 * (n : Int) := by rw [HZ.out]; omega
  clear hsz
  go_enter Try.func5, Try.ntmps5
  go_wp2_with fail
  refine HE.out.mono ?_
  rintro e W ⟨rfl, hb⟩
  go_wp2_with fail
  go_loopw [5] (fun v wr => BackRel n w v wr) (fun v _ => n - (intOf v).toNat)
  case atStart => exact ⟨0, Nat.zero_le _, rfl, hb⟩
  case round =>
    obtain ⟨i, hi, rfl, hbr⟩ := hrel
    clear hb
    by_cases hlt : i < n
    · obtain ⟨b, o, f0, f1, f2, f3, f4, sv, rfl, c0, c1, c2, c3, c4, hfl, hdec⟩ := back_elem (Kd.C_below HC.out hbr) HN.out bs HB.out s HS.out i hlt
      have HD := hide hdec
      have HF := hide hfl
      have HR := hide hbr
      have HBW := hide (HA.out b o (by omega) rfl)
      have hex : (4 * (i : Int)).toNat = 4 * i := by omega
      have hex2 : (4 * (i : Int) + 4).toNat = 4 * i + 4 := by omega
      have hi0 : 0 ≤ 4 * (i : Int) := by omega
      have hle : 4 * (i : Int) ≤ 4 * (i : Int) + 4 := by omega
      have hi00 : 0 ≤ 4 * (i : Int) + 4 := by omega
      have hi1 : 4 * (i : Int) + 4 ≤ 4 * (n : Int) := by omega
      clear hdec hfl hbr
      go_wp2_with fail
      refine (ref_fromle.calls _ sv _ HF.out).mono ?_
      rintro e W1 ⟨rfl, hb1⟩
      have HB1 := hide hb1
      clear hb1
      go_wp2_with fail
      refine (arm_decode.calls _ f0 f1 f2 f3 f4 0 _ HD.out).mono ?_
      rintro e W2 ⟨rfl, hb2⟩
      have hBR : Below w.heap.size w W2 := (HR.out.trans (HB1.out.mono HR.out.size)).trans (hb2.mono (Nat.le_trans HR.out.size HB1.out.size))
      have hw2 : ∀ m, W2.cell? ⟨b, m, none⟩ = wr.cell? ⟨b, m, none⟩ := fun m => by
        have e1 : W2.cell? ⟨b, m, none⟩ = w.cell? ⟨b, m, none⟩ := hBR.cell (p := ⟨b, m, none⟩) HBW.out
        have e2 : wr.cell? ⟨b, m, none⟩ = w.cell? ⟨b, m, none⟩ := HR.out.cell (p := ⟨b, m, none⟩) HBW.out
        rw [e1, e2]
      rw [← hw2] at c0 c1 c2 c3 c4
      have hne : ¬ (b = W2.heap.size) := by have := hBR.size; have := HBW.out; omega
      have HBR := hide hBR
      have hbl : b < W2.heap.size := by have := hBR.size; have := HBW.out; omega
      have HX : ∀ (o' : Nat) (v : Value), W2.cell? ⟨b, o', none⟩ = some v → (W2.alloc (.cells #[.int .i64 f0, .int .i64 f1, .int .i64 f2, .int .i64 f3, .int .i64 f4] 32)).cell? ⟨b, o', none⟩ = some v := fun o' v h => by
        rw [← h]; exact World.cell?_alloc_lt _ _ _ hbl
      have d0 := HX _ _ c0
      have d1 := HX _ _ c1
      have d2 := HX _ _ c2
      have d3 := HX _ _ c3
      have d4 := HX _ _ c4
      have HBL := hide hbl
      clear hb2 hBR hw2 HX c0 c1 c2 c3 c4 hbl
      have hil : (i : Int) < n := by omega
      have hil0 : 0 ≤ (i : Int) := by omega
      go_wp2_with fail
      go_quiet (fail)
      go_wp2
      exact ⟨⟨i + 1, by omega, by simp, below_dN (HBR.out.alloc HBR.out.size _) _⟩, by simp [intOf]; omega⟩
    · obtain rfl : i = n := by omega
      have HR := hide hbr
      clear hbr
      go_wp2_with fail
      refine (law_awake.calls true _ rfl).mono ?_
      rintro e W' ⟨rfl, hb'⟩
      go_wp2
      go_ret
      exact ⟨rfl, HR.out.trans (hb'.mono HR.out.size)⟩
theorem back_calls (A : Option Addr) (cap : Nat) (xs : List S32) (w : World) (hc : Kd.C k32 w A xs.length xs) (hcap : xs.length ≤ cap) (hA : ∀ b o, 0 < xs.length → A = some ⟨b, o, none⟩ → b < w.heap.size) (hl : xs.length * 4 < 100000000000000) :
    Calls Try.prog 5 #[.slice A xs.length cap] w (BelowPost w (.bool true)) := by
  have HE := QArmDecodes.arm_Encode.calls (xs.length + 1) A cap xs (encRes (encAll xs)).1 (encRes (encAll xs)).2 w hc hcap (encode_eq xs hl _ (by omega))
  cases hbs : encAll xs with
  | none => rw [hbs] at HE; exact back_none A cap _ w (hide HE)
  | some bs => rw [hbs] at HE; exact back_some A cap xs w hc hA hl bs hbs (hide HE)
end Go.Proofs.Ythkbncoklgpobaa
