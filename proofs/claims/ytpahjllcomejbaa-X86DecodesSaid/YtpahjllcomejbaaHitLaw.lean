/- What the reference's guess finds is what lies there, and whatever lies there it finds; no condition beyond each lemma's own. -/
import Derived.Test.YtpahjllcomejbaaHit
import Derived.Test.YtpahjllcomejbaaDecSome
set_option linter.unusedVariables false
set_option linter.unusedSimpArgs false
namespace Go.Proofs.Ytpahjllcomejbaa
open Go.RowKit Go.MapKept
open Go.Proofs.YtpahjllcomejbaaW.PrintWords Go.Proofs.YtpahjllcomejbaaW.PrintLast Go.Proofs.YtpahjllcomejbaaW.PrintMore
open PX86Encodes (x86_reader_next.f x86_reader_imm.f x86_reader_long.f)

theorem mem_kcs (z : Int) : ∀ (K k : Nat), 1 ≤ k → k ≤ K → z ∈ szs k → ((k : Int), z) ∈ kcs K
  | 0, k, h1, h2, _ => by omega
  | K + 1, k, h1, h2, hz => by
    rw [kcs, List.mem_append]
    by_cases c : k = K + 1
    · subst c
      refine .inr (List.mem_map.2 ⟨z, hz, ?_⟩)
      simp
    · exact .inl (mem_kcs z K k h1 (by omega) hz)
theorem okB_cases (kd d s n i wd : Int) (h : okB kd d s n i wd ≠ []) : (layS kd d s n i wd).2 = false ∧ okB kd d s n i wd = (layS kd d s n i wd).1 := by
  unfold okB at h ⊢
  by_cases c : (layS kd d s n i wd).2 = true
  · rw [if_pos c] at h; exact absurd rfl h
  · rw [if_neg c]; exact ⟨by simpa using c, rfl⟩
def stX (y : X6) : PX86Encodes.S32 := ⟨y.1, y.2.1, y.2.2.1, y.2.2.2.1, y.2.2.2.2.1, y.2.2.2.2.2⟩
theorem hit_sound (k0 k1 : Int) (sb : List Int) (hl : ByteL sb) (d r : Int) (y : X6) (h : hit k0 k1 sb d r = some y) :
    goodX (stX y) = true ∧ (layX (stX y)).1 = okX y ∧ okX y ≠ [] ∧ okX y = sb.take (okX y).length ∧ 0 ≤ y.2.2.2.2.2 ∧ y.2.2.2.2.2 < 18446744073709551616 := by
  unfold hit at h
  split at h
  · cases h
  · rename_i hc
    have hc1 : okX (bareS k0 d r k1 0 0) ≠ [] := fun e => hc (.inl e)
    have hc2 : (okX (bareS k0 d r k1 0 0)).length ≤ sb.length := Nat.le_of_not_lt fun e => hc (.inr e)
    split at h
    · rename_i he
      have hy := Option.some.inj h
      have hlb : ByteL (sb.take (okX (bareS k0 d r k1 0 0)).length) := fun b hb => hl b (List.mem_of_mem_take hb)
      have hown := own_fill (bareS k0 d r k1 0 0) (sb.take (okX (bareS k0 d r k1 0 0)).length) (own_bare _ _ _ _ _ _)
      have hwd : 0 ≤ (fillS (bareS k0 d r k1 0 0) (sb.take (okX (bareS k0 d r k1 0 0)).length)).2.2.2.2.2 ∧ (fillS (bareS k0 d r k1 0 0) (sb.take (okX (bareS k0 d r k1 0 0)).length)).2.2.2.2.2 < 18446744073709551616 := by
        have hb : (bareS k0 d r k1 0 0).2.2.2.2.2 = 0 := by unfold bareS; (repeat' split) <;> rfl
        unfold fillS
        split
        · exact tailV_range _ hlb 8 (by omega)
        · split
          · dsimp only; rw [hb]; omega
          · rw [hb]; omega
      rw [hy] at he hown hwd
      have hlen : (okX y).length = (okX (bareS k0 d r k1 0 0)).length := by rw [he, List.length_take, Nat.min_eq_left hc2]
      have hne : okX y ≠ [] := fun e => by rw [e] at hlen; exact hc1 (List.eq_nil_of_length_eq_zero hlen.symm)
      obtain ⟨g1, g2⟩ := okB_cases _ _ _ _ _ _ hne
      refine ⟨?_, g2.symm, hne, by rw [hlen]; exact he, hwd⟩
      unfold goodX
      rw [Bool.and_eq_true, Bool.not_eq_true', sameX_iff]
      exact ⟨g1, hown.symm⟩
    · cases h
theorem hit_fits (k0 k1 : Int) (sb : List Int) (d r : Int) (y : X6) (h : hit k0 k1 sb d r = some y) : fits32 y.2.2.2.2.1 = true := by
  unfold hit at h
  split at h
  · cases h
  · split at h
    · have hy := Option.some.inj h
      rw [← hy]
      have hb : (bareS k0 d r k1 0 0).2.2.2.2.1 = 0 := by unfold bareS; (repeat' split) <;> rfl
      unfold fillS
      split
      · dsimp only; rw [hb]; rfl
      · split
        · exact fits32_of _
        · rw [hb]; rfl
    · cases h
theorem lay_imm (kd d s n : Int) (hk : immK kd) : ∃ (pre : List Int) (bad : Bool), ∀ i wd, layS kd d s n i wd = (pre ++ b4 i, bad || !fits32 i) := by
  unfold immK at hk
  rcases hk with rfl | rfl | rfl | rfl | rfl
  · exact ⟨[233], false, fun i wd => by simp [layS, twoB, oneB]⟩
  · exact ⟨[15, 128 + d % 16], !okCond d, fun i wd => by simp [layS, twoB, oneB]⟩
  · exact ⟨[rexB (readsB n false).1 d s] ++ (readsB n false).2 ++ ([128 + d % 8 * 8 + s % 8] ++ (if s % 8 = 4 then [36] else [])), out2 d s || ((readsB n false).2 == []), fun i wd => by simp [layS, twoB, oneB, memB]⟩
  · exact ⟨[rexB (readsB n true).1 d s] ++ (readsB n true).2 ++ ([128 + d % 8 * 8 + s % 8] ++ (if s % 8 = 4 then [36] else [])), out2 d s || ((readsB n true).2 == []), fun i wd => by simp [layS, twoB, oneB, memB]⟩
  · exact ⟨(if n = 2 then [102] else []) ++ [rexB (n == 8) s d] ++ [if n = 1 then 136 else 137] ++ ([128 + s % 8 * 8 + d % 8] ++ (if d % 8 = 4 then [36] else [])), out2 d s || !okSize n, fun i wd => by simp [layS, twoB, oneB, memB, storeB]⟩
theorem lay_plain (kd d s n i wd i' wd' : Int) (hk : ¬ immK kd) (h2 : kd ≠ 2) : layS kd d s n i wd = layS kd d s n i' wd' := by
  unfold immK at hk
  unfold layS
  have : kd ≠ 18 ∧ kd ≠ 19 ∧ kd ≠ 20 ∧ kd ≠ 21 ∧ kd ≠ 22 := by omega
  obtain ⟨a, b, c, e, f⟩ := this
  simp only [a, b, c, e, f, h2, if_false]
theorem take_pre {l : List Int} {sb : List Int} (h : l = sb.take l.length) (hn : l ≠ []) : l.length ≤ sb.length := by
  have := congrArg List.length h
  rw [List.length_take] at this
  omega
theorem tailV_app (a b : List Int) (n : Nat) (h : b.length = n) : tailV (a ++ b) n = leV b := by
  unfold tailV
  rw [if_neg (by simp; omega)]
  congr 1
  rw [List.drop_append_of_le_length (by simp; omega)]
  have : (a ++ b).length - n = a.length := by simp; omega
  rw [this, List.drop_length, List.nil_append]
/-- A good instruction whose bytes begin the text is met at its own registers. -/
theorem hit_own (kd d s n i wd : Int) (sb : List Int) (hb : bareS kd d s n i wd = (kd, d, s, n, i, wd)) (hq : (layS kd d s n i wd).2 = false) (hne : (layS kd d s n i wd).1 ≠ [])
    (hw : 0 ≤ wd ∧ wd < 18446744073709551616) (ht : (layS kd d s n i wd).1 = sb.take (layS kd d s n i wd).1.length) : hit kd n sb d s = some (kd, d, s, n, i, wd) := by
  have hm := take_pre ht hne
  have hokx : okX (kd, d, s, n, i, wd) = (layS kd d s n i wd).1 := by unfold okX okB; rw [if_neg (by rw [hq]; simp)]
  have key : bareS kd d s n 0 0 = (kd, d, s, n, 0, 0) ∧ (layS kd d s n 0 0).2 = false ∧ (layS kd d s n 0 0).1.length = (layS kd d s n i wd).1.length ∧ fillS (kd, d, s, n, 0, 0) (layS kd d s n i wd).1 = (kd, d, s, n, i, wd) := by
    by_cases c2 : kd = 2
    · subst c2
      simp [bareS] at hb
      obtain ⟨rfl, rfl, rfl⟩ := hb
      have e : ∀ v, layS 2 d 0 0 0 v = ([rexB true 0 d, 184 + d % 8] ++ leB v 8, outReg d) := fun v => by simp [layS, twoB, oneB]
      rw [e wd] at hq
      refine ⟨by simp [bareS], by rw [e]; exact hq, by rw [e, e wd]; simp [leB], ?_⟩
      obtain ⟨N, rfl⟩ := Int.eq_ofNat_of_zero_le hw.1
      unfold fillS
      rw [if_pos rfl, e (N : Int)]
      dsimp only
      rw [tailV_app _ _ 8 (by simp [leB]), leV_leB]
      have : N % 2 ^ (8 * 8) = N := Nat.mod_eq_of_lt (by have := hw.2; omega)
      rw [this]
    · by_cases ci : immK kd
      · obtain ⟨pre, bad, e⟩ := lay_imm kd d s n ci
        rw [e i wd] at hq
        have hbad : bad = false ∧ fits32 i = true := by simpa using hq
        have hz : wd = 0 ∧ bareS kd d s n 0 0 = (kd, d, s, n, 0, 0) := by
          unfold immK at ci
          clear hne ht hm hokx hq e hbad
          rcases ci with rfl | rfl | rfl | rfl | rfl <;> (simp [bareS] at hb ⊢; omega)
        obtain ⟨rfl, hz⟩ := hz
        refine ⟨hz, by rw [e, hbad.1]; rfl, by rw [e, e i]; simp [b4], ?_⟩
        unfold fillS
        rw [if_neg c2, if_pos ci, e i]
        dsimp only
        rw [tailV_app _ _ 4 rfl, leV_b4, fits32_eq hbad.2]
      · rw [lay_plain kd d s n 0 0 i wd ci c2]
        have hz : i = 0 ∧ wd = 0 := by
          unfold immK at ci
          have hh : kd ≠ 21 ∧ kd ≠ 22 ∧ kd ≠ 18 ∧ kd ≠ 19 ∧ kd ≠ 20 := by omega
          clear hne ht hm hokx hq
          unfold bareS at hb
          (repeat' split at hb) <;> first | omega | (simp only [Prod.mk.injEq] at hb; omega)
        obtain ⟨rfl, rfl⟩ := hz
        refine ⟨hb, hq, rfl, ?_⟩
        unfold fillS
        rw [if_neg c2, if_neg ci]
  obtain ⟨k1, k2, k3, k4⟩ := key
  have hok0 : okX (kd, d, s, n, 0, 0) = (layS kd d s n 0 0).1 := by unfold okX okB; rw [if_neg (by rw [k2]; simp)]
  have hlen : (okX (kd, d, s, n, 0, 0)).length = (layS kd d s n i wd).1.length := by rw [hok0, k3]
  have hpos : 0 < (layS kd d s n i wd).1.length := List.length_pos_iff.2 hne
  unfold hit
  rw [k1, hlen, ← ht, k4, hokx, if_neg, if_pos rfl]
  rintro (h | h)
  · rw [h] at hlen
    have : (layS kd d s n i wd).1.length = 0 := hlen.symm
    omega
  · omega
theorem reads_size (n : Int) (g : Bool) (h : (readsB n g).2 ≠ []) : n = 1 ∨ n = 2 ∨ n = 4 ∨ (n = 8 ∧ g = false) := by
  unfold readsB at h
  by_cases c1 : n = 8 ∧ g = false
  · exact .inr (.inr (.inr c1))
  by_cases c2 : n = 4
  · exact .inr (.inr (.inl c2))
  by_cases c3 : n = 2
  · exact .inr (.inl c3)
  by_cases c4 : n = 1
  · exact .inl c4
  · simp [c1, c2, c3, c4] at h
theorem reg_of {d : Int} (h : outReg d = false) : 0 ≤ d ∧ d < 16 := by simp [outReg] at h; omega
theorem regs_of {d s : Int} (h : out2 d s = false) : (0 ≤ d ∧ d < 16) ∧ (0 ≤ s ∧ s < 16) := by simp [out2] at h; exact ⟨reg_of h.1, reg_of h.2⟩
theorem good_kind (kd d s n i wd : Int) (hb : bareS kd d s n i wd = (kd, d, s, n, i, wd)) (hq : (layS kd d s n i wd).2 = false) :
    (1 ≤ kd ∧ kd ≤ 29) ∧ n ∈ szs kd ∧ (0 ≤ d ∧ d < 16) ∧ (0 ≤ s ∧ s < 16) := by
  by_cases hk : 1 ≤ kd ∧ kd ≤ 29
  · refine ⟨hk, ?_⟩
    rcases (show (kd = 1 ∨ kd = 3 ∨ kd = 4 ∨ kd = 5 ∨ kd = 6 ∨ kd = 7 ∨ kd = 8 ∨ kd = 9 ∨ kd = 10) ∨ (kd = 11 ∨ kd = 12 ∨ kd = 13 ∨ kd = 14 ∨ kd = 15 ∨ kd = 16 ∨ kd = 23 ∨ kd = 24 ∨ kd = 25) ∨ (kd = 17 ∨ kd = 28 ∨ kd = 29) ∨ kd = 2 ∨ kd = 21 ∨ kd = 22 ∨ kd = 18 ∨ kd = 19 ∨ kd = 20 ∨ kd = 26 ∨ kd = 27 by omega) with h | h | h | rfl | rfl | rfl | rfl | rfl | rfl | rfl | rfl
    · rcases h with rfl | rfl | rfl | rfl | rfl | rfl | rfl | rfl | rfl <;>
      · simp [bareS] at hb
        obtain ⟨rfl, rfl, rfl⟩ := hb
        simp [layS, twoB, oneB] at hq
        exact ⟨by simp [szs], regs_of hq⟩
    · rcases h with rfl | rfl | rfl | rfl | rfl | rfl | rfl | rfl | rfl <;>
      · simp [bareS] at hb
        obtain ⟨rfl, rfl, rfl, rfl⟩ := hb
        simp [layS, twoB, oneB] at hq
        exact ⟨by simp [szs], reg_of hq, by omega⟩
    · rcases h with rfl | rfl | rfl <;>
      · simp [bareS] at hb
        obtain ⟨rfl, rfl, rfl, rfl, rfl⟩ := hb
        exact ⟨by simp [szs], by omega, by omega⟩
    · simp [bareS] at hb
      obtain ⟨rfl, rfl, rfl⟩ := hb
      simp [layS, twoB, oneB] at hq
      exact ⟨by simp [szs], reg_of hq, by omega⟩
    · simp [bareS] at hb
      obtain ⟨rfl, rfl, rfl, rfl⟩ := hb
      exact ⟨by simp [szs], by omega, by omega⟩
    · simp [bareS] at hb
      obtain ⟨rfl, rfl, rfl⟩ := hb
      simp [layS, twoB, oneB, okCond] at hq
      exact ⟨by simp [szs], by omega, by omega⟩
    · simp [layS, twoB, oneB] at hq
      have h2 := reads_size n false hq.1.2
      refine ⟨?_, regs_of hq.1.1⟩
      rcases h2 with rfl | rfl | rfl | ⟨rfl, _⟩ <;> simp [szs]
    · simp [layS, twoB, oneB] at hq
      have h2 := reads_size n true hq.1.2
      refine ⟨?_, regs_of hq.1.1⟩
      rcases h2 with rfl | rfl | rfl | ⟨rfl, h⟩ <;> first | (simp [szs]; done) | cases h
    · simp [layS, twoB, oneB, okSize] at hq
      refine ⟨?_, regs_of hq.1.1⟩
      have := hq.1.2
      rcases (show n = 1 ∨ n = 2 ∨ n = 4 ∨ n = 8 by omega) with rfl | rfl | rfl | rfl <;> simp [szs]
    · simp [layS, twoB, oneB] at hq
      refine ⟨?_, regs_of hq.1.1⟩
      rcases (show n = 2 ∨ n = 4 by omega) with rfl | rfl <;> simp [szs]
    · simp [layS, twoB, oneB] at hq
      have h2 := reads_size n true hq.2
      refine ⟨?_, regs_of hq.1⟩
      rcases h2 with rfl | rfl | rfl | ⟨rfl, h⟩ <;> first | (simp [szs]; done) | cases h
  · exfalso
    have t : twoB kd = 0 := twoB_zero kd (by omega)
    have o : oneB kd = (0, 0) := oneB_zero kd (by omega)
    unfold layS at hq
    rw [t, o] at hq
    simp at hq
    have : kd ≠ 18 ∧ kd ≠ 19 ∧ kd ≠ 26 ∧ kd ≠ 27 ∧ kd ≠ 20 ∧ kd ≠ 2 ∧ kd ≠ 10 ∧ kd ≠ 17 ∧ kd ≠ 21 ∧ kd ≠ 22 ∧ kd ≠ 23 ∧ kd ≠ 24 ∧ kd ≠ 25 ∧ kd ≠ 28 ∧ kd ≠ 29 := by omega
    obtain ⟨a1, a2, a3, a4, a5, a6, a7, a8, a9, b1, b2, b3, b4, b5, b6⟩ := this
    simp [a1, a2, a3, a4, a5, a6, a7, a8, a9, b1, b2, b3, b4, b5, b6] at hq
theorem lay_len12 (kd d s n i wd : Int) : (layS kd d s n i wd).1.length ≤ 12 := by
  have h1 := memB_len d s i
  have h2 := memB_len s d i
  have h3 := readsB_len n false
  have h4 := readsB_len n true
  have h5 : (leB wd 8).length = 8 := by simp [leB]
  have h6 : (storeB d s n i).length ≤ 12 := by unfold storeB; split <;> simp <;> omega
  have it : ∀ {c : Prop} [Decidable c] {a b : List Int × Bool}, a.1.length ≤ 12 → b.1.length ≤ 12 → (if c then a else b).1.length ≤ 12 := fun ha hb => by split <;> assumption
  unfold layS
  repeat' (refine it ?_ ?_)
  all_goals first
    | (simp [b4_len]; done)
    | (simp [b4_len]; omega)
    | (simp; omega)
/-- A good instruction that begins a text is found. -/
theorem hit_complete (x : PX86Encodes.S32) (sb : List Int) (hg : goodX x = true) (h5 : 0 ≤ x.f5 ∧ x.f5 < 18446744073709551616) (hne : (layX x).1 ≠ []) (ht : (layX x).1 = sb.take (layX x).1.length) :
    ∃ p ∈ kcs 29, ∃ d r : Nat, d < 16 ∧ r < 16 ∧ hit p.1 p.2 sb d r ≠ none := by
  obtain ⟨g1, g2⟩ := good_bare x hg
  obtain ⟨⟨a1, a2⟩, a3, a4, a5⟩ := good_kind _ _ _ _ _ _ g2 g1
  obtain ⟨K, hK⟩ := Int.eq_ofNat_of_zero_le (show 0 ≤ x.f0 by omega)
  obtain ⟨D, hD⟩ := Int.eq_ofNat_of_zero_le a4.1
  obtain ⟨R, hR⟩ := Int.eq_ofNat_of_zero_le a5.1
  refine ⟨(x.f0, x.f3), ?_, D, R, by omega, by omega, ?_⟩
  · rw [hK] at a3 ⊢
    exact mem_kcs x.f3 29 K (by omega) (by omega) a3
  · have := hit_own x.f0 x.f1 x.f2 x.f3 x.f4 x.f5 sb g2 g1 hne h5 ht
    rw [← hD, ← hR, this]
    simp
/-- What x86.Decode tells of a place within a text. -/
def Rdec (s : ByteArray) (a : Int) : X6 × Int × Int :=
  match readX 20 s a with
  | some (r1, r2, r3, r4, r5, r6, _, a2, e2) => decE s a ⟨r1, r2, r3, r4, r5, r6⟩ a2 e2
  | none => ((0, 0, 0, 0, 0, 0), 0, 30)
theorem rdec_calls (s : ByteArray) (hs : s.size ≤ 9223372036854775807) (a : Int) (ha : 0 ≤ a ∧ a < s.size) (W : World) : Calls Try.prog 9 #[.string s, .int .i64 a] W (DecPost W (Rdec s a)) := by
  obtain ⟨r1, r2, r3, r4, r5, r6, a2, e2, h0, h1, h2, h3⟩ := readX_some hs a ⟨ha.1, by omega⟩
  unfold Rdec
  rw [h0]
  exact decode_calls 20 s a a2 e2 r1 r2 r3 r4 r5 r6 W hs ha h0 (fun _ => ⟨h1, h2.2⟩) h3
theorem rdec_hit (x : PX86Encodes.S32) (hg : goodX x = true) (h5 : 0 ≤ x.f5 ∧ x.f5 < 18446744073709551616) (pre rest : List Int) (hl : ByteL (pre ++ (layX x).1 ++ rest)) (hs : (pre ++ (layX x).1 ++ rest).length ≤ 9223372036854775807) :
    Rdec (strOfNums (pre ++ (layX x).1 ++ rest)) pre.length = (sx x, (((layX x).1.length : Nat) : Int), 0) := by
  have hsz : (strOfNums (pre ++ (layX x).1 ++ rest)).size = (pre ++ (layX x).1 ++ rest).length := strOfNums_size _
  obtain ⟨g1, g2⟩ := good_bare x hg
  have hat := at_str pre ((layX x).1 ++ rest) [] (by simpa using hl)
  rw [List.append_nil, ← List.append_assoc] at hat
  have hr := read_all (s := strOfNums (pre ++ (layX x).1 ++ rest)) (by rw [hsz]; exact hs) 20 (by omega) x.f0 x.f1 x.f2 x.f3 x.f4 x.f5 g2 g1 h5 pre.length rest hat
  unfold Rdec
  rw [hr]
  show decE (strOfNums (pre ++ (layX x).1 ++ rest)) pre.length x (pre.length + ((layX x).1.length : Nat)) false = _
  unfold decE
  have e1 : encR (encX [x]) = (strOfNums (layX x).1, 0) := by rw [encX_one x hg]; rfl
  have e2 : ((pre.length : Int) + ((layX x).1.length : Nat)).toNat = pre.length + (layX x).1.length := by omega
  have e3 : ((pre.length : Int)).toNat = pre.length := by omega
  rw [e1, e2, e3, ext_str, if_pos ⟨rfl, rfl, rfl⟩, Nat.add_sub_cancel_left]
end Go.Proofs.Ytpahjllcomejbaa
