/- The reference's memory: what an address tells; condition: the memory is held. -/
import Derived.Test.YtmgocjclopfeeaaRK
import Derived.WalkSpells
import Derived.Laws.Cover3
set_option linter.unusedVariables false
set_option linter.unusedSimpArgs false
set_option linter.unusedSectionVars false
namespace Go.Proofs.Ytmgocjclopfeeaa
open Go.RowKit Go.MapKept

theorem rk_eqn (W : World) (A : Option Addr) (n c : Nat) : (binOp .eql 39 (.slice A n c) (.slice none 0 0)).run Try.prog W = .ok (.bool A.isNone) W := by
  simp only [binOp]
  simp [Op.equal, Op.maxDepth, Lib.run_equalIn_slice_nil W 9999 39 5 A n c 0 0 Try.underlying39]
theorem and_lo32' (x : Int) (h0 : 0 ≤ x) (h1 : x < 18446744073709551616) : bits BinOp.and IntKind.u64 x 4294967295 = x % 4294967296 := by
  have e0 : bits BinOp.and IntKind.u64 x 4294967295 = IntKind.u64.wrap (((BitVec.ofInt 64 x) &&& (BitVec.ofInt 64 4294967295)).toNat : Int) := rfl
  rw [e0, BitVec.toNat_and]
  have e1 : (BitVec.ofInt 64 x).toNat = x.toNat := by rw [BitVec.toNat_ofInt]; omega
  have e2 : (BitVec.ofInt 64 4294967295).toNat = 2 ^ 32 - 1 := by decide
  rw [e1, e2, Nat.and_two_pow_sub_one_eq_mod, IntKind.wrap_u64]
  omega
theorem wide_R (n : Int) (w : World) : Calls Try.prog 48 #[.int .i64 n] w (Tells w (.bool (sizedB n))) := by
  by_cases h1 : n = 1
  · subst h1
    go_enter Try.func48, Try.ntmps48
    go_wp2
    go_ret
    exact ⟨rfl, rfl⟩
  by_cases h2 : n = 2
  · subst h2
    go_enter Try.func48, Try.ntmps48
    go_wp2
    go_ret
    exact ⟨rfl, rfl⟩
  by_cases h4 : n = 4
  · subst h4
    go_enter Try.func48, Try.ntmps48
    go_wp2
    go_ret
    exact ⟨rfl, rfl⟩
  have e : sizedB n = (n == 8) := by simp [sizedB, h1, h2, h4]
  rw [e]
  have b1 : (n == 1) = false := by simpa using h1
  have b2 : (n == 2) = false := by simpa using h2
  have b4 : (n == 4) = false := by simpa using h4
  clear e h1 h2 h4
  go_enter Try.func48, Try.ntmps48
  go_wp2
  go_ret
  exact ⟨rfl, rfl⟩
def FirstPost (ls : List RE) (k : KA) (a : Nat) (w : World) (e : Ending) (w' : World) : Prop :=
  w = w' ∧ ((e = .returned (.pointer none) ∧ k.first a = none) ∨ ∃ i ent q, ls[i]? = some ent ∧ ent.a = some q ∧ hi32 a = i + 1 ∧ e = .returned (.pointer (some ⟨ent.r, 0, none⟩)) ∧ k.first a = some q)
set_option maxRecDepth 100000 in
set_option maxHeartbeats 1000000 in
theorem first_R {w : World} {x : Nat} {ls : List RE} {sv : Value} {k : KA} (h : RM w x ls sv k) (a : Nat) (h1 : a < 18446744073709551616) (hm : ls.length < 4294967296) :
    Calls Try.prog 52 #[.pointer (some ⟨x, 0, none⟩), .int .u64 a] w (FirstPost ls k a w) := by
  obtain ⟨z, hz⟩ : ∃ z : Int, z = a := ⟨_, rfl⟩
  rw [← hz]
  have hz0 : 0 ≤ z := by omega
  have hu := Try.underlying39
  have hnil := rk_eqn
  have hand := and_lo32' z hz0 (by omega)
  have hget := h.get (hi32 a)
  obtain ⟨A, cap, hsv, hel⟩ := h.form
  obtain ⟨c0, -, -, -⟩ := h.cells
  rw [hsv] at c0
  by_cases ho : z % 4294967296 = 0
  · have hb : (bits BinOp.and IntKind.u64 z 4294967295 != 0) = false := by rw [hand]; simp [ho]
    have hf : k.first a = k.get (hi32 a) := by unfold KA.first; rw [if_pos (by unfold lo32; omega)]
    rw [hget] at hf
    by_cases hn : z / 4294967296 < 1
    · have hq : wrap64 (z / 4294967296) = 0 := by unfold wrap64; omega
      have HP := hide (show FirstPost ls k a w (.returned (.pointer none)) w from ⟨rfl, .inl ⟨rfl, by rw [hf, if_neg (by unfold hi32; omega)]⟩⟩)
      clear hf hget hel hsv h hand ho hn h1 hz
      go_enter Try.func52, Try.ntmps52
      go_wp2
      go_ret
      exact HP.out
    · obtain ⟨i, hi⟩ : ∃ i : Nat, z / 4294967296 = (i : Int) + 1 := ⟨(z / 4294967296 - 1).toNat, by omega⟩
      have hq : wrap64 (z / 4294967296) = (i : Int) + 1 := by unfold wrap64; omega
      have hhi : hi32 a = i + 1 := by unfold hi32; omega
      rw [hhi, if_pos (by omega), Nat.add_sub_cancel] at hf
      by_cases hlt : i < ls.length
      · have hli := List.getElem?_eq_getElem hlt
        generalize ls[i] = ent at hli
        obtain ⟨g, rfl, hc⟩ := hel i ent hli
        have hrd := h.hr ent (List.mem_of_getElem? hli)
        have hi0 : (0 : Int) ≤ i := by omega
        have hi1 : (i : Int) < ls.length := by omega
        rw [hli, Option.bind_some] at hf
        rcases RE.reads hrd with ⟨ha, r0, -⟩ | ⟨q, ha, r0, -, -⟩
        · have HP := hide (show FirstPost ls k a w (.returned (.pointer none)) w from ⟨rfl, .inl ⟨rfl, by rw [hf, ha]⟩⟩)
          clear hf hget hel hsv h hand ho hn h1 hz hi hli ha hrd hhi
          go_enter Try.func52, Try.ntmps52
          go_wp2
          go_ret
          exact HP.out
        · have HP := hide (show FirstPost ls k a w (.returned (.pointer (some ⟨ent.r, 0, none⟩))) w from ⟨rfl, .inr ⟨i, ent, q, hli, ha, hhi, rfl, by rw [hf, ha]⟩⟩)
          clear hf hget hel hsv h hand ho hn h1 hz hi hli ha hrd hhi
          go_enter Try.func52, Try.ntmps52
          go_wp2
          go_ret
          exact HP.out
      · have hi1 : (ls.length : Int) < (i : Int) + 1 := by omega
        have HP := hide (show FirstPost ls k a w (.returned (.pointer none)) w from ⟨rfl, .inl ⟨rfl, by rw [hf, List.getElem?_eq_none (by omega)]; rfl⟩⟩)
        have hi0 : (0 : Int) ≤ i := by omega
        clear hf hget hel hsv h hand ho hn h1 hz hi hhi
        go_enter Try.func52, Try.ntmps52
        go_wp2
        go_ret
        exact HP.out
  · have hb : (bits BinOp.and IntKind.u64 z 4294967295 != 0) = true := by rw [hand]; simpa using ho
    have HP := hide (show FirstPost ls k a w (.returned (.pointer none)) w from ⟨rfl, .inl ⟨rfl, by unfold KA.first; rw [if_neg (by unfold lo32; omega)]⟩⟩)
    clear hget hel hsv h hand ho h1 hz
    go_enter Try.func52, Try.ntmps52
    go_wp2
    go_ret
    exact HP.out
theorem lo_facts (a : Nat) (h1 : a < 18446744073709551616) : bits BinOp.and IntKind.u64 (a : Int) 4294967295 = (lo32 a : Nat) ∧ lo32 a < 4294967296 := by
  rw [and_lo32' a (by omega) (by omega)]
  unfold lo32
  omega
set_option maxRecDepth 100000 in
theorem at_low {w : World} {x L : Nat} {A : Option Addr} {cap : Nat} {z n p : Int} (hz0 : 0 ≤ z) (c0 : w.cell? ⟨x, 0, none⟩ = some (.slice A L cap)) (hq : wrap64 (z / 4294967296) = 0) :
    Calls Try.prog 49 #[.pointer (some ⟨x, 0, none⟩), .int .u64 z, .int .i64 n, .int .i64 p] w fun e w' => e = .returned (.tuple #[.pointer none, .int .i64 0, .int .i64 20]) ∧ w = w' := by
  go_enter Try.func49, Try.ntmps49
  go_wp2
  go_ret3
  exact ⟨rfl, rfl⟩
set_option maxRecDepth 100000 in
theorem at_high {w : World} {x L i : Nat} {A : Option Addr} {cap : Nat} {z n p : Int} (hz0 : 0 ≤ z) (c0 : w.cell? ⟨x, 0, none⟩ = some (.slice A L cap)) (hq : wrap64 (z / 4294967296) = (i : Int) + 1) (hi0 : (0 : Int) ≤ i) (hi1 : (L : Int) < (i : Int) + 1) :
    Calls Try.prog 49 #[.pointer (some ⟨x, 0, none⟩), .int .u64 z, .int .i64 n, .int .i64 p] w fun e w' => e = .returned (.tuple #[.pointer none, .int .i64 0, .int .i64 20]) ∧ w = w' := by
  go_enter Try.func49, Try.ntmps49
  go_wp2
  go_ret3
  exact ⟨rfl, rfl⟩
section
variable {w : World} {x L i g r d len q cap : Nat} {z n p o : Int} (hz0 : 0 ≤ z) (c0 : w.cell? ⟨x, 0, none⟩ = some (.slice (some ⟨g, 0, none⟩) L cap)) (hq : wrap64 (z / 4294967296) = (i : Int) + 1) (hi0 : (0 : Int) ≤ i) (hi1 : (i : Int) < L) (hL : L < 4294967296)
  (hc : w.cell? ⟨g, i, none⟩ = some (.pointer (some ⟨r, 0, none⟩))) (hnil : ∀ (W : World) (A : Option Addr) (n c : Nat), (binOp .eql 39 (.slice A n c) (.slice none 0 0)).run Try.prog W = .ok (.bool A.isNone) W)
include hz0 c0 hq hi0 hi1 hL hc hnil
set_option maxRecDepth 100000 in
theorem at_freed (r0 : w.cell? ⟨r, 0, none⟩ = some (.slice none 0 0)) :
    Calls Try.prog 49 #[.pointer (some ⟨x, 0, none⟩), .int .u64 z, .int .i64 n, .int .i64 p] w fun e w' => e = .returned (.tuple #[.pointer none, .int .i64 0, .int .i64 21]) ∧ w = w' := by
  go_enter Try.func49, Try.ntmps49
  go_wp2
  go_ret3
  exact ⟨rfl, rfl⟩
variable (r0 : w.cell? ⟨r, 0, none⟩ = some (.slice (some ⟨d, 0, none⟩) len len)) (rp : w.cell? ⟨r, 1, none⟩ = some (.int .i64 q))
include r0 rp
set_option maxRecDepth 100000 in
theorem at_perm (hp1 : (p != 0) = true) (hp0 : (bits BinOp.and IntKind.i64 (q : Int) p == 0) = true) :
    Calls Try.prog 49 #[.pointer (some ⟨x, 0, none⟩), .int .u64 z, .int .i64 n, .int .i64 p] w fun e w' => e = .returned (.tuple #[.pointer none, .int .i64 0, .int .i64 23]) ∧ w = w' := by
  go_enter Try.func49, Try.ntmps49
  go_wp2
  go_ret3
  exact ⟨rfl, rfl⟩
variable (hlo : bits BinOp.and IntKind.u64 z 4294967295 = o) (ho0 : 0 ≤ o) (ho1 : o < 4294967296) (hn0 : 0 ≤ n) (hn1 : n ≤ 1048576) (hp : p = 0 ∨ ((p != 0) = true ∧ (bits BinOp.and IntKind.i64 (q : Int) p == 0) = false))
include hlo ho0 ho1 hn0 hn1 hp
set_option maxRecDepth 100000 in
theorem at_out (hb : (len : Int) < o + n) :
    Calls Try.prog 49 #[.pointer (some ⟨x, 0, none⟩), .int .u64 z, .int .i64 n, .int .i64 p] w fun e w' => e = .returned (.tuple #[.pointer none, .int .i64 0, .int .i64 22]) ∧ w = w' := by
  rcases hp with rfl | ⟨hp1, hp0⟩
  · go_enter Try.func49, Try.ntmps49
    go_wp2
    go_ret3
    exact ⟨rfl, rfl⟩
  · go_enter Try.func49, Try.ntmps49
    go_wp2
    go_ret3
    exact ⟨rfl, rfl⟩
set_option maxRecDepth 100000 in
theorem at_ok (hb : o + n ≤ (len : Int)) :
    Calls Try.prog 49 #[.pointer (some ⟨x, 0, none⟩), .int .u64 z, .int .i64 n, .int .i64 p] w fun e w' => e = .returned (.tuple #[.pointer (some ⟨r, 0, none⟩), .int .i64 o, .int .i64 0]) ∧ w = w' := by
  rcases hp with rfl | ⟨hp1, hp0⟩
  · go_enter Try.func49, Try.ntmps49
    go_wp2
    go_ret3
    exact ⟨rfl, rfl⟩
  · go_enter Try.func49, Try.ntmps49
    go_wp2
    go_ret3
    exact ⟨rfl, rfl⟩
end
/-- What an address tells. -/
def AtPost (ls : List RE) (k : KA) (a : Nat) (n p : Nat) (w : World) (e : Ending) (w' : World) : Prop :=
  w = w' ∧ ((∃ c, k.span a n p = .error c ∧ c ≠ 0 ∧ e = .returned (.tuple #[.pointer none, .int .i64 0, .int .i64 c])) ∨
    ∃ i ent q, ls[i]? = some ent ∧ ent.a = some q ∧ hi32 a = i + 1 ∧ k.span a n p = .ok q ∧ lo32 a + n ≤ q.bytes.length ∧ e = .returned (.tuple #[.pointer (some ⟨ent.r, 0, none⟩), .int .i64 (lo32 a : Nat), .int .i64 0]))
theorem AtPost.err {ls : List RE} {k : KA} {a n p : Nat} {w : World} {c : Int} (h : k.span a n p = .error c) (h0 : c ≠ 0) : ∀ e w', (e = .returned (.tuple #[.pointer none, .int .i64 0, .int .i64 c]) ∧ w = w') → AtPost ls k a n p w e w' := fun e w' ⟨h1, h2⟩ => ⟨h2, .inl ⟨c, h, h0, h1⟩⟩
theorem span_in (k : KA) (a i : Nat) (n : Int) (p : Nat) (h : hi32 a = i + 1) (hm : i < k.made) : k.span a n p = match k.get (i + 1) with | none => .error 21 | some r => if r.perm &&& p ≠ p then .error 23 else if (r.bytes.length : Int) - n < lo32 a then .error 22 else .ok r := by
  unfold KA.span
  rw [h, if_neg (by omega)]
  rfl
theorem perm_cases (q p : Nat) (hq : 1 ≤ q ∧ q ≤ 3) (hp : p ≤ 2) : (q &&& p ≠ p ∧ ((p : Int) != 0) = true ∧ (bits BinOp.and IntKind.i64 (q : Int) (p : Int) == 0) = true) ∨ (q &&& p = p ∧ ((p : Int) = 0 ∨ (((p : Int) != 0) = true ∧ (bits BinOp.and IntKind.i64 (q : Int) (p : Int) == 0) = false))) := by
  obtain rfl | rfl | rfl : q = 1 ∨ q = 2 ∨ q = 3 := by omega
  all_goals obtain rfl | rfl | rfl : p = 0 ∨ p = 1 ∨ p = 2 := by omega
  all_goals decide
theorem at_R {w : World} {x : Nat} {ls : List RE} {sv : Value} {k : KA} (h : RM w x ls sv k) (hw : WF k) (a : Nat) (h1 : a < 18446744073709551616) (n p : Nat) (hn : n ≤ 1048576) (hp : p ≤ 2) :
    Calls Try.prog 49 #[.pointer (some ⟨x, 0, none⟩), .int .u64 a, .int .i64 n, .int .i64 p] w (AtPost ls k a n p w) := by
  have hz0 : (0 : Int) ≤ a := by omega
  have hget := h.get (hi32 a)
  have hmd := h.md
  have hmx := hw.mx
  obtain ⟨A, cap, hsv, hel⟩ := h.form
  obtain ⟨c0, -, -, -⟩ := h.cells
  rw [hsv] at c0
  obtain ⟨hlo, hlo1⟩ := lo_facts a h1
  by_cases hq0 : hi32 a = 0
  · refine (at_low hz0 c0 ?_).mono (AtPost.err (by unfold KA.span; rw [if_pos (.inl hq0)]) (by decide))
    unfold hi32 at hq0
    unfold wrap64
    omega
  · obtain ⟨i, hi⟩ : ∃ i : Nat, hi32 a = i + 1 := ⟨hi32 a - 1, by omega⟩
    have hq : wrap64 ((a : Int) / 4294967296) = (i : Int) + 1 := by unfold hi32 at hi; unfold wrap64; omega
    by_cases hlt : i < ls.length
    · have hli := List.getElem?_eq_getElem hlt
      generalize ls[i] = ent at hli
      obtain ⟨g, rfl, hc⟩ := hel i ent hli
      have hrd := h.hr ent (List.mem_of_getElem? hli)
      rw [hi, if_pos (by omega), Nat.add_sub_cancel, hli, Option.bind_some] at hget
      have hsp := span_in k a i n p hi (by omega)
      rw [hget] at hsp
      rcases RE.reads hrd with ⟨ha, r0, -⟩ | ⟨q, ha, r0, rp, -⟩
      · rw [ha] at hsp
        exact (at_freed hz0 c0 hq (by omega) (by omega) (by omega) hc rk_eqn r0).mono (AtPost.err hsp (by decide))
      · rw [ha] at hsp
        simp only at hsp
        have hml := h.mem_live hli ha
        rcases perm_cases q.perm p (hw.pm _ hml) hp with ⟨q1, q2, q3⟩ | ⟨q1, q2⟩
        · rw [if_pos q1] at hsp
          exact (at_perm hz0 c0 hq (by omega) (by omega) (by omega) hc rk_eqn r0 rp q2 q3).mono (AtPost.err hsp (by decide))
        · rw [if_neg (fun c => c q1)] at hsp
          by_cases hb : (q.bytes.length : Int) < (lo32 a : Nat) + (n : Int)
          · rw [if_pos (by omega)] at hsp
            exact (at_out hz0 c0 hq (by omega) (by omega) (by omega) hc rk_eqn r0 rp hlo (by omega) (by omega) (by omega) (by omega) q2 hb).mono (AtPost.err hsp (by decide))
          · rw [if_neg (by omega)] at hsp
            exact (at_ok hz0 c0 hq (by omega) (by omega) (by omega) hc rk_eqn r0 rp hlo (by omega) (by omega) (by omega) (by omega) q2 (by omega)).mono fun e w' ⟨e1, e2⟩ => ⟨e2, .inr ⟨i, ent, q, hli, ha, hi, hsp, by omega, e1⟩⟩
    · exact (at_high hz0 c0 hq (by omega) (by omega)).mono (AtPost.err (by unfold KA.span; rw [if_pos (.inr (by omega))]) (by decide))
theorem at_R' {w : World} {x : Nat} {ls : List RE} {sv : Value} {k : KA} (h : RM w x ls sv k) (hw : WF k) {A N P : Int} (a n p : Nat) (hA : A = a) (hN : N = n) (hP : P = p) (h1 : a < 18446744073709551616) (hn : n ≤ 1048576) (hp : p ≤ 2) :
    Calls Try.prog 49 #[.pointer (some ⟨x, 0, none⟩), .int .u64 A, .int .i64 N, .int .i64 P] w (AtPost ls k a n p w) := by
  subst hA hN hP
  exact at_R h hw a h1 n p hn hp
end Go.Proofs.Ytmgocjclopfeeaa
