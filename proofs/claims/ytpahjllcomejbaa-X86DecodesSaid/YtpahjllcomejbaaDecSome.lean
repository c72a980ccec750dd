/- Several texts of this claim in one: each is told where it begins. -/
import Derived.Test.YtpahjllcomejbaaCod2
import Derived.Test.YtpahjllcomejbaaReadAll
/- The reference's kinds: all kinds with their sizes, as a list; no condition. -/
set_option linter.unusedVariables false
set_option linter.unusedSimpArgs false
namespace Go.Proofs.Ytpahjllcomejbaa
open Go.RowKit Go.MapKept

/-- The sizes of a kind. -/
def szs (k : Int) : List Int := if k = 18 ∨ k = 20 then [1, 2, 4, 8] else if k = 19 ∨ k = 27 then [1, 2, 4] else if k = 26 then [2, 4] else [0]
def kcs : Nat → List (Int × Int)
  | 0 => []
  | k + 1 => kcs k ++ (szs (k + 1)).map fun z => ((k : Int) + 1, z)
def kcell (l : List (Int × Int)) : List Value := l.flatMap fun p => [Value.int .i64 p.1, Value.int .i64 p.2]
theorem kcell_append (a b : List (Int × Int)) : kcell (a ++ b) = kcell a ++ kcell b := by simp [kcell]
theorem kcell_one (l : List (Int × Int)) : ∀ u ∈ kcell l, u.oneCell' = true := by
  intro u hu
  simp [kcell] at hu
  obtain ⟨a, b, _, rfl | rfl⟩ := hu <;> rfl
theorem kcs_len : ∀ k, (kcs k).length ≤ 4 * k
  | 0 => by simp [kcs]
  | k + 1 => by
    have := kcs_len k
    have : (szs (k + 1)).length ≤ 4 := by unfold szs; split <;> (try split) <;> (try split) <;> simp
    simp [kcs]
    omega
theorem k57_info : (Try.prog.info? 57).map (fun i => (i.zero, i.size, i.bytes)) = some (some (.agg #[.int .i64 0, .int .i64 0]), 2, 16) := by kernel_rfl
theorem k53_und : Try.prog.underlying 53 = some (.slice 57) := by kernel_rfl
theorem fr_own {w w1 w2 : World} {row : Option Nat} (h : Fr [] [] w w1) (g : w1.grownBy w2 row) (hr : ∀ b, row = some b → w.heap.size ≤ b) : Fr [] [] w w2 :=
  ⟨g.os.trans h.os, g.tape.trans h.tape, g.output.trans h.output, Nat.le_trans h.size g.size, fun k hk hn => by
    rw [g.block k (Nat.lt_of_lt_of_le hk h.size) (fun e => by have := hr k e.symm; omega), h.block k hk hn], fun _ hk => by simp at hk⟩
theorem own_base {w : World} {base e size n : Nat} {v : Value} {xs : List Value} (h : w.ownsRow base e size v n xs) : ∀ b, v.ownBlock = some b → base ≤ b := by
  intro b hb
  rcases h.2 with ⟨rfl, _⟩ | ⟨g, cap, cur, rfl, h1, _⟩
  · cases hb
  · cases hb; exact h1
def KRel (w : World) (v2 v1 : Value) (wr : World) : Prop := ∃ k : Nat, k ≤ 29 ∧ v2 = .int .i64 ((k : Int) + 1) ∧ wr.ownsRow w.heap.size 57 2 v1 (kcs k).length (kcell (kcs k)) ∧ Fr [] [] w wr
def KindsPost (w : World) (e : Ending) (W : World) : Prop := ∃ v, e = .returned v ∧ W.ownsRow w.heap.size 57 2 v (kcs 29).length (kcell (kcs 29)) ∧ Fr [] [] w W
theorem kind_cells (W : World) (l : List (Int × Int)) (C : Array Value) (B : Nat) (hB : W.heap.size = B) (hC : (kcell l).toArray = C) (T : Nat) : ∀ j u, (kcell l)[j]? = some u → (W.alloc (.cells C T)).cell? ((⟨B, 0, none⟩ : Addr).add j) = some u := by
  intro j u hu
  subst hB hC
  have e : (⟨W.heap.size, 0, none⟩ : Addr).add j = ⟨W.heap.size, j, none⟩ := by
    unfold Addr.add; split <;> simp_all
  rw [e, cell_at (heap_alloc_new W _) j]
  simpa using hu
theorem kinds_step (k : Nat) (l : List Int) (h : szs (k + 1) = l) : kcs (k + 1) = kcs k ++ l.map fun z => ((k : Int) + 1, z) := by rw [kcs, h]
set_option maxRecDepth 100000 in
set_option maxHeartbeats 2000000 in
theorem kinds_calls (w : World) : Calls Try.prog 18 #[] w (KindsPost w) := by
  obtain ⟨i0, hi, hz0, hz1, hz2⟩ := info_parts k57_info
  go_enter Try.func18, Try.ntmps18
  go_wp2_with fail
  go_loopw [2, 1] (fun v2 v1 wr => KRel w v2 v1 wr) (fun v _ _ => 31 - (intOf v).toNat)
  case atStart => exact ⟨0, by omega, rfl, World.ownsRow_nil _ _ _ _, Fr.refl _ _⟩
  case round =>
    obtain ⟨k, hk, rfl, ho, hfr⟩ := hrel
    by_cases hlt : k < 29
    · have hk0 : (0 : Int) ≤ k := by omega
      have hk1 : (k : Int) < 29 := by omega
      rcases (show k = 17 ∨ k = 19 ∨ k = 18 ∨ k = 26 ∨ k = 25 ∨ ¬ (k = 17 ∨ k = 19 ∨ k = 18 ∨ k = 26 ∨ k = 25) by omega) with hkt | hkt | hkt | hkt | hkt | hkt
      · subst hkt
        have HL := kcs_len 17
        have HC := hide (kind_cells wr ([(18, 1), (18, 2), (18, 4), (18, 8)]) #[.int .i64 18, .int .i64 1, .int .i64 18, .int .i64 2, .int .i64 18, .int .i64 4, .int .i64 18, .int .i64 8] wr.heap.size rfl rfl 57)
        have HO := hide ho
        have HF := hide hfr
        have HST : Hid (kcs (17 + 1) = kcs 17 ++ [(18, 1), (18, 2), (18, 4), (18, 8)]) := hide (kinds_step 17 [1, 2, 4, 8] (by unfold szs; rw [if_pos (by omega)]))
        have HN : Hid ((kcs 17).length ≤ 200) := hide (by omega)
        clear ho hfr
        go_wp2_with (at_builtin; refine wpList_append_own_at _ rfl _ _ 53 rfl w.heap.size 57 i0 _ 2 16 k53_und hi hz0 hz1 hz2 rfl (by decide) _ _ _ rfl (HO.out.alloc _) ⟨wr.heap.size, 0, none⟩ 4 4 (kcell ([(18, 1), (18, 2), (18, 4), (18, 8)])) rfl rfl HC.out (kcell_one _) (by have := HN.out; unfold maxLen; omega) (by have := HN.out; omega) (by have := HF.out.size; simp; omega) ?_; intro v1 w1 hown1 hg1 _ hat1; have HR : Hid (KRel w (.int .i64 19) v1 w1) := hide ⟨17 + 1, by omega, by simp, by rw [HST.out, kcell_append, List.length_append]; exact hown1, fr_own (HF.out.alloc' _) hg1 (fun b hb => own_base HO.out b hb)⟩; clear hown1 hg1 hat1)
        go_wp2
        exact ⟨HR.out, by simp [intOf] <;> omega⟩
      · subst hkt
        have HL := kcs_len 19
        have HC := hide (kind_cells wr ([(20, 1), (20, 2), (20, 4), (20, 8)]) #[.int .i64 20, .int .i64 1, .int .i64 20, .int .i64 2, .int .i64 20, .int .i64 4, .int .i64 20, .int .i64 8] wr.heap.size rfl rfl 57)
        have HO := hide ho
        have HF := hide hfr
        have HST : Hid (kcs (19 + 1) = kcs 19 ++ [(20, 1), (20, 2), (20, 4), (20, 8)]) := hide (kinds_step 19 [1, 2, 4, 8] (by unfold szs; rw [if_pos (by omega)]))
        have HN : Hid ((kcs 19).length ≤ 200) := hide (by omega)
        clear ho hfr
        go_wp2_with (at_builtin; refine wpList_append_own_at _ rfl _ _ 53 rfl w.heap.size 57 i0 _ 2 16 k53_und hi hz0 hz1 hz2 rfl (by decide) _ _ _ rfl (HO.out.alloc _) ⟨wr.heap.size, 0, none⟩ 4 4 (kcell ([(20, 1), (20, 2), (20, 4), (20, 8)])) rfl rfl HC.out (kcell_one _) (by have := HN.out; unfold maxLen; omega) (by have := HN.out; omega) (by have := HF.out.size; simp; omega) ?_; intro v1 w1 hown1 hg1 _ hat1; have HR : Hid (KRel w (.int .i64 21) v1 w1) := hide ⟨19 + 1, by omega, by simp, by rw [HST.out, kcell_append, List.length_append]; exact hown1, fr_own (HF.out.alloc' _) hg1 (fun b hb => own_base HO.out b hb)⟩; clear hown1 hg1 hat1)
        go_wp2
        exact ⟨HR.out, by simp [intOf] <;> omega⟩
      · subst hkt
        have HL := kcs_len 18
        have HC := hide (kind_cells wr ([(19, 1), (19, 2), (19, 4)]) #[.int .i64 19, .int .i64 1, .int .i64 19, .int .i64 2, .int .i64 19, .int .i64 4] wr.heap.size rfl rfl 57)
        have HO := hide ho
        have HF := hide hfr
        have HST : Hid (kcs (18 + 1) = kcs 18 ++ [(19, 1), (19, 2), (19, 4)]) := hide (kinds_step 18 [1, 2, 4] (by unfold szs; rw [if_neg (by omega), if_pos (by omega)]))
        have HN : Hid ((kcs 18).length ≤ 200) := hide (by omega)
        clear ho hfr
        go_wp2_with (at_builtin; refine wpList_append_own_at _ rfl _ _ 53 rfl w.heap.size 57 i0 _ 2 16 k53_und hi hz0 hz1 hz2 rfl (by decide) _ _ _ rfl (HO.out.alloc _) ⟨wr.heap.size, 0, none⟩ 3 3 (kcell ([(19, 1), (19, 2), (19, 4)])) rfl rfl HC.out (kcell_one _) (by have := HN.out; unfold maxLen; omega) (by have := HN.out; omega) (by have := HF.out.size; simp; omega) ?_; intro v1 w1 hown1 hg1 _ hat1; have HR : Hid (KRel w (.int .i64 20) v1 w1) := hide ⟨18 + 1, by omega, by simp, by rw [HST.out, kcell_append, List.length_append]; exact hown1, fr_own (HF.out.alloc' _) hg1 (fun b hb => own_base HO.out b hb)⟩; clear hown1 hg1 hat1)
        go_wp2
        exact ⟨HR.out, by simp [intOf] <;> omega⟩
      · subst hkt
        have HL := kcs_len 26
        have HC := hide (kind_cells wr ([(27, 1), (27, 2), (27, 4)]) #[.int .i64 27, .int .i64 1, .int .i64 27, .int .i64 2, .int .i64 27, .int .i64 4] wr.heap.size rfl rfl 57)
        have HO := hide ho
        have HF := hide hfr
        have HST : Hid (kcs (26 + 1) = kcs 26 ++ [(27, 1), (27, 2), (27, 4)]) := hide (kinds_step 26 [1, 2, 4] (by unfold szs; rw [if_neg (by omega), if_pos (by omega)]))
        have HN : Hid ((kcs 26).length ≤ 200) := hide (by omega)
        clear ho hfr
        go_wp2_with (at_builtin; refine wpList_append_own_at _ rfl _ _ 53 rfl w.heap.size 57 i0 _ 2 16 k53_und hi hz0 hz1 hz2 rfl (by decide) _ _ _ rfl (HO.out.alloc _) ⟨wr.heap.size, 0, none⟩ 3 3 (kcell ([(27, 1), (27, 2), (27, 4)])) rfl rfl HC.out (kcell_one _) (by have := HN.out; unfold maxLen; omega) (by have := HN.out; omega) (by have := HF.out.size; simp; omega) ?_; intro v1 w1 hown1 hg1 _ hat1; have HR : Hid (KRel w (.int .i64 28) v1 w1) := hide ⟨26 + 1, by omega, by simp, by rw [HST.out, kcell_append, List.length_append]; exact hown1, fr_own (HF.out.alloc' _) hg1 (fun b hb => own_base HO.out b hb)⟩; clear hown1 hg1 hat1)
        go_wp2
        exact ⟨HR.out, by simp [intOf] <;> omega⟩
      · subst hkt
        have HL := kcs_len 25
        have HC := hide (kind_cells wr ([(26, 2), (26, 4)]) #[.int .i64 26, .int .i64 2, .int .i64 26, .int .i64 4] wr.heap.size rfl rfl 57)
        have HO := hide ho
        have HF := hide hfr
        have HST : Hid (kcs (25 + 1) = kcs 25 ++ [(26, 2), (26, 4)]) := hide (kinds_step 25 [2, 4] (by unfold szs; rw [if_neg (by omega), if_neg (by omega), if_pos (by omega)]))
        have HN : Hid ((kcs 25).length ≤ 200) := hide (by omega)
        clear ho hfr
        go_wp2_with (at_builtin; refine wpList_append_own_at _ rfl _ _ 53 rfl w.heap.size 57 i0 _ 2 16 k53_und hi hz0 hz1 hz2 rfl (by decide) _ _ _ rfl (HO.out.alloc _) ⟨wr.heap.size, 0, none⟩ 2 2 (kcell ([(26, 2), (26, 4)])) rfl rfl HC.out (kcell_one _) (by have := HN.out; unfold maxLen; omega) (by have := HN.out; omega) (by have := HF.out.size; simp; omega) ?_; intro v1 w1 hown1 hg1 _ hat1; have HR : Hid (KRel w (.int .i64 27) v1 w1) := hide ⟨25 + 1, by omega, by simp, by rw [HST.out, kcell_append, List.length_append]; exact hown1, fr_own (HF.out.alloc' _) hg1 (fun b hb => own_base HO.out b hb)⟩; clear hown1 hg1 hat1)
        go_wp2
        exact ⟨HR.out, by simp [intOf] <;> omega⟩
      · skip
        have HL := kcs_len k
        have HC := hide (kind_cells wr ([(((k : Int) + 1), 0)]) #[.int .i64 ((k : Int) + 1), .int .i64 0] wr.heap.size rfl rfl 57)
        have HO := hide ho
        have HF := hide hfr
        have HST : Hid (kcs (k + 1) = kcs k ++ [(((k : Int) + 1), 0)]) := hide (kinds_step k [0] (by unfold szs; rw [if_neg (by omega), if_neg (by omega), if_neg (by omega)]))
        have HN : Hid ((kcs k).length ≤ 200) := hide (by omega)
        clear ho hfr
        go_wp2_with (at_builtin; refine wpList_append_own_at _ rfl _ _ 53 rfl w.heap.size 57 i0 _ 2 16 k53_und hi hz0 hz1 hz2 rfl (by decide) _ _ _ rfl (HO.out.alloc _) ⟨wr.heap.size, 0, none⟩ 1 1 (kcell ([(((k : Int) + 1), 0)])) rfl rfl HC.out (kcell_one _) (by have := HN.out; unfold maxLen; omega) (by have := HN.out; omega) (by have := HF.out.size; simp; omega) ?_; intro v1 w1 hown1 hg1 _ hat1; have HR : Hid (KRel w (.int .i64 ((k : Int) + 1 + 1)) v1 w1) := hide ⟨k + 1, by omega, by simp, by rw [HST.out, kcell_append, List.length_append]; exact hown1, fr_own (HF.out.alloc' _) hg1 (fun b hb => own_base HO.out b hb)⟩; clear hown1 hg1 hat1)
        go_wp2
        exact ⟨HR.out, by simp [intOf] <;> omega⟩
    · obtain rfl : k = 29 := by omega
      have HR := hide (show KindsPost w (.returned _) wr from ⟨_, rfl, ho, hfr⟩)
      clear ho hfr
      go_wp2
      go_ret
      exact HR.out
end Go.Proofs.Ytpahjllcomejbaa

/- Whatever lies at a place, something is read; condition: the place lies in the text. -/
set_option linter.unusedVariables false
set_option linter.unusedSimpArgs false
set_option linter.unusedSectionVars false
namespace Go.Proofs.Ytpahjllcomejbaa
open Go.RowKit Go.MapKept
open Go.Proofs.YtpahjllcomejbaaW.PrintWords Go.Proofs.YtpahjllcomejbaaW.PrintLast Go.Proofs.YtpahjllcomejbaaW.PrintMore
open PX86Encodes

def Res (s : ByteArray) (a : Int) (o : Option X9) : Prop := ∃ r1 r2 r3 r4 r5 r6 a2 e2, o = some (r1, r2, r3, r4, r5, r6, s, a2, e2) ∧ a ≤ a2 ∧ Place s a2 ∧ U64 r6
theorem U64.zero : U64 0 := ⟨by omega, by omega⟩
theorem Res.of {s : ByteArray} {a : Int} {r1 r2 r3 r4 r5 r6 a2 : Int} {e2 : Bool} (h1 : a ≤ a2) (h2 : Place s a2) (h3 : U64 r6) : Res s a (some (r1, r2, r3, r4, r5, r6, s, a2, e2)) := ⟨_, _, _, _, _, _, _, _, rfl, h1, h2, h3⟩
theorem Res.le {s : ByteArray} {a b : Int} {o : Option X9} (h : Res s b o) (hab : a ≤ b) : Res s a o := by
  obtain ⟨r1, r2, r3, r4, r5, r6, a2, e2, h0, h1, h2, h3⟩ := h
  exact ⟨r1, r2, r3, r4, r5, r6, a2, e2, h0, by omega, h2, h3⟩
section
variable {s : ByteArray} (hs : s.size ≤ 9223372036854775807)
include hs
theorem fields_some (a : Int) (e : Bool) (rex : Int) (hr : 0 ≤ rex ∧ rex < 256) (ha : Place s a) : ∃ m p q a2 e2, x86_reader_fields.f s a e rex = some (m, p, q, s, a2, e2) ∧ a ≤ a2 ∧ Place s a2 := by
  obtain ⟨b, a', e', hn, b1, b2, b3, b4⟩ := next_some s hs a e ha
  have hp : Place s a' := ⟨by have := ha.1; omega, b2⟩
  rw [fields_eq s a e rex b a' e' hr hn]
  by_cases c : b / 64 = 2
  · rw [if_pos c]
    by_cases c4 : b % 8 = 4
    · rw [if_pos c4]
      obtain ⟨b', a'', e'', hn', d1, d2, _, _⟩ := next_some s hs a' e' hp
      rw [hn', Option.bind_some]
      dsimp only
      exact ⟨_, _, _, _, _, rfl, by omega, by have := hp.1; omega, d2⟩
    · rw [if_neg c4]
      exact ⟨_, _, _, _, _, rfl, b1, hp⟩
  · rw [if_neg c]
    exact ⟨_, _, _, _, _, rfl, b1, hp⟩
theorem number_sm (a : Int) (e : Bool) (m : Nat) (hm : m ≤ 8) (ha : Place s a) : ∃ r a2 e2, x86_reader_number.f 20 s a e m = some (r, s, a2, e2) ∧ a ≤ a2 ∧ Place s a2 ∧ U64 r := by
  have := number_some s hs m 20 0 m 0 a e (by omega) hm (by omega) ha U64.zero
  unfold x86_reader_number.f
  simpa using this
theorem imm_some (a : Int) (e : Bool) (ha : Place s a) : ∃ r a2 e2, x86_reader_imm.f 20 s a e = some (r, s, a2, e2) ∧ a ≤ a2 ∧ Place s a2 := by
  obtain ⟨r, a2, e2, h1, h2, h3, _⟩ := number_sm hs a e 4 (by omega) ha
  have h1' : x86_reader_number.f 20 s a e 4 = some (r, s, a2, e2) := by simpa using h1
  unfold x86_reader_imm.f
  rw [h1', Option.bind_some]
  exact ⟨_, _, _, rfl, h2, h3⟩
theorem load_some (a : Int) (e : Bool) (rex m : Int) (g : Bool) (hr : 0 ≤ rex ∧ rex < 256) (ha : Place s a) : Res s a (x86_reader_load.f 20 s a e rex m g) := by
  obtain ⟨mm, p, q, a2, e2, h1, h2, h3⟩ := fields_some hs a e rex hr ha
  obtain ⟨r, a3, e3, i1, i2, i3⟩ := imm_some hs a2 e2 h3
  unfold x86_reader_load.f
  rw [h1, Option.bind_some]
  dsimp only
  cases g
  · rw [if_neg (by simp)]
    cases mm
    · rw [if_neg (by simp)]; exact .of h2 h3 U64.zero
    · rw [if_pos rfl, i1, Option.bind_some]; dsimp only; exact .of (by omega) i3 U64.zero
  · rw [if_pos rfl]
    cases mm
    · rw [if_neg (by simp)]; exact .of h2 h3 U64.zero
    · rw [if_pos rfl, i1, Option.bind_some]; dsimp only; exact .of (by omega) i3 U64.zero
theorem store_some (a : Int) (e : Bool) (rex m : Int) (hr : 0 ≤ rex ∧ rex < 256) (ha : Place s a) : Res s a (x86_reader_store.f 20 s a e rex m) := by
  obtain ⟨mm, p, q, a2, e2, h1, h2, h3⟩ := fields_some hs a e rex hr ha
  obtain ⟨r, a3, e3, i1, i2, i3⟩ := imm_some hs a2 e2 h3
  unfold x86_reader_store.f
  rw [h1, Option.bind_some]
  dsimp only
  cases mm
  · rw [if_neg (by simp)]; exact .of h2 h3 U64.zero
  · rw [if_pos rfl, i1, Option.bind_some]; dsimp only; exact .of (by omega) i3 U64.zero
theorem long_some (a : Int) (e : Bool) (rex : Int) (hr : 0 ≤ rex ∧ rex < 256) (ha : Place s a) : Res s a (x86_reader_long.f 20 s a e rex) := by
  obtain ⟨b, a', e', hn, b1, b2, b3, b4⟩ := next_some s hs a e ha
  have hp : Place s a' := ⟨by have := ha.1; omega, b2⟩
  have nb : ∀ m g, Res s a ((x86_reader_load.f 20 s a' e' rex m g).bind fun b => some (b.1, b.2.1, b.2.2.1, b.2.2.2.1, b.2.2.2.2.1, b.2.2.2.2.2.1, b.2.2.2.2.2.2.1, b.2.2.2.2.2.2.2.1, b.2.2.2.2.2.2.2.2)) := fun m g => by
    have e1 : ∀ o : Option X9, (o.bind fun b => some (b.1, b.2.1, b.2.2.1, b.2.2.2.1, b.2.2.2.2.1, b.2.2.2.2.2.1, b.2.2.2.2.2.2.1, b.2.2.2.2.2.2.2.1, b.2.2.2.2.2.2.2.2)) = o := fun o => by cases o <;> rfl
    rw [e1]
    exact (load_some hs a' e' rex m g hr hp).le b1
  obtain ⟨r, a3, e3, i1, i2, i3⟩ := imm_some hs a' e' hp
  obtain ⟨mm, p, q, a4, e4, f1, f2, f3⟩ := fields_some hs a' e' rex hr hp
  unfold x86_reader_long.f
  rw [hn, Option.bind_some]
  dsimp only
  by_cases c1 : b = 5
  · rw [if_pos c1]; exact .of b1 hp U64.zero
  rw [if_neg c1]
  by_cases c2 : Go.bits .and .u8 b 240 = 128
  · rw [if_pos c2, i1, Option.bind_some]; dsimp only; exact .of (by omega) i3 U64.zero
  rw [if_neg c2]
  by_cases c3 : Go.bits .and .u8 b 248 = 200
  · rw [if_pos c3]; exact .of b1 hp U64.zero
  rw [if_neg c3]
  by_cases c4 : b = 175
  · rw [if_pos c4, f1, Option.bind_some]; dsimp only; exact .of (by omega) f3 U64.zero
  rw [if_neg c4]
  by_cases c5 : b = 182
  · rw [if_pos c5]; exact nb _ _
  rw [if_neg c5]
  by_cases c6 : b = 183
  · rw [if_pos c6]; exact nb _ _
  rw [if_neg c6]
  by_cases c7 : b = 190
  · rw [if_pos c7]; exact nb _ _
  rw [if_neg c7]
  by_cases c8 : b = 191
  · rw [if_pos c8]; exact nb _ _
  rw [if_neg c8]
  exact .of b1 hp U64.zero
theorem shortT_some (op a : Int) (e : Bool) (rex : Int) (half : Bool) (hr : 0 ≤ rex ∧ rex < 256) (hp : Place s a) : Res s a (shortT 20 op s a e rex half) := by
  obtain ⟨r, a3, e3, i1, i2, i3, i4⟩ := number_sm hs a e 8 (by omega) hp
  have i1' : x86_reader_number.f 20 s a e 8 = some (r, s, a3, e3) := by simpa using i1
  obtain ⟨mm, p, q, a4, e4, f1, f2, f3⟩ := fields_some hs a e rex hr hp
  unfold shortT
  by_cases c1 : op = 15
  · rw [if_pos c1]; exact long_some hs a e rex hr hp
  rw [if_neg c1]
  by_cases c2 : 184 ≤ op ∧ op < 192
  · rw [if_pos c2, i1', Option.bind_some]; dsimp only; exact .of i2 i3 i4
  rw [if_neg c2]
  by_cases c3 : 80 ≤ op ∧ op < 88
  · rw [if_pos c3]; exact .of (Int.le_refl _) hp U64.zero
  rw [if_neg c3]
  by_cases c4 : 88 ≤ op ∧ op < 96
  · rw [if_pos c4]; exact .of (Int.le_refl _) hp U64.zero
  rw [if_neg c4]
  by_cases c5 : op = 153
  · rw [if_pos c5]; exact .of (Int.le_refl _) hp U64.zero
  rw [if_neg c5]
  by_cases c6 : op = 99
  · rw [if_pos c6]; exact load_some hs a e rex 4 true hr hp
  rw [if_neg c6]
  by_cases c7 : op = 139
  · rw [if_pos c7]
    split
    · exact load_some hs a e rex 8 false hr hp
    · exact load_some hs a e rex 4 false hr hp
  rw [if_neg c7]
  by_cases c8 : op = 136
  · rw [if_pos c8]; exact store_some hs a e rex 1 hr hp
  rw [if_neg c8]
  by_cases c9 : op = 137
  · rw [if_pos c9]
    split
    · exact store_some hs a e rex 2 hr hp
    · split
      · exact store_some hs a e rex 8 hr hp
      · exact store_some hs a e rex 4 hr hp
  rw [if_neg c9]
  by_cases c10 : op = 211 ∨ op = 247
  · rw [if_pos c10, f1, Option.bind_some]
    dsimp only
    split
    · exact .of f2 f3 U64.zero
    · exact .of f2 f3 U64.zero
  rw [if_neg c10, f1, Option.bind_some]
  dsimp only
  split
  · exact .of f2 f3 U64.zero
  · exact .of f2 f3 U64.zero
theorem shortF_some (a : Int) (e : Bool) (rex : Int) (half : Bool) (hr : 0 ≤ rex ∧ rex < 256) (ha : Place s a) : Res s a (shortF 20 s a e rex half) := by
  obtain ⟨b, a', e', hn, b1, b2, b3, b4⟩ := next_some s hs a e ha
  have hp : Place s a' := ⟨by have := ha.1; omega, b2⟩
  unfold shortF
  rw [hn, Option.bind_some]
  exact (shortT_some hs b a' e' rex half hr hp).le b1
theorem readX_some (a : Int) (ha : Place s a) : Res s a (readX 20 s a) := by
  obtain ⟨b, a', e', hn, b1, b2, b3, b4⟩ := next_some s hs a false ha
  have hp : Place s a' := ⟨by have := ha.1; omega, b2⟩
  obtain ⟨r, a3, e3, i1, i2, i3⟩ := imm_some hs a' e' hp
  unfold readX
  rw [hn, Option.bind_some]
  dsimp only
  by_cases c1 : b = 195
  · rw [if_pos c1]; exact .of b1 hp U64.zero
  rw [if_neg c1]
  by_cases c2 : b = 233
  · rw [if_pos c2, i1, Option.bind_some]; dsimp only; exact .of (by omega) i3 U64.zero
  rw [if_neg c2]
  by_cases c3 : b = 15
  · rw [if_pos c3]; exact (long_some hs a' e' 0 (by omega) hp).le b1
  rw [if_neg c3]
  by_cases c4 : b = 102
  · rw [if_pos c4]
    obtain ⟨b', a'', e'', hn', d1, d2, d3, d4⟩ := next_some s hs a' e' hp
    rw [hn', Option.bind_some]
    exact (shortF_some hs a'' e'' b' true ⟨d3, d4⟩ ⟨by have := hp.1; omega, d2⟩).le (by omega)
  rw [if_neg c4]
  by_cases c5 : 64 ≤ b ∧ b < 80
  · rw [if_pos c5]; exact (shortF_some hs a' e' b false ⟨b3, b4⟩ hp).le b1
  rw [if_neg c5]
  exact .of b1 hp U64.zero
end
end Go.Proofs.Ytpahjllcomejbaa
