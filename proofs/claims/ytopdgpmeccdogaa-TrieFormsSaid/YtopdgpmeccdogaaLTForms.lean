/- The law TrieForms computes true for every argument and leaves old memory alone; no condition. -/
import Derived.Test.YtopdgpmeccdogaaTPure
import Derived.Test.YtopdgpmeccdogaaOpen
import Derived.Lib.ConvBytes
set_option linter.unusedVariables false
set_option linter.unusedSimpArgs false
namespace Go.Proofs.Ytopdgpmeccdogaa
open Go.RowKit Go.MapKept
open Go.ChangeMaps (setBlock)

/-- Block B begins with these bytes, and they may be written. -/
def BStr (W : World) (B : Nat) (l : List Nat) : Prop := ∃ C T a b, W.heap[B]? = some (.cells C T (a, b)) ∧ (∀ i, i < l.length → C[i]? = some (.int .u8 (l.getD i 0 : Nat))) ∧ l.length ≤ a
theorem BStr.reads {W : World} {B : Nat} {l : List Nat} (h : BStr W B l) (i : Nat) (hi : i < l.length) : W.cell? ⟨B, i, none⟩ = some (.int .u8 (l.getD i 0 : Nat)) ∧ W.frozen? ⟨B, i, none⟩ = false := by
  obtain ⟨C, T, a, b, h1, h2, h3⟩ := h
  refine ⟨by simp [World.cell?, h1, h2 i hi], ?_⟩
  simp [World.frozen?, h1]
  omega
theorem BStr.set {W : World} {B : Nat} {l : List Nat} (h : BStr W B l) (i v : Nat) : BStr (W.setCell ⟨B, i, none⟩ (.int .u8 v)) B (l.set i v) := by
  obtain ⟨C, T, a, b, h1, h2, h3⟩ := h
  refine ⟨_, T, a, b, heap_setCell_same h1, fun j hj => ?_, by simpa using h3⟩
  rw [List.length_set] at hj
  have h4 := h2 j hj
  obtain ⟨hs, -⟩ := Array.getElem?_eq_some_iff.1 h4
  rw [Array.getElem?_setIfInBounds]
  by_cases e : i = j
  · subst e
    simp [hs, hj]
  · rw [if_neg e, h4]
    simp [List.getD_eq_getElem?_getD, List.getElem?_set, e]
theorem BStr.fr {W W' : World} {B : Nat} {l : List Nat} {F F' : List Nat} (h : BStr W B l) (f : Fr F F' W W') (hB : B ∉ F) : BStr W' B l := by
  obtain ⟨C, T, a, b, h1, h2, h3⟩ := h
  exact ⟨C, T, a, b, f.keep h1 hB, h2, h3⟩
theorem BStr.made (w : World) (e : TypeId) (s : ByteArray) : BStr (Lib.bytesWorld w e s) w.heap.size (nats s) := by
  refine ⟨_, _, _, _, Lib.bytesWorld_at_new w e s, fun i hi => ?_, ?_⟩
  · rw [length_nats] at hi
    rw [getD_nats s i hi]
    have hd : i < s.data.size := hi
    simp only [Lib.bytesCells, Array.getElem?_append, Array.size_map, if_pos hd, Array.getElem?_map, Array.getElem?_eq_getElem hd, Option.map_some]
    rfl
  · rw [length_nats]
    simp [Lib.bytesCells]
theorem bytesWorld_fr (w : World) (e : TypeId) (s : ByteArray) : Fr [] [] w (Lib.bytesWorld w e s) :=
  ⟨rfl, rfl, rfl, by rw [Lib.bytesWorld_size]; omega, fun k hk _ => Lib.bytesWorld_at_old w e s k hk, fun k hk => .inl hk⟩
theorem clamp32 (n : Int) : ∃ N : Nat, N ≤ 32 ∧ max 0 (min n 32) = (N : Int) := ⟨(max 0 (min n 32)).toNat, by omega, by omega⟩
def FormsRel (w : World) (N x m : Nat) (B : Nat) (l0 : List Nat) (G F : List Nat) (k : KA) (i : Value) (wr : World) : Prop :=
  ∃ (j : Nat) (l : List Nat), N ≤ j ∧ j ≤ 32 ∧ i = .int .i64 j ∧ BStr wr B l ∧ l.length = 4 ∧ (∀ q ∈ l, q < 256) ∧ (∀ q, q < N → sbit l q = sbit l0 q) ∧ TK wr x m ⟨8, 1, 4⟩ (fun _ => 0) 0 k G F ∧ Fr [] (G ++ F) w wr
theorem turn_eq (q : Nat) (hq : q < 256) (j : Nat) : bits BinOp.xor IntKind.u8 (q : Int) (128 / 2 ^ (j % 8)) = ((q ^^^ (128 / 2 ^ (j % 8)) : Nat) : Int) := by
  have e : (128 : Int) / 2 ^ (j % 8) = ((128 / 2 ^ (j % 8) : Nat) : Int) := by
    rw [Int.natCast_ediv, Int.natCast_pow]; rfl
  rw [e]
  exact u8_xor_nat _ _ hq (Nat.lt_of_le_of_lt (Nat.div_le_self _ _) (by omega))
/-- The state of the law: the table, its memory, and beside them the bytes l at B. -/
def FSt (w : World) (x m B : Nat) (l : List Nat) (s : TSpec) (f : List Bool → Nat) (n : Nat) (k : KA) (W : World) : Prop := ∃ G F, TK W x m s f n k G F ∧ Fr [] (G ++ F) w W ∧ B ∉ G ++ F ∧ BStr W B l ∧ B < W.heap.size
section
variable {w W : World} {x m B : Nat} {l : List Nat} {s : TSpec} {f f' : List Bool → Nat} {n n' : Nat} {k k' : KA}
theorem FSt.fresh (S : FSt w x m B l s f n k W) {W' : World} (g : Fr [] [] W W') : FSt w x m B l s f n k W' := by
  obtain ⟨G, F, h1, h2, h3, h4, h5⟩ := S
  exact ⟨G, F, h1.fr0 g, h2.more g, h3, h4.fr g (by simp), Nat.lt_of_lt_of_le h5 g.size⟩
theorem FSt.drew (S : FSt w x m B l s f n k W) : FSt w x m B l s f n k W.drew := S.fresh (Fr.refl [] W).drew
theorem FSt.key (S : FSt w x m B l s f n k W) (q : Nat) (hq : q ≤ 32) (t : ByteArray) (ht : t.size = 4) : Calls Try.prog 11 #[.int .i64 q, .string t] W fun e W' => e = .returned (.string (tkey q t)) ∧ FSt w x m B l s f n k W' :=
  (key_calls q hq t (by omega) W).mono fun e W' ⟨h1, h2⟩ => ⟨h1, S.fresh h2⟩
theorem FSt.of {v : Value} {G F : List Nat} (h2 : Fr [] (G ++ F) w W) (h3 : B ∉ G ++ F) (h4 : BStr W B l) (h5 : B < W.heap.size) {e : Ending} {W' : World} (h : TKPost x m s G F W v f n k e W') : e = .returned v ∧ FSt w x m B l s f n k W' := by
  obtain ⟨G', F', rfl, H, g⟩ := h
  exact ⟨rfl, G', F', H, h2.trans g, g.notin h5 h3, h4.fr g h3, Nat.lt_of_lt_of_le h5 g.size⟩
theorem FSt.update (S : FSt w x m B l s f n k W) (hs : s.May) (key value : ByteArray) (fl : Int) {e' : Int} (hn : n < 4294967296) (hm : k.made + 1 < 4294967296) (E : tupdate s f n k key value fl = (e', f', n', k')) :
    Calls Try.prog 10 #[.pointer (some ⟨x, 0, none⟩), .string key, .string value, .int .i64 fl] W fun e W' => e = .returned (.int .i64 e') ∧ FSt w x m B l s f' n' k' W' := by
  obtain ⟨G, F, h1, h2, h3, h4, h5⟩ := S
  exact (tupdate_K h1 hs key value fl hn hm E).mono fun e W' h => FSt.of h2 h3 h4 h5 h
theorem FSt.lookup (S : FSt w x m B l s f n k W) (hs : s.May) (key : ByteArray) {a : Nat} (E : tlook s f key = a) :
    Calls Try.prog 13 #[.pointer (some ⟨x, 0, none⟩), .string key] W fun e W' => e = .returned (.int .u64 a) ∧ FSt w x m B l s f n k W' := by
  obtain ⟨G, F, h1, h2, h3, h4, h5⟩ := S
  subst E
  exact (tlookup_K h1 hs key).mono fun e W' h => FSt.of h2 h3 h4 h5 h
theorem FSt.delete (S : FSt w x m B l s f n k W) (hs : s.May) (key : ByteArray) {e' : Int} (hn : n < 4294967296) (hn1 : f (tpath key) ≠ 0 → 1 ≤ n) (E : tdelete s f n k key = (e', f', n', k')) :
    Calls Try.prog 16 #[.pointer (some ⟨x, 0, none⟩), .string key] W fun e W' => e = .returned (.int .i64 e') ∧ FSt w x m B l s f' n' k' W' := by
  obtain ⟨G, F, h1, h2, h3, h4, h5⟩ := S
  exact (tdelete_K h1 hs key hn hn1 E).mono fun e W' h => FSt.of h2 h3 h4 h5 h
theorem FSt.len (S : FSt w x m B l s f n k W) : Calls Try.prog 15 #[.pointer (some ⟨x, 0, none⟩)] W (Tells W (.int .i64 (n : Nat))) := by
  obtain ⟨G, F, h1, -⟩ := S
  exact tlen_K h1
theorem FSt.conv (S : FSt w x m B l s f n k W) {z c : Nat} (hz : l.length = z) : (convert 42 9 (.slice (some ⟨B, 0, none⟩) z c)).run Try.prog W = .ok (.string (bstr l)) W := by
  obtain ⟨G, F, h1, h2, h3, h4, h5⟩ := S
  exact run_bytes l hz fun i hi => by rw [Nat.zero_add]; exact (h4.reads i (by omega)).1
theorem FSt.below (S : FSt w x m B l s f n k W) : Below w.heap.size w W ∧ w.heap.size ≤ W.heap.size := by
  obtain ⟨G, F, h1, h2, -⟩ := S
  exact ⟨h2.below0, h2.size⟩
end
def FormsMid (w : World) (x m B : Nat) (l : List Nat) (f : List Bool → Nat) (k : KA) (u v : Value) (W : World) : Prop := u = .int .i64 0 ∧ v = .int .i64 5 ∧ FSt w x m B l ⟨8, 1, 4⟩ f 1 k W
theorem fmay : (TSpec.mk 8 1 4).May := ⟨by decide, by decide, by decide⟩
def Fk0 : KA := ⟨1, 0, [(1, ⟨[0], 3, false⟩)]⟩
def Fk2 : KA := ⟨1, 0, [(1, ⟨[97], 3, true⟩)]⟩
theorem Fal : KA.alloc ((1 : Nat) : Int) 3 ⟨0, 0, []⟩ = (4294967296, 0, Fk0) := by decide +kernel
theorem Fput : Fk0.put 4294967296 (nats ⟨#[97]⟩) = (0, W4.k1) := by decide +kernel
theorem Fret : (W4.k1.retire 4294967296).2 = Fk2 := by decide +kernel
section
variable {N : Nat} (hN : N ≤ 32) {s sb : ByteArray} (hs : s.size = 4) (hsb : sb.size = 4) (hp : spath N (nats sb) = spath N (nats s))
include hN
theorem forms1 (hs : s.size = 4) : tupdate ⟨8, 1, 4⟩ (fun _ => 0) 0 ⟨0, 0, []⟩ (tkey N s) ⟨#[97]⟩ 0 = (0, tset (fun _ => 0) (spath N (nats s)) 4294967296, 1, W4.k1) := by
  unfold tupdate
  rw [if_neg (by rw [ok_key 1 4 N hN s hs]; decide), if_pos rfl]
  unfold tnew
  rw [if_neg (by decide), if_neg (by decide), tpath_key N hN]
  unfold tinsert
  rw [show (TSpec.mk 8 1 4).value = 1 from rfl, Fal, if_neg (by decide)]
  simp only [Fput]
include hp
theorem forms2 (hsb : sb.size = 4) : tupdate ⟨8, 1, 4⟩ (tset (fun _ => 0) (spath N (nats s)) 4294967296) 1 W4.k1 (tkey N sb) ⟨#[98]⟩ 1 = (5, tset (fun _ => 0) (spath N (nats s)) 4294967296, 1, W4.k1) := by
  unfold tupdate
  rw [if_neg (by rw [ok_key 1 4 N hN sb hsb]; decide), tpath_key N hN, hp, if_neg (by simp [tset]), if_pos rfl]
theorem forms3 (hs : s.size = 4) (hsb : sb.size = 4) (f : List Bool → Nat) : tlook ⟨8, 1, 4⟩ f (tkey N sb) = tlook ⟨8, 1, 4⟩ f (tkey N s) := by
  unfold tlook
  rw [ok_key 1 4 N hN sb hsb, ok_key 1 4 N hN s hs, tpath_key N hN, tpath_key N hN, hp]
theorem forms4 (hsb : sb.size = 4) : tdelete ⟨8, 1, 4⟩ (tset (fun _ => 0) (spath N (nats s)) 4294967296) 1 W4.k1 (tkey N sb) = (0, tset (tset (fun _ => 0) (spath N (nats s)) 4294967296) (spath N (nats s)) 0, 0, Fk2) := by
  have e : tset (fun _ => 0) (spath N (nats s)) 4294967296 (spath N (nats s)) = 4294967296 := by simp [tset]
  unfold tdelete
  rw [if_neg (by rw [ok_key 1 4 N hN sb hsb]; decide), tpath_key N hN, hp, e, if_neg (by decide), Fret]
end
set_option maxRecDepth 100000 in
set_option maxHeartbeats 1600000 in
theorem law_tforms (n : Int) (s : ByteArray) (turn : Int) (ht : 0 ≤ turn ∧ turn < 256) (hw1 : s.size ≤ 9223372036854775807) (w : World) : Calls Try.prog 4 #[.int .i64 n, .string s, .int .u8 turn] w fun e w' => e = .returned (.bool true) ∧ Below w.heap.size w w' := by
  obtain ⟨N, hN2, hc⟩ := clamp32 n
  by_cases hs : s.size = 4
  · have hsz : ((s.size : Int) != 4) = false := by rw [hs]; rfl
    have hcs := fun W => Lib.run_convert_string_bytes (P := Try.prog) W 9 42 5 s K.undString K.undBytes K.undU8
    go_enter Try.func4, Try.ntmps4
    go_upto_region 1 with fail
    go_cut [0] (fun v wx => v = .int .i64 N ∧ wx = w)
    case first =>
      clear hcs
      go_wp2_with fail
      all_goals
        go_meet
        refine ⟨?_, rfl⟩
        congr 1
        omega
    case rest =>
    obtain ⟨rfl, hww⟩ := hcut
    obtain rfl : w = wc := hww.symm
    clear hc hww
    go_wp2_with fail
    refine (new_S w).mono ?_
    rintro e w1 ⟨m, F, rfl, h0, f0⟩
    have hn := hide (tnew_S h0 ⟨8, 1, 4⟩ fmay)
    go_wp2_with fail
    refine hn.out.mono ?_
    rintro e w2 ⟨x, G, rfl, H, f2⟩
    have f : Fr [] (G ++ F) w w2 := Fr.beside f0 f2
    have HB := hide (And.intro (BStr.made w2 5 s) (And.intro (H.fr0 (bytesWorld_fr w2 5 s)) (f.more (bytesWorld_fr w2 5 s))))
    have hw2 : w.heap.size ≤ w2.heap.size := f.size
    have hBG : w2.heap.size ∉ G := fun h => Nat.lt_irrefl _ (H.ts.lt _ h)
    have hBF : w2.heap.size ∉ F := fun h => Nat.lt_irrefl _ (H.ks.lt _ h)
    clear h0 hn f0 f2 H f
    go_wp2_with fail
    go_loopw [11] (fun i wr => FormsRel w N x m w2.heap.size (nats s) G F ⟨0, 0, []⟩ i wr) (fun i _ => 32 - (intOf i).toNat)
    case atStart => exact ⟨N, nats s, Nat.le_refl _, hN2, rfl, HB.out.1, by rw [length_nats, hs], nats_lt s, fun _ _ => rfl, HB.out.2.1, HB.out.2.2⟩
    case round =>
      obtain ⟨j, l, hj1, hj2, rfl, hb, hl, hl2, hpre, H, f⟩ := hrel
      clear HB
      by_cases hlt : j < 32
      · obtain ⟨r0, r1⟩ := hb.reads (j / 8) (by omega)
        have hk4 : (j / 8 : Int) < 4 := by omega
        have hsc : (s.size : Int) = 4 := by omega
        have hq : l.getD (j / 8) 0 < 256 := by
          rw [List.getD_eq_getElem?_getD, List.getElem?_eq_getElem (by omega)]
          exact hl2 _ (List.getElem_mem _)
        have HN : Hid (FormsRel w N x m w2.heap.size (nats s) G F ⟨0, 0, []⟩ (.int .i64 ((j + 1 : Nat) : Int)) wr) := hide ⟨j + 1, l, by omega, by omega, rfl, hb, hl, hl2, hpre, H, f⟩
        have HY : Hid (FormsRel w N x m w2.heap.size (nats s) G F ⟨0, 0, []⟩ (.int .i64 ((j + 1 : Nat) : Int)) (wr.setCell ⟨w2.heap.size, j / 8, none⟩ (.int .u8 (bits BinOp.xor IntKind.u8 (l.getD (j / 8) 0 : Nat) (128 / 2 ^ (j % 8)))))) := by
          rw [turn_eq _ hq]
          have hfr : Fr [w2.heap.size] [w2.heap.size] wr (wr.setCell ⟨w2.heap.size, j / 8, none⟩ (.int .u8 ((l.getD (j / 8) 0 ^^^ (128 / 2 ^ (j % 8)) : Nat) : Int))) :=
            ⟨rfl, rfl, rfl, by simp, fun k hk hn => Below.heap_setCell _ _ _ _ (fun e => hn (by simpa using e)), fun k hk => .inl hk⟩
          refine hide ⟨j + 1, _, by omega, by omega, rfl, hb.set _ _, by simpa using hl, ?_, fun q hq => ?_, ⟨H.ts.fr hfr (fun b hb e => hBG (by simp at e; exact e ▸ hb)), H.ks.frame (fun b hb => hfr.block b (H.ks.lt b hb) (fun e => hBF (by simp at e; exact e ▸ hb))), H.dj⟩, ?_⟩
          · intro q hq2
            rcases List.mem_or_eq_of_mem_set hq2 with h1 | h1
            · exact hl2 q h1
            · rw [h1]
              exact Nat.xor_lt_two_pow (n := 8) (by omega) (Nat.lt_of_le_of_lt (Nat.div_le_self _ _) (by omega))
          · rw [sbit_turn l j q (by omega)]
            exact hpre q hq
          · exact ⟨f.os, f.tape, f.output, by simpa using f.size, fun k hk hn => by rw [Below.heap_setCell _ _ _ _ (by show k ≠ w2.heap.size; omega)]; exact f.block k hk hn, f.foot⟩
        generalize l.getD (j / 8) 0 = q at *
        clear hpre H f hl2 hb hq
        go_wp2_with fail
        all_goals
          first
            | exact ⟨HY.out, by simp [intOf]; omega⟩
            | exact ⟨HN.out, by simp [intOf]; omega⟩
      · obtain rfl : j = 32 := by omega
        have hp : spath N (nats (bstr l)) = spath N (nats s) := by rw [nats_bstr l hl2]; exact spath_congr hpre
        have hsb : (bstr l).size = 4 := by rw [size_bstr]; exact hl
        have E1 := hide (forms1 hN2 hs)
        have E2 := hide (forms2 hN2 hp hsb)
        have E3 := hide (forms3 hN2 hp hs hsb (tset (fun _ => 0) (spath N (nats s)) 4294967296))
        have E4 := hide (forms4 hN2 hp hsb)
        have S : FSt w x m w2.heap.size l ⟨8, 1, 4⟩ (fun _ => 0) 0 ⟨0, 0, []⟩ wr := ⟨G, F, H, f, by simp [hBG, hBF], hb, by obtain ⟨C, T, a, b, h1, -⟩ := hb; exact lt_of_heap h1⟩
        generalize tset (fun _ => 0) (spath N (nats s)) 4294967296 = f1 at *
        generalize hsbe : bstr l = sb at *
        have HSB := hide hsbe
        clear hsbe
        have HLS := hide hl
        have HCV : ∀ (f : List Bool → Nat) n k W, FSt w x m w2.heap.size l ⟨8, 1, 4⟩ f n k W → ∀ c, (convert 42 9 (.slice (some ⟨w2.heap.size, 0, none⟩) 4 c)).run Try.prog W = .ok (.string sb) W := fun f n k W S c => by
          rw [S.conv HLS.out, HSB.out]
        have HC := hide HCV
        clear HCV hpre hl hl2 hb H f hBG hBF hp hj1 hlt hw2 hcs
        go_upto_region 14 with fail
        go_cut [12, 13] (fun u v wx => FormsMid w x m w2.heap.size l f1 W4.k1 u v wx)
        case first =>
          have hcv0 := HC.out _ _ _ _ S
          have hcv1 := HC.out _ _ _ _ S.drew
          clear E3 E4
          go_region_with (first
            | (go_at_call 11; (first | (with_reducible refine (S.key N hN2 s hs).mono ?_) | (with_reducible refine (S.key N hN2 sb hsb).mono ?_) | (with_reducible refine (S.drew.key N hN2 s hs).mono ?_)); clear S; rintro e W' ⟨rfl, S⟩; have _h := HC.out _ _ _ _ S)
            | (go_at_call 10; (first | (with_reducible refine (S.update fmay _ _ _ (by decide) (by decide) E1.out).mono ?_) | (with_reducible refine (S.update fmay _ _ _ (by decide) (by decide) E2.out).mono ?_)); clear S; rintro e W' ⟨rfl, S⟩; have _h := HC.out _ _ _ _ S))
          all_goals
            go_wp2_with fail
            go_meet
            exact ⟨rfl, rfl, S⟩
        case rest =>
          clear S
          obtain ⟨rfl, rfl, S⟩ := hcut
          clear E1 E2
          generalize hta : tlook ⟨8, 1, 4⟩ f1 (tkey N s) = ta at E3
          have HTA := hide hta
          clear hta
          go_wp2_with fail
          refine S.len.mono ?_
          rintro e w' ⟨rfl, rfl⟩
          have hc1 := HC.out _ _ _ _ S
          go_wp2_with fail
          refine (S.key N hN2 sb hsb).mono ?_
          clear S hc1
          rintro e W1 ⟨rfl, S⟩
          go_wp2_with fail
          refine (S.lookup fmay _ E3.out).mono ?_
          clear S
          rintro e W2 ⟨rfl, S⟩
          go_wp2_with fail
          refine (S.key N hN2 s hs).mono ?_
          clear S
          rintro e W3 ⟨rfl, S⟩
          go_wp2_with fail
          refine (S.lookup fmay _ HTA.out).mono ?_
          clear S
          rintro e W4 ⟨rfl, S⟩
          have hc1 := HC.out _ _ _ _ S
          go_wp2_with fail
          refine (S.key N hN2 sb hsb).mono ?_
          clear S hc1
          rintro e W5 ⟨rfl, S⟩
          go_wp2_with fail
          refine (S.delete fmay _ (by decide) (fun _ => Nat.le_refl _) E4.out).mono ?_
          clear S
          rintro e W6 ⟨rfl, S⟩
          go_wp2_with fail
          refine S.len.mono ?_
          rintro e w' ⟨rfl, rfl⟩
          obtain ⟨sb1, sb2⟩ := S.below
          clear S
          go_wp2_with fail
          refine (tawake _).mono ?_
          rintro e w' ⟨rfl, hb5⟩
          go_wp2
          go_ret
          exact ⟨rfl, sb1.trans (hb5.mono sb2)⟩
  · have hsz : ((s.size : Int) != 4) = true := by rw [bne_iff_ne]; omega
    clear hs
    go_enter Try.func4, Try.ntmps4
    go_wp2_with fail
    all_goals
      refine (tawake _).mono ?_
      rintro e w' ⟨rfl, hb5⟩
      go_wp2
      go_ret
      exact ⟨rfl, hb5⟩
theorem u8_of_wf {n : Int} (h : (Lit.int .u8 n).wf = true) : 0 ≤ n ∧ n < 256 := by
  simp [Lit.wf, IntKind.min, IntKind.max, IntKind.signed, IntKind.bits] at h
  omega
end Go.Proofs.Ytopdgpmeccdogaa
