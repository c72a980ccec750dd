/- Contract of the trie's Lookup: it tells the longest prefix's address; condition: the table lies in the world. -/
import Derived.Test.YtopdgpmeccdogaaTForm
set_option linter.unusedVariables false
set_option linter.unusedSimpArgs false
namespace Go.Proofs.Ytopdgpmeccdogaa
open Go.RowKit Go.MapKept
open Go.ChangeMaps (setBlock)

def tpath (key : ByteArray) : List Bool := (List.range (tlen key)).map fun i => decide (tbit key i = 1)
theorem tbit_lt (key : ByteArray) (i : Nat) : tbit key i < 2 := Nat.mod_lt _ (by decide)
theorem tpath_length (key : ByteArray) : (tpath key).length = tlen key := by simp [tpath]
theorem tpath_bits (key : ByteArray) : pbits (tpath key) = bitsN key (tlen key) := by
  simp only [pbits, tpath, bitsN, List.map_map]
  apply List.map_congr_left
  intro i _
  have := tbit_lt key i
  simp only [Function.comp_apply]
  by_cases h : tbit key i = 1
  · simp [h]
  · have : tbit key i = 0 := by omega
    simp [this]
def TSpec.ok (s : TSpec) (key : ByteArray) : Bool := decide (key.size = s.key) && decide (tlen key ≤ 8 * (key.size - 4))
structure TSpec.May (s : TSpec) : Prop where
  ky : 5 ≤ s.key ∧ s.key ≤ 260
  vl : 1 ≤ s.value ∧ s.value ≤ 4096
  mx : 1 ≤ s.max ∧ s.max ≤ 4096
def lk (f : List Bool → Nat) (p : List Bool) : Nat → Nat
  | 0 => f []
  | i + 1 => if f (p.take (i + 1)) ≠ 0 then f (p.take (i + 1)) else lk f p i
def lookF (f : List Bool → Nat) (p : List Bool) : Nat := lk f p p.length
def tlook (s : TSpec) (f : List Bool → Nat) (key : ByteArray) : Nat := if s.ok key then lookF f (tpath key) else 0
theorem lk_stuck (f : List Bool → Nat) (p : List Bool) (i : Nat) : ∀ j, (∀ k, i < k → k ≤ i + j → f (p.take k) = 0) → lk f p (i + j) = lk f p i
  | 0, _ => rfl
  | j + 1, h => by
    rw [← Nat.add_assoc, lk, if_neg (by rw [h (i + j + 1) (by omega) (by omega)]; simp)]
    exact lk_stuck f p i j fun k h1 h2 => h k h1 (by omega)
theorem lk_lt {f : List Bool → Nat} (h : ∀ p, f p < 18446744073709551616) (p : List Bool) : ∀ i, lk f p i < 18446744073709551616
  | 0 => h _
  | i + 1 => by
    rw [lk]
    split
    · exact h _
    · exact lk_lt h p i
theorem CT.F_stuck (t : CT) (p : List Bool) (i k : Nat) (h : i < p.length) (hn : (t.sub (p.take i)).kid (p[i]'h) = .nil) (hk : i < k) (hk2 : k ≤ p.length) : t.F (p.take k) = 0 := by
  have h1 : i < (p.take k).length := by rw [List.length_take]; omega
  have e1 : (p.take k).take i = p.take i := by rw [List.take_take]; congr 1; omega
  have e2 : (p.take k)[i] = p[i] := List.getElem_take
  have := CT.sub_stuck t (p.take k) i h1 (by rw [e1, e2]; exact hn)
  unfold CT.F
  rw [this]
  rfl
def LookRel (t : CT) (p : List Bool) (u v z : Value) : Prop := ∃ (i b : Nat) (l r : CT) (a : Nat) (f : ByteArray), i ≤ p.length ∧ u = .pointer (some ⟨b, 0, none⟩) ∧ v = .int .u64 (lk t.F p i : Nat) ∧ z = .int .i64 i ∧ t.sub (p.take i) = .node b l r a f
theorem LookRel.step {t : CT} {p : List Bool} {i : Nat} (hi : i < p.length) {b' : Nat} {l' r' : CT} {a' : Nat} {f' : ByteArray} (h : t.sub (p.take (i + 1)) = .node b' l' r' a' f') :
    (a' = 0 → lk t.F p (i + 1) = lk t.F p i) ∧ (a' ≠ 0 → lk t.F p (i + 1) = a') := by
  have hF : t.F (p.take (i + 1)) = a' := by unfold CT.F; rw [h]; rfl
  refine ⟨fun e => ?_, fun e => ?_⟩
  · rw [lk, hF, e]; simp
  · rw [lk, hF, if_pos e]
theorem tlookup_nil (key : ByteArray) (w : World) : Calls Try.prog 13 #[.pointer none, .string key] w (Tells w (.int .u64 0)) := by
  go_enter Try.func13, Try.ntmps13
  go_wp2
  go_ret
  exact ⟨rfl, rfl⟩
theorem TM.root {w : World} {x m : Nat} {s : TSpec} {t : CT} {n : Nat} (h : TM w x m s t n) : ∃ b, t.ptr = some ⟨b, 0, none⟩ := by
  obtain ⟨b, l, r, a, f, e⟩ := h.nn
  exact ⟨b, by rw [e]; rfl⟩
set_option maxRecDepth 100000 in
theorem tlookup_bad {w : World} {x m : Nat} {s : TSpec} {t : CT} {n : Nat} (h : TM w x m s t n) (hs : s.May) (key : ByteArray) (hk : s.ok key = false) :
    Calls Try.prog 13 #[.pointer (some ⟨x, 0, none⟩), .string key] w (FreshPost w (.int .u64 0)) := by
  have h1 := hs.ky
  have HB : Hid (Calls Try.prog 32 #[.pointer (some ⟨x, 0, none⟩), .string key] w (TellsS w (.tuple #[.slice none 0 0, .bool false]))) := by
    by_cases h2 : key.size = s.key
    · have h3 : ¬ tlen key ≤ 8 * (key.size - 4) := by simpa [TSpec.ok, h2] using hk
      exact hide (bits_long h key h2 (by omega) (by omega) (by omega))
    · exact hide ((bits_size h key h2).mono fun e w' ⟨he, hw⟩ => ⟨he, hw ▸ Same.refl _⟩)
  obtain ⟨c0, c2, c3, c4, c5, c6, -⟩ := h.cells
  obtain ⟨b, hb⟩ := h.root
  rw [hb] at c5
  clear h hk hb
  go_enter Try.func13, Try.ntmps13
  go_wp2_with fail
  refine HB.out.mono ?_
  rintro e w1 ⟨rfl, h1⟩
  go_wp2
  go_ret
  exact ⟨rfl, h1.fr []⟩
set_option maxRecDepth 100000 in
set_option maxHeartbeats 800000 in
theorem tlookup_ok {w : World} {x m : Nat} {s : TSpec} {t : CT} {n : Nat} (h : TM w x m s t n) (hs : s.May) (key : ByteArray) (hk : s.ok key = true) :
    Calls Try.prog 13 #[.pointer (some ⟨x, 0, none⟩), .string key] w (FreshPost w (.int .u64 (lookF t.F (tpath key) : Nat))) := by
  have h1 := hs.ky
  simp only [TSpec.ok, Bool.and_eq_true, decide_eq_true_eq] at hk
  have HB := hide (bits_ok h key hk.1 (by omega) (by omega) hk.2)
  have HT := hide h
  obtain ⟨c0, c2, c3, c4, c5, c6, -⟩ := h.cells
  obtain ⟨b, hb⟩ := h.root
  rw [hb] at c5
  have hpl := tpath_length key
  have hpb := tpath_bits key
  have hlen : (tpath key).length ≤ 2048 := by omega
  unfold BitsPost at HB
  rw [← hpb, ← hpl] at HB
  clear h hk hb hpl hpb
  generalize tpath key = p at *
  go_enter Try.func13, Try.ntmps13
  go_wp2_with fail
  refine HB.out.mono ?_
  rintro e w1 ⟨d, rfl, hdw, hd, hfr⟩
  have hm1 : TM w1 x m s t n := HT.out.frame fun k hk => hfr.block k (HT.out.lt k hk) (by simp)
  obtain ⟨b0, l0, r0, a0, f0, htn⟩ := hm1.nn
  have hh := hm1.ht
  rw [htn] at hh
  obtain ⟨k0, k1, k2, -⟩ := CT.obj_reads hh.1
  have c5' := hm1.cells.2.2.2.2.1
  rw [show t.ptr = some ⟨b0, 0, none⟩ by rw [htn]; rfl] at c5'
  have HS : Hid (LookRel t p (.pointer (some ⟨b0, 0, none⟩)) (.int .u64 (a0 : Nat)) (.int .i64 0)) := hide ⟨0, b0, l0, r0, a0, f0, Nat.zero_le _, rfl, by rw [htn]; rfl, rfl, htn⟩
  have HD := hide hd
  have HFR := hide hfr
  have HM := hide hm1
  clear HT HB hm1 htn hh hd hfr hdw c0 c2 c3 c4 c5 c6
  go_upto_region 6 with fail
  go_cut [7, 8] (fun u v wx => u = .pointer (some ⟨b0, 0, none⟩) ∧ v = .int .u64 (a0 : Nat) ∧ Same w1 wx)
  case first =>
    go_region
    all_goals
      go_wp2_with fail
      go_meet
      exact ⟨rfl, rfl, by first | exact Same.refl _ | exact (Same.refl _).drew⟩
  case rest =>
    obtain ⟨rfl, rfl, hsm⟩ := hcut
    have HM2 := hide (HM.out.frame (w' := wc) fun k _ => by rw [hsm.heap])
    have HD2 : Hid (wc.heap[d]? = some (byteCells (pbits p))) := hide (by rw [hsm.heap]; exact HD.out)
    have HFR2 := hide (HFR.out.trans (hsm.fr []))
    clear HM HD HFR hsm k0 k1 k2 c5'
    go_wp2
    go_loop [7, 8, 41] (fun u v z => LookRel t p u v z) (fun _ _ z => p.length - (intOf z).toNat)
    case atStart => exact HS.out
    case round =>
      obtain ⟨i, b, l, r, a, f, hi, rfl, rfl, rfl, hs⟩ := hrel
      clear HS
      by_cases hlt : i < p.length
      · have hcell := byte_reads HD2.out i (by rw [pbits_length]; exact hlt)
        rw [pbits_get p i hlt] at hcell
        have hh := CT.holds_sub HM2.out.ht (p.take i)
        rw [hs] at hh
        obtain ⟨k0, k1, -⟩ := CT.obj_reads hh.1
        have hsucc := CT.sub_take_succ t p i hlt
        rw [hs] at hsucc
        have HX : Hid ((CT.kid (p[i]'hlt) (.node b l r a f) = .nil → lookF t.F p = lk t.F p i) ∧ (∀ b' l' r' a' f', CT.kid (p[i]'hlt) (.node b l r a f) = .node b' l' r' a' f' →
            (a' = 0 → LookRel t p (.pointer (some ⟨b', 0, none⟩)) (.int .u64 (lk t.F p i : Nat)) (.int .i64 ((i + 1 : Nat) : Int))) ∧ (a' ≠ 0 → LookRel t p (.pointer (some ⟨b', 0, none⟩)) (.int .u64 (a' : Nat)) (.int .i64 ((i + 1 : Nat) : Int))))) := by
          refine hide ⟨fun e => ?_, fun b' l' r' a' f' e => ⟨fun ha => ?_, fun ha => ?_⟩⟩
          · have := lk_stuck t.F p i (p.length - i) (fun k h1 h2 => CT.F_stuck t p i k hlt (by rw [hs]; exact e) h1 (by omega))
            rw [show i + (p.length - i) = p.length by omega] at this
            exact this
          · exact ⟨i + 1, b', l', r', a', f', by omega, rfl, by rw [(LookRel.step hlt (hsucc.trans e)).1 ha], rfl, hsucc.trans e⟩
          · exact ⟨i + 1, b', l', r', a', f', by omega, rfl, by rw [(LookRel.step hlt (hsucc.trans e)).2 ha], rfl, hsucc.trans e⟩
        generalize p[i]'hlt = bit at *
        clear hsucc hs
        generalize lk t.F p i = best at *
        cases bit with
        | true =>
          cases r with
          | nil =>
            have hn := hide (HX.out.1 rfl)
            clear HX
            go_wp2
            go_ret
            exact ⟨by rw [hn.out]; rfl, HFR2.out⟩
          | node b' l' r' a' f' =>
            obtain ⟨y1, y2⟩ := HX.out.2 b' l' r' a' f' rfl
            obtain ⟨q0, q1, q2, -⟩ := CT.obj_reads (hh.2.2).1
            replace k1 : wc.cell? ⟨b, 1, none⟩ = some (.pointer (some ⟨b', 0, none⟩)) := k1
            clear HX
            by_cases ha : a' = 0
            · have hn := hide (y1 ha)
              subst ha
              clear y1 y2 hh
              go_wp2
              exact ⟨hn.out, by simp [intOf]; omega⟩
            · have hn := hide (y2 ha)
              have hne : ((a' : Int) != 0) = true := by rw [bne_iff_ne]; omega
              clear y1 y2 hh ha
              go_wp2
              exact ⟨hn.out, by simp [intOf]; omega⟩
        | false =>
          cases l with
          | nil =>
            have hn := hide (HX.out.1 rfl)
            clear HX
            go_wp2
            go_ret
            exact ⟨by rw [hn.out]; rfl, HFR2.out⟩
          | node b' l' r' a' f' =>
            obtain ⟨y1, y2⟩ := HX.out.2 b' l' r' a' f' rfl
            obtain ⟨q0, q1, q2, -⟩ := CT.obj_reads (hh.2.1).1
            replace k0 : wc.cell? ⟨b, 0, none⟩ = some (.pointer (some ⟨b', 0, none⟩)) := k0
            clear HX
            by_cases ha : a' = 0
            · have hn := hide (y1 ha)
              subst ha
              clear y1 y2 hh
              go_wp2
              exact ⟨hn.out, by simp [intOf]; omega⟩
            · have hn := hide (y2 ha)
              have hne : ((a' : Int) != 0) = true := by rw [bne_iff_ne]; omega
              clear y1 y2 hh ha
              go_wp2
              exact ⟨hn.out, by simp [intOf]; omega⟩
      · obtain rfl : i = p.length := by omega
        clear hs
        go_wp2
        go_ret
        exact ⟨rfl, HFR2.out⟩
end Go.Proofs.Ytopdgpmeccdogaa
