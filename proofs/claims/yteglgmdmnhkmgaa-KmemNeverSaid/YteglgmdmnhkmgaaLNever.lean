/- The law KmemNever returns true for every input; no condition. -/
import Derived.Test.YteglgmdmnhkmgaaKAwake
import Derived.Test.YteglgmdmnhkmgaaKRegs0
set_option linter.unusedVariables false
set_option linter.unusedSimpArgs false
namespace Go.Proofs.Yteglgmdmnhkmgaa
open Go.RowKit Go.MapKept
open Go.ChangeMaps (setBlock)

/-- A slice of integers that came in. -/
def RowI (k : IntKind) (w : World) (a : Option Addr) (len cap : Nat) (zs : List Int) : Prop :=
  (a = none ∧ len = 0 ∧ cap = 0 ∧ zs = []) ∨
  ∃ x, a = some x ∧ len ≤ cap ∧ cap ≤ maxLen ∧ zs.length = cap ∧ (∀ i, i < zs.length → w.cell? (x.add i) = some (.int k (zs.getD i 0))) ∧ ∀ n ∈ zs, (Lit.int k n).wf = true

def naddr (i : Nat) : Nat := (i + 1) * 4294967296
def nk (i : Nat) : KA := ⟨i, 0, []⟩
def nk1 (i s : Nat) : KA := ⟨i + 1, 0, [(i + 1, ⟨List.replicate s 0, 3, false⟩)]⟩
theorem hi_naddr (j : Nat) : hi32 (naddr j) = j + 1 := by unfold hi32 naddr; omega
theorem lo_naddr (j : Nat) : lo32 (naddr j) = 0 := by unfold lo32 naddr; omega
theorem n1 (i s : Nat) (h1 : 1 ≤ s) (h2 : s ≤ 100) : (nk i).alloc s 3 = (naddr i, 0, nk1 i s) := by
  have e1 : (nk i).til = 0 := rfl
  have e2 : (nk i).live.length = 0 := rfl
  unfold KA.alloc
  rw [if_neg (by omega), if_neg (by rw [e1]; omega), if_neg (by rw [e2]; omega)]
  have e3 : (nk i).allocOk s 3 = nk1 i s := by simp [KA.allocOk, nk, nk1]
  rw [e3]
  rfl
theorem n2' (i s j a : Nat) (h : j < i) (h1 : hi32 a = j + 1) : (nk1 i s).read a 1 = (0, 21) := by
  unfold KA.read KA.span
  rw [h1]
  have : (nk1 i s).get (j + 1) = none := by
    simp only [KA.get, nk1, List.find?_cons, List.find?_nil]
    rw [show (i + 1 == j + 1) = false by rw [beq_eq_false_iff_ne]; omega]
    rfl
  have hm : (nk1 i s).made = i + 1 := rfl
  rw [show sizedB 1 = true from rfl]
  simp only [if_true]
  rw [this, hm, if_neg (by omega)]
theorem n2 (i s j : Nat) (h : j < i) : (nk1 i s).read (naddr j) 1 = (0, 21) := n2' i s j _ h (hi_naddr j)
theorem n3' (i s a : Nat) (h1 : hi32 a = i + 1) (h2 : lo32 a = 0) : (nk1 i s).free a = (0, nk (i + 1)) := by
  unfold KA.free KA.first
  rw [h1, h2]
  simp [KA.get, nk1, nk]
theorem n3 (i s : Nat) : (nk1 i s).free (naddr i) = (0, nk (i + 1)) := n3' i s _ (hi_naddr i) (lo_naddr i)
theorem naddr_lt (k : Nat) (h : k < 60) : naddr k < 18446744073709551616 := by unfold naddr; omega

def NL (w : World) (m : Nat) (wr : World) (v : Value) (k : Nat) : Prop :=
  ∃ F, KS wr m (nk k) F ∧ Fr [] F w wr ∧ wr.ownsRow 0 22 1 v k ((List.range k).map fun i => Value.int .u64 (naddr i)) ∧ ∀ g, v.ownBlock = some g → w.heap.size ≤ g ∧ g ∉ F
theorem K.info22 : (Try.prog.info? 22).map (fun i => (i.zero, i.size, i.bytes)) = some (some (.int .u64 0), 1, 8) := by kernel_rfl
theorem K.undU64s : Try.prog.underlying 35 = some (.slice 22) := by kernel_rfl
theorem own_cells {w : World} {v : Value} {k : Nat} {f : Nat → Value} (h : w.ownsRow 0 22 1 v k ((List.range k).map f)) (hk : 1 ≤ k) :
    ∃ g cap, v = .slice (some ⟨g, 0, none⟩) k cap ∧ v.ownBlock = some g ∧ g < w.heap.size ∧ ∀ j, j < k → w.cell? ⟨g, j, none⟩ = some (f j) := by
  have h0 := h
  rcases h.2 with ⟨_, hz⟩ | ⟨g, cap, cur, hv, -, hh, hcap, -, -, -⟩
  · omega
  · refine ⟨g, cap, hv, by rw [hv]; rfl, lt_of_heap hh, fun j hj => ?_⟩
    have := h0.cells (g := g) (by rw [hv]; rfl) j (f j) (by simp [hj])
    rwa [show (⟨g, 0, none⟩ : Addr).add j = ⟨g, j, none⟩ by unfold Addr.add; split <;> simp_all] at this

set_option maxRecDepth 100000 in
theorem law_never (a : Option Addr) (len cap : Nat) (zs : List Int) (w : World) (hr : RowI .i64 w a len cap zs) :
    Calls Try.prog 5 #[.slice a len cap] w fun e w' => e = .returned (.bool true) ∧ Below w.heap.size w w' := by
  obtain ⟨i0, hi, hz0, hz1, hz2⟩ := info_parts K.info22
  have HR := hide hr
  clear hr
  go_enter Try.func5, Try.ntmps5
  go_wp2_with fail
  refine (new_S w).mono ?_
  rintro e w1 ⟨m, F, rfl, h0, f0⟩
  go_wp2_with fail
  go_loopw [5, 4] (fun i v wr => ∃ k : Nat, k ≤ len ∧ k ≤ 60 ∧ i = .int .i64 k ∧ NL w m wr v k) (fun i _ _ => 60 - (intOf i).toNat)
  case atStart => exact ⟨0, Nat.zero_le _, Nat.zero_le _, rfl, F, h0, f0, World.ownsRow_nil _ _ _ _, fun g hg => by cases hg⟩
  case round =>
    obtain ⟨k, hk, hk60, rfl, hG⟩ := hrel
    by_cases hlt : k < len ∧ k < 60
    · obtain ⟨hlt1, hlt2⟩ := hlt
      obtain ⟨F1, h1, f1, o1, nb1⟩ := hG
      have hrow : ∃ b o, a = some ⟨b, o, none⟩ ∧ wr.cell? ⟨b, o + k, none⟩ = some (.int .i64 (zs.getD k 0)) := by
        rcases HR.out with ⟨_, hz, _⟩ | ⟨x, rfl, hlc, hcm, hzl, hc, hwf⟩
        · omega
        · have := hc k (by omega)
          obtain ⟨b, o, sp⟩ := x
          have hsp : sp = none := by
            have h0 := hc 0 (by omega)
            simpa [Addr.add] using World.cell?_spot h0
          subst hsp
          refine ⟨b, o, rfl, ?_⟩
          rw [show (⟨b, o, none⟩ : Addr).add k = ⟨b, o + k, none⟩ by unfold Addr.add; split <;> simp_all] at this
          rw [f1.below0.cell (p := ⟨b, o + k, none⟩) (lt_of_cell this)]
          exact this
      obtain ⟨b, o, ha, hcell⟩ := hrow
      have hshape : ∃ ao c', u4 = .slice ao k c' := by
        rcases o1.2 with ⟨hv, hz⟩ | ⟨g, cap, cur, hv, _⟩
        · exact ⟨_, _, hz ▸ hv⟩
        · exact ⟨_, _, hv⟩
      obtain ⟨ao, c', hsh⟩ := hshape
      subst hsh
      subst ha
      generalize zs.getD k 0 = z at hcell
      obtain ⟨s, hs⟩ : ∃ s : Nat, (s : Int) = max 1 (min z 100) := ⟨(max 1 (min z 100)).toNat, by omega⟩
      have hs1 : 1 ≤ s ∧ s ≤ 100 := by omega
      have hmn : ∀ W, (Builtin.min_ #[3, 3] 3 #[.int .i64 z, .int .i64 100]).run Try.prog W = .ok (.int .i64 (min z 100)) W := fun W => by
        rw [run_min_int2]
        congr 2
        split <;> omega
      have hmx : ∀ W, (Builtin.max_ #[3, 3] 3 #[.int .i64 1, .int .i64 (min z 100)]).run Try.prog W = .ok (.int .i64 s) W := fun W => by
        rw [run_max_int2]
        congr 2
        split <;> omega
      have hlti : (k : Int) < len := by omega
      clear hs
      go_wp2_with fail
      refine (alloc_S h1 (show k + 1 < 4294967296 by omega) (n1 k s hs1.1 hs1.2)).mono ?_
      rintro e w2 ⟨F2, rfl, h2, f2⟩
      clear hmn hmx hcell
      have HO := ownsRow_keep o1 (fun g hg => f2.block g (ownsRow_lt o1 g hg) (nb1 g hg).2)
      have HN : ∀ g, (Value.slice ao k c').ownBlock = some g → w.heap.size ≤ g ∧ g ∉ F2 ∧ g < w2.heap.size := fun g hg => ⟨(nb1 g hg).1, f2.notin (ownsRow_lt o1 g hg) (nb1 g hg).2, ownsRow_lt HO g hg⟩
      have HN := hide HN
      have HO := hide HO
      have hf2 := f1.trans f2
      clear o1 nb1 h1 f1 f2
      go_wp2_with fail
      go_loop [8] (fun i => ∃ q : Nat, q ≤ k ∧ i = .int .i64 q) (fun i => k - (intOf i).toNat)
      case atStart => exact ⟨0, Nat.zero_le _, rfl⟩
      case round =>
        obtain ⟨q, hq, rfl⟩ := hrel
        by_cases hqk : q < k
        · obtain ⟨g, gcap, hv, hgo, hgl, hgc⟩ := own_cells HO.out (by omega)
          have hcell := hgc q hqk
          have hne : ((naddr q : Int) == (naddr k : Int)) = false := by rw [beq_eq_false_iff_ne]; unfold naddr; omega
          clear hgc hgo hgl
          simp only [Value.slice.injEq, true_and] at hv
          obtain ⟨rfl, rfl⟩ := hv
          go_wp2_with fail
          refine (read_S (n := 1) h2 rfl (naddr_lt q (by omega)) (n2 k s q hqk)).mono ?_
          rintro e w5 ⟨rfl, rfl⟩
          go_wp2
          exact ⟨⟨q + 1, by omega, by go_num⟩, by simp [intOf]; omega⟩
        · obtain rfl : q = k := by omega
          go_wp2_with fail
          refine (free_S h2 rfl (naddr_lt q (by omega)) (n3 q s)).mono ?_
          rintro e w5 ⟨F5, rfl, h5, f5⟩
          have hf5 := hf2.trans f5
          have HO5 := ownsRow_keep HO.out (fun g hg => f5.block g (HN.out g hg).2.2 (HN.out g hg).2.1)
          have HN5 : ∀ g, (Value.slice ao q c').ownBlock = some g → w.heap.size ≤ g ∧ g ∉ F5 ∧ g < w5.heap.size := fun g hg => ⟨(HN.out g hg).1, f5.notin (HN.out g hg).2.2 (HN.out g hg).2.1, ownsRow_lt HO5 g hg⟩
          have HN5 := hide HN5
          have hw5 := hf5.size
          clear HO HN h2 f5 hf2
          go_wp2_with (at_builtin; refine wpList_append_own_at _ rfl _ _ 35 rfl 0 22 i0 (.int .u64 0) 1 8 K.undU64s hi hz0 hz1 hz2 rfl (by decide) _ _ _ rfl (HO5.alloc _) ⟨w5.heap.size, 0, none⟩ 1 1 [.int .u64 (naddr q)] rfl rfl (cell_one_new _ _ _) ?c1 ?c2 ?c3 (Nat.zero_le _) ?_)
          case c1 => simp [Value.oneCell']
          case c2 => unfold maxLen; omega
          case c3 => omega
          intro v' w6 hown' hgrow hnil hat
          have HR2 : Hid (NL w m w6 v' (q + 1)) := by
            have e1 : (List.range (q + 1)).map (fun i => Value.int .u64 (naddr i)) = (List.range q).map (fun i => Value.int .u64 (naddr i)) ++ [.int .u64 (naddr q)] := by
              rw [List.range_succ]; simp
            refine ⟨F5, ?_, ?_, by rw [e1]; exact hown', ?_⟩
            · exact (h5.alloc _).own hgrow (fun b hb => (HN5.out b hb).2.1)
            · exact (hf5.alloc _).own hgrow (fun b hb => (HN5.out b hb).1)
            · intro g hg
              rw [hg] at hat
              rcases hat with hat | hat
              · exact ⟨(HN5.out g hat.symm).1, (HN5.out g hat.symm).2.1⟩
              · have hg' : g = w5.heap.size + 1 := by simpa using hat
                exact ⟨by omega, fun hf => by have := h5.lt g hf; omega⟩
          clear hown' hgrow hnil hat HN5 HO5 hf5 h5 hw5
          go_wp2
          exact ⟨⟨q + 1, by omega, by omega, by go_num, HR2.out⟩, by simp [intOf]; omega⟩
    · obtain ⟨F1, h1, f1, o1, nb1⟩ := hG
      clear o1 nb1
      by_cases hkl : k < len
      · have hk2 : k = 60 := by omega
        subst hk2
        have hkl' : ((60 : Nat) : Int) < len := by omega
        go_wp2_with fail
        refine (regions_none_S h1 rfl).mono ?_
        rintro e w2 ⟨F2, rfl, h2, f2⟩
        replace f2 := f1.trans f2
        go_wp2_with fail
        refine (kawake w2).mono ?_
        rintro e w3 ⟨rfl, hb⟩
        go_wp2
        go_ret
        exact ⟨rfl, f2.below0.trans (hb.mono f2.size)⟩
      · have hkl' : ¬ (k : Int) < len := by omega
        go_wp2_with fail
        refine (regions_none_S h1 rfl).mono ?_
        rintro e w2 ⟨F2, rfl, h2, f2⟩
        replace f2 := f1.trans f2
        go_wp2_with fail
        refine (kawake w2).mono ?_
        rintro e w3 ⟨rfl, hb⟩
        go_wp2
        go_ret
        exact ⟨rfl, f2.below0.trans (hb.mono f2.size)⟩
end Go.Proofs.Yteglgmdmnhkmgaa
