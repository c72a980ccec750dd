/- The law KmemGrace returns true for every input; no condition. -/
import Derived.Test.YteglgmdmnhkmgaaKAwake
import Derived.Maps.AppendAt
set_option linter.unusedVariables false
set_option linter.unusedSimpArgs false
namespace Go.Proofs.Yteglgmdmnhkmgaa
open Go.RowKit Go.MapKept
open Go.ChangeMaps (setBlock)

theorem ownsRow_keep {w w' : World} {base : Nat} {e : TypeId} {size : Nat} {v : Value} {n : Nat} {xs : List Value} (h : w.ownsRow base e size v n xs) (hk : ∀ g, v.ownBlock = some g → w'.heap[g]? = w.heap[g]?) : w'.ownsRow base e size v n xs := by
  obtain ⟨h1, h2⟩ := h
  refine ⟨h1, ?_⟩
  rcases h2 with h2 | ⟨g, cap, cur, hv, hg, hh, r⟩
  · exact .inl h2
  · exact .inr ⟨g, cap, cur, hv, hg, by rw [hk g (by rw [hv]; rfl)]; exact hh, r⟩
theorem ownsRow_lt {w : World} {base : Nat} {e : TypeId} {size : Nat} {v : Value} {n : Nat} {xs : List Value} (h : w.ownsRow base e size v n xs) : ∀ g, v.ownBlock = some g → g < w.heap.size := by
  intro g hg
  rcases h.2 with ⟨rfl, _⟩ | ⟨g', cap, cur, rfl, _, hh, _⟩
  · cases hg
  · cases hg
    exact lt_of_heap hh
theorem Fr.own {F F' : List Nat} {w w1 w2 : World} {row : Option Nat} (h : Fr F F' w w1) (g : w1.grownBy w2 row) (hr : ∀ b, row = some b → w.heap.size ≤ b) : Fr F F' w w2 :=
  ⟨g.os.trans h.os, g.tape.trans h.tape, g.output.trans h.output, Nat.le_trans h.size g.size, fun k hk hn => by
    rw [g.block k (Nat.lt_of_lt_of_le hk h.size) (fun e => by have := hr k e.symm; omega)]; exact h.block k hk hn, h.foot⟩
theorem Fr.alloc {F F' : List Nat} {w w1 : World} (h : Fr F F' w w1) (o : Obj) : Fr F F' w (w1.alloc o) :=
  h.own (World.grownBy_alloc w1 o none) (fun _ e => by cases e)
theorem KS.own {w w2 : World} {m : Nat} {k : KA} {F : List Nat} {row : Option Nat} (h : KS w m k F) (g : w.grownBy w2 row) (hr : ∀ b, row = some b → b ∉ F) : KS w2 m k F :=
  h.frame fun b hb => g.block b (h.lt b hb) (fun e => hr b e.symm hb)

def gaddr (i : Nat) : Nat := (i + 1) * 4294967296
def gk (k : Nat) : KA := ⟨k, 0, (List.range k).map fun i => (i + 1, ⟨leBytes i 4, 3, true⟩)⟩
def ga (k : Nat) : KA := ⟨k + 1, 0, (gk k).live ++ [(k + 1, ⟨[0, 0, 0, 0], 3, false⟩)]⟩
def gb (k : Nat) : KA := ⟨k + 1, 0, (gk k).live ++ [(k + 1, ⟨[0, 0, 0, 0], 3, true⟩)]⟩
theorem g1 : ∀ k, k < 30 → (gk k).alloc 4 3 = (gaddr k, 0, ga k) := by decide +kernel
theorem g2 : ∀ k, k < 30 → (ga k).retire (gaddr k) = (0, gb k) := by decide +kernel
theorem g3 : ∀ k, k < 30 → (gb k).retire (gaddr k) = (1, gb k) := by decide +kernel
theorem g4 : ∀ k, k < 30 → (gb k).write (gaddr k) 4 k = (0, gk (k + 1)) := by decide +kernel
theorem g5 : ∀ n, n < 31 → ∀ i, i < n → (gk n).read (gaddr i) 4 = (i, 0) := by decide +kernel
theorem g6 : ∀ n, n < 31 → (gk n).grace = ⟨n, 0, []⟩ := by decide +kernel
theorem g7 : ∀ n, n < 31 → ∀ i, i < n → (KA.mk n 0 []).read (gaddr i) 4 = (0, 21) := by decide +kernel
theorem gmade (k : Nat) (h : k < 30) : (gk k).made + 1 < 4294967296 := by simp [gk]; omega
theorem gaddr_lt (k : Nat) (h : k < 30) : gaddr k < 18446744073709551616 := by unfold gaddr; omega
theorem K.info22 : (Try.prog.info? 22).map (fun i => (i.zero, i.size, i.bytes)) = some (some (.int .u64 0), 1, 8) := by kernel_rfl
theorem K.undU64s : Try.prog.underlying 35 = some (.slice 22) := by kernel_rfl

/-- After k rounds of the first loop. -/
def GL (w : World) (m : Nat) (wr : World) (v : Value) (k : Nat) : Prop :=
  ∃ F, KS wr m (gk k) F ∧ Fr [] F w wr ∧ wr.ownsRow 0 22 1 v k ((List.range k).map fun i => Value.int .u64 (gaddr i)) ∧ ∀ g, v.ownBlock = some g → w.heap.size ≤ g ∧ g ∉ F

set_option maxRecDepth 100000 in
theorem law_grace (n : Int) (w : World) : Calls Try.prog 4 #[.int .i64 n] w fun e w' => e = .returned (.bool true) ∧ Below w.heap.size w w' := by
  obtain ⟨i0, hi, hz0, hz1, hz2⟩ := info_parts K.info22
  obtain ⟨N, hN⟩ : ∃ N : Nat, (N : Int) = max 1 (min n 30) := ⟨(max 1 (min n 30)).toNat, by omega⟩
  have hN1 : 1 ≤ N ∧ N ≤ 30 := by omega
  have hmn : ∀ W, (Builtin.min_ #[3, 3] 3 #[.int .i64 n, .int .i64 30]).run Try.prog W = .ok (.int .i64 (min n 30)) W := fun W => by
    rw [run_min_int2]
    congr 2
    split <;> omega
  have hmx : ∀ W, (Builtin.max_ #[3, 3] 3 #[.int .i64 1, .int .i64 (min n 30)]).run Try.prog W = .ok (.int .i64 N) W := fun W => by
    rw [run_max_int2]
    congr 2
    split <;> omega
  clear hN
  go_enter Try.func4, Try.ntmps4
  go_wp2_with fail
  refine (new_S w).mono ?_
  rintro e w1 ⟨m, F, rfl, h0, f0⟩
  go_wp2_with fail
  go_loopw [5, 4] (fun i v wr => ∃ k : Nat, k ≤ N ∧ i = .int .i64 k ∧ GL w m wr v k) (fun i _ _ => N - (intOf i).toNat)
  case atStart => exact ⟨0, Nat.zero_le _, rfl, F, h0, f0, World.ownsRow_nil _ _ _ _, fun g hg => by cases hg⟩
  case round =>
    obtain ⟨k, hk, rfl, hG⟩ := hrel
    by_cases hlt : k < N
    · obtain ⟨F1, h1, f1, o1, n1⟩ := hG
      go_wp2_with fail
      refine (alloc_S h1 (gmade k (by omega)) (g1 k (by omega))).mono ?_
      rintro e w2 ⟨F2, rfl, h2, f2⟩
      go_wp2_with fail
      refine (retire_S h2 rfl (gaddr_lt k (by omega)) (g2 k (by omega))).mono ?_
      rintro e w3 ⟨F3, rfl, h3, f3⟩
      go_wp2_with fail
      refine (retire_S h3 rfl (gaddr_lt k (by omega)) (g3 k (by omega))).mono ?_
      rintro e w4 ⟨F4, rfl, h4, f4⟩
      go_wp2_with fail
      refine (write_S (n := 4) h4 rfl rfl (gaddr_lt k (by omega)) (g4 k (by omega))).mono ?_
      rintro e w5 ⟨F5, rfl, h5, f5⟩
      have f25 := f2.trans (f3.trans (f4.trans f5))
      have HO := ownsRow_keep o1 (fun g hg => f25.block g (ownsRow_lt o1 g hg) (n1 g hg).2)
      have F05 := f1.trans f25
      have HN : ∀ g, u4.ownBlock = some g → w.heap.size ≤ g ∧ g ∉ F5 ∧ g < w5.heap.size := fun g hg => ⟨(n1 g hg).1, f25.notin (ownsRow_lt o1 g hg) (n1 g hg).2, ownsRow_lt HO g hg⟩
      have HN := hide HN
      have hw5 := F05.size
      clear h1 f1 o1 n1 h2 f2 h3 f3 h4 f4 f5 f25
      go_wp2_with (at_builtin; refine wpList_append_own_at _ rfl _ _ 35 rfl 0 22 i0 (.int .u64 0) 1 8 K.undU64s hi hz0 hz1 hz2 rfl (by decide) _ _ _ rfl (HO.alloc _) ⟨w5.heap.size, 0, none⟩ 1 1 [.int .u64 (gaddr k)] rfl rfl (cell_one_new _ _ _) ?c1 ?c2 ?c3 (Nat.zero_le _) ?_)
      case c1 => simp [Value.oneCell']
      case c2 => unfold maxLen; omega
      case c3 => omega
      intro v' w6 hown' hgrow hnil hat
      have HR : Hid (GL w m w6 v' (k + 1)) := by
        have e1 : (List.range (k + 1)).map (fun i => Value.int .u64 (gaddr i)) = (List.range k).map (fun i => Value.int .u64 (gaddr i)) ++ [.int .u64 (gaddr k)] := by
          rw [List.range_succ]; simp
        refine ⟨F5, ?_, ?_, by rw [e1]; exact hown', ?_⟩
        · exact (h5.alloc _).own hgrow (fun b hb => (HN.out b hb).2.1)
        · exact (F05.alloc _).own hgrow (fun b hb => (HN.out b hb).1)
        · intro g hg
          rw [hg] at hat
          rcases hat with hat | hat
          · exact ⟨(HN.out g hat.symm).1, (HN.out g hat.symm).2.1⟩
          · have hg' : g = w5.heap.size + 1 := by simpa using hat
            exact ⟨by omega, fun hf => by have := h5.lt g hf; omega⟩
      clear hown' hgrow hnil hat HN HO F05 h5 hw5
      go_wp2
      exact ⟨⟨k + 1, by omega, by go_num, HR.out⟩, by simp [intOf]; omega⟩
    · obtain rfl : k = N := by omega
      obtain ⟨F1, h1, f1, o1, n1⟩ := hG
      have O1 := hide (And.intro o1 n1)
      clear o1 n1 hk
      rcases O1.out.1.2 with ⟨_, hz⟩ | ⟨g, cap, cur, hv, -, hh, hcap, -, -, -⟩
      · omega
      have HC : Hid (∀ j, j < k → wr.cell? ⟨g, j, none⟩ = some (.int .u64 (gaddr j))) := fun j hj => by
        have := O1.out.1.cells (g := g) (by rw [hv]; rfl) j (.int .u64 (gaddr j)) (by simp [hj])
        rwa [show (⟨g, 0, none⟩ : Addr).add j = ⟨g, j, none⟩ by unfold Addr.add; split <;> simp_all] at this
      have hg1 := (O1.out.2 g (by rw [hv]; rfl))
      have HG := hide (And.intro hg1.1 (And.intro hg1.2 (lt_of_heap hh)))
      subst hv
      clear O1 hh hg1
      go_wp2_with fail
      go_loop [8] (fun i => ∃ q : Nat, q ≤ k ∧ i = .int .i64 q) (fun i => k - (intOf i).toNat)
      case atStart => exact ⟨0, Nat.zero_le _, rfl⟩
      case round =>
        obtain ⟨q, hq, rfl⟩ := hrel
        by_cases hqk : q < k
        · have hcell := HC.out q hqk
          go_wp2_with fail
          refine (read_S (n := 4) h1 rfl (gaddr_lt q (by omega)) (g5 k (by omega) q hqk)).mono ?_
          rintro e w5 ⟨rfl, rfl⟩
          go_wp2
          exact ⟨⟨q + 1, by omega, by go_num⟩, by simp [intOf]; omega⟩
        · obtain rfl : q = k := by omega
          go_wp2_with fail
          refine (grace_S h1 (g6 q (by omega))).mono ?_
          rintro e w7 ⟨F7, rfl, h7, f7⟩
          have HD : Hid (∀ j, j < q → w7.cell? ⟨g, j, none⟩ = some (.int .u64 (gaddr j))) := fun j hj => by
            rw [World.cell?_of_block (w := wr) (f7.block g HG.out.2.2 HG.out.2.1)]
            exact HC.out j hj
          replace f7 := f1.trans f7
          clear HC HG
          go_wp2_with fail
          go_loop [11] (fun i => ∃ k : Nat, k ≤ q ∧ i = .int .i64 k) (fun i => q - (intOf i).toNat)
          case atStart => exact ⟨0, Nat.zero_le _, rfl⟩
          case round =>
            obtain ⟨k, hk, rfl⟩ := hrel
            by_cases hkq : k < q
            · have hcell := HD.out k hkq
              go_wp2_with fail
              refine (read_S (n := 4) h7 rfl (gaddr_lt k (by omega)) (g7 q (by omega) k hkq)).mono ?_
              rintro e w8 ⟨rfl, rfl⟩
              go_wp2
              exact ⟨⟨k + 1, by omega, by go_num⟩, by simp [intOf]; omega⟩
            · go_wp2_with fail
              refine (kawake w7).mono ?_
              rintro e w8 ⟨rfl, hb⟩
              go_wp2
              go_ret
              exact ⟨rfl, f7.below0.trans (hb.mono f7.size)⟩
end Go.Proofs.Yteglgmdmnhkmgaa
