/- The coder's smaller methods: what each lays; condition: the coder lies in memory. -/
import Derived.Test.YtpahjllcomejbaaX86Bits
import Derived.Deep.QuietTactic
import Derived.BigQuiet
set_option linter.unusedVariables false
set_option linter.unusedSimpArgs false
namespace Go.Proofs.Ytpahjllcomejbaa
open Go.RowKit Go.MapKept

theorem Cod.frame {w w' : World} {x : Nat} {F : List Nat} {bs : List Int} {bad : Bool} (h : Cod w x F bs bad) (hf : ∀ k ∈ F, w'.heap[k]? = w.heap[k]?) : Cod w' x F bs bad := by
  obtain ⟨v, h1, h2, h3, rfl⟩ := h.ex
  refine ⟨v, by rw [hf x (by simp)]; exact h1, ⟨h2.1, ?_⟩, h3, rfl⟩
  rcases h2.2 with h2 | ⟨g, cap, cur, rfl, hg, hh, r⟩
  · exact .inl h2
  · exact .inr ⟨g, cap, cur, rfl, hg, by rw [hf g (by simp [Value.ownBlock])]; exact hh, r⟩
theorem Cod.alloc {w : World} {x : Nat} {F : List Nat} {bs : List Int} {bad : Bool} (h : Cod w x F bs bad) (o : Obj) : Cod (w.alloc o) x F bs bad :=
  h.frame fun k hk => Below.heap_alloc _ _ k (h.lt k hk)
theorem Cod.fr {w w' : World} {x : Nat} {F : List Nat} {bs : List Int} {bad : Bool} (h : Cod w x F bs bad) (hf : Fr [] [] w w') : Cod w' x F bs bad :=
  h.frame fun k hk => hf.block k (h.lt k hk) (by simp)
theorem Cod.cells {w : World} {x : Nat} {F : List Nat} {bs : List Int} {bad : Bool} (h : Cod w x F bs bad) : ∃ v, w.cell? ⟨x, 0, none⟩ = some v ∧ w.cell? ⟨x, 1, none⟩ = some (.bool bad) ∧ w.frozen? ⟨x, 0, none⟩ = false ∧ w.frozen? ⟨x, 1, none⟩ = false := by
  obtain ⟨v, h1, h2, h3, rfl⟩ := h.ex
  exact ⟨v, cell_at h1 0, cell_at h1 1, frozen_at h1 0, frozen_at h1 1⟩
theorem Cod.setBad {w : World} {x : Nat} {F : List Nat} {bs : List Int} {bad : Bool} (h : Cod w x F bs bad) (b : Bool) : Cod (w.setCell ⟨x, 1, none⟩ (.bool b)) x F bs b := by
  obtain ⟨v, h1, h2, h3, rfl⟩ := h.ex
  exact ⟨v, by simpa using heap_setCell_same (b := x) (i := 1) (v := .bool b) h1, own_set h2 h3, h3, rfl⟩
theorem Cod.mem {w : World} {x : Nat} {F : List Nat} {bs : List Int} {bad : Bool} (h : Cod w x F bs bad) : x ∈ F := by
  obtain ⟨v, h1, h2, h3, rfl⟩ := h.ex; simp
theorem CodPost.pre {w w1 : World} {x : Nat} {F : List Nat} {bs : List Int} {bad : Bool} {e : Ending} {w' : World} (h : CodPost w1 x F bs bad e w') (hf : Fr F F w w1) : CodPost w x F bs bad e w' := by
  obtain ⟨rfl, F', hc, hr⟩ := h
  exact ⟨rfl, F', hc, hf.trans hr⟩
theorem op_lit (w : World) (x : Nat) (F : List Nat) (bs : List Int) (bad : Bool) (h : Cod w x F bs bad) (news : List Int) (m : Nat) (hm : news.length = m) (B : Nat) (hB : w.heap.size = B) (C : Array Value) (hC : (u8s news).toArray = C) (hl : bs.length + m ≤ 100000000000000) :
    Calls Try.prog 24 #[.pointer (some ⟨x, 0, none⟩), .slice (some ⟨B, 0, none⟩) m m] (w.alloc (.cells C 5)) (CodPost w x F (bs ++ news) bad) := by
  subst hB hC
  refine (op_calls _ x F bs bad (h.alloc _) ⟨w.heap.size, 0, none⟩ m m news hm ?_ hl).mono fun e w' hp => hp.pre ((Fr.refl F w).alloc' _)
  intro j u hu
  have e : (⟨w.heap.size, 0, none⟩ : Addr).add j = ⟨w.heap.size, j, none⟩ := by
    unfold Addr.add; split <;> simp_all
  rw [e, cell_at (heap_alloc_new w _) j]
  simpa using hu
/-- A number's lowest bytes. -/
def leB (n : Int) (m : Nat) : List Int := (List.range m).map fun j => n / 2 ^ (8 * j) % 256
theorem leB_succ (n : Int) (m : Nat) : leB n (m + 1) = leB n m ++ [n / 2 ^ (8 * m) % 256] := by simp [leB, List.range_succ]
def NumRel (w : World) (x : Nat) (F : List Nat) (bs : List Int) (bad : Bool) (n : Int) (m : Nat) (v : Value) (wr : World) : Prop :=
  ∃ i : Nat, i ≤ m ∧ v = .int .i64 i ∧ ∃ F', Cod wr x F' (bs ++ leB n i) bad ∧ Fr F F' w wr
theorem NumRel.start (w : World) (x : Nat) (F : List Nat) (bs : List Int) (bad : Bool) (n : Int) (m : Nat) (h : Cod w x F bs bad) : NumRel w x F bs bad n m (.int .i64 0) w :=
  ⟨0, Nat.zero_le _, rfl, F, by simpa [leB] using h, Fr.refl _ _⟩
set_option maxRecDepth 100000 in
set_option maxHeartbeats 800000 in
theorem direct_calls (w : World) (x : Nat) (F : List Nat) (bs : List Int) (bad : Bool) (h : Cod w x F bs bad) (reg rm : Int) (hl : bs.length + 1 ≤ 100000000000000) :
    Calls Try.prog 25 #[.pointer (some ⟨x, 0, none⟩), .int .i64 reg, .int .i64 rm] w (CodPost w x F (bs ++ [192 + reg % 8 * 8 + rm % 8]) bad) := by
  have HO := hide (op_lit w x F bs bad h [192 + reg % 8 * 8 + rm % 8] 1 rfl _ rfl _ rfl hl)
  have b0 := fieldsByte 192 reg rm (by omega)
  generalize 192 + reg % 8 * 8 + rm % 8 = v at *
  clear h
  go_enter Try.func25, Try.ntmps25
  go_wp2_with fail
  refine HO.out.mono ?_
  rintro e w' ⟨rfl, hp⟩
  have HP := hide hp
  clear hp
  go_wp2
  go_end0
  exact ⟨rfl, HP.out⟩
set_option maxRecDepth 100000 in
set_option maxHeartbeats 800000 in
theorem number_calls (w : World) (x : Nat) (F : List Nat) (bs : List Int) (bad : Bool) (h : Cod w x F bs bad) (n : Int) (hn0 : 0 ≤ n) (hn1 : n < 18446744073709551616) (m : Nat) (hm : m ≤ 8) (hl : bs.length + 8 ≤ 100000000000000) :
    Calls Try.prog 28 #[.pointer (some ⟨x, 0, none⟩), .int .u64 n, .int .i64 m] w (CodPost w x F (bs ++ leB n m) bad) := by
  have HC := hide h
  have HL := hide hl
  clear h hl
  have HS := hide (NumRel.start w x F bs bad n m HC.out)
  go_enter Try.func28, Try.ntmps28
  go_wp2_with fail
  go_loopw [8] (fun v wr => NumRel w x F bs bad n m v wr) (fun v _ => m - (intOf v).toNat)
  case atStart => exact HS.out
  case round =>
    obtain ⟨i, hi, rfl, F', hc, hf⟩ := hrel
    have HF := hide hf
    by_cases hlt : i < m
    · have HO := hide (op_lit wr x F' _ bad hc [n / 2 ^ (8 * i) % 256] 1 rfl _ rfl _ rfl (by have := HL.out; simp [leB]; omega))
      have hsh : (8 * (i : Int)).toNat = 8 * i := by omega
      have hsh0 : 0 ≤ 8 * (i : Int) := by omega
      have hsh1 : 8 * (i : Int) ≤ 64 := by omega
      clear hc hf
      go_wp2_with fail
      refine HO.out.mono ?_
      rintro e w' ⟨rfl, F2, hc2, hf2⟩
      have HX := hide (show NumRel w x F bs bad n m (.int .i64 ((i + 1 : Nat) : Int)) w' from ⟨i + 1, by omega, rfl, F2, by rw [leB_succ, ← List.append_assoc]; exact hc2, HF.out.trans hf2⟩)
      clear hc2 hf2
      go_wp2
      exact ⟨HX.out, by simp [intOf]; omega⟩
    · obtain rfl : i = m := by omega
      have HC' := hide hc
      clear hc hf
      go_wp2
      go_end0
      exact ⟨rfl, F', HC'.out, HF.out⟩
/-- Does a number fit four bytes? -/
def fits32 (n : Int) : Bool := decide (-2147483648 ≤ n) && decide (n < 2147483648)
theorem fits32_wrap (n : Int) : (wrap64 (wrap32 n) != n) = !fits32 n := by
  rw [Bool.eq_iff_iff]
  simp [fits32]
  unfold wrap64 wrap32
  omega
theorem leB4 (n : Int) : leB (IntKind.u64.wrap n) 4 = [n % 256, n / 256 % 256, n / 65536 % 256, n / 16777216 % 256] := by
  have e : IntKind.u64.wrap n = n % 18446744073709551616 := by simp [IntKind.wrap, IntKind.bits, IntKind.signed]
  rw [e]
  simp only [leB, List.range, List.range.loop, List.map_cons, List.map_nil]
  have a0 : n % 18446744073709551616 / 2 ^ (8 * 0) % 256 = n % 256 := by simp
  have a1 : n % 18446744073709551616 / 2 ^ (8 * 1) % 256 = n / 256 % 256 := by simp; omega
  have a2 : n % 18446744073709551616 / 2 ^ (8 * 2) % 256 = n / 65536 % 256 := by simp; omega
  have a3 : n % 18446744073709551616 / 2 ^ (8 * 3) % 256 = n / 16777216 % 256 := by simp; omega
  rw [a0, a1, a2, a3]
def b4 (n : Int) : List Int := [n % 256, n / 256 % 256, n / 65536 % 256, n / 16777216 % 256]
set_option maxRecDepth 100000 in
set_option maxHeartbeats 800000 in
theorem imm_calls (w : World) (x : Nat) (F : List Nat) (bs : List Int) (bad : Bool) (h : Cod w x F bs bad) (n : Int) (hl : bs.length + 8 ≤ 100000000000000) :
    Calls Try.prog 29 #[.pointer (some ⟨x, 0, none⟩), .int .i64 n] w (CodPost w x F (bs ++ b4 n) (bad || !fits32 n)) := by
  obtain ⟨v, c0, c1, f0, f1⟩ := h.cells
  have hu2 := Try.underlying41
  have hfw := fits32_wrap n
  have e : IntKind.u64.wrap n = n % 18446744073709551616 := by simp [IntKind.wrap, IntKind.bits, IntKind.signed]
  have HN : ∀ b, Hid (Calls Try.prog 28 #[.pointer (some ⟨x, 0, none⟩), .int .u64 (IntKind.u64.wrap n), .int .i64 4] (w.setCell ⟨x, 1, none⟩ (.bool b)) (CodPost (w.setCell ⟨x, 1, none⟩ (.bool b)) x F (bs ++ b4 n) b)) := fun b => by
    have := number_calls _ x F bs b (h.setBad b) (IntKind.u64.wrap n) (by rw [e]; omega) (by rw [e]; omega) 4 (by omega) hl
    rw [leB4] at this
    exact hide this
  have HM := hide h.mem
  clear h e
  cases bad with
  | true =>
    have HX := HN true
    clear HN hfw
    go_enter Try.func29, Try.ntmps29
    go_wp2_with fail
    refine HX.out.mono ?_
    rintro e w' ⟨rfl, F', hc, hf⟩
    have HC := hide hc
    have HF := hide hf
    clear hc hf
    go_wp2
    go_end0
    exact ⟨rfl, F', HC.out, ((Fr.refl F w).setCell' (.inl HM.out) _).trans HF.out⟩
  | false =>
    have HX := HN (!fits32 n)
    clear HN
    generalize fits32 n = q at *
    go_enter Try.func29, Try.ntmps29
    go_wp2_with fail
    refine HX.out.mono ?_
    rintro e w' ⟨rfl, F', hc, hf⟩
    have HC := hide hc
    have HF := hide hf
    clear hc hf
    go_wp2
    go_end0
    exact ⟨rfl, F', by simpa using HC.out, ((Fr.refl F w).setCell' (.inl HM.out) _).trans HF.out⟩
set_option maxRecDepth 100000 in
set_option maxHeartbeats 800000 in
theorem rex_calls (w : World) (x : Nat) (F : List Nat) (bs : List Int) (bad : Bool) (h : Cod w x F bs bad) (wide : Bool) (reg rm : Int) (hl : bs.length + 1 ≤ 100000000000000) :
    Calls Try.prog 23 #[.pointer (some ⟨x, 0, none⟩), .bool wide, .int .i64 reg, .int .i64 rm] w (CodPost w x F (bs ++ [(if wide = true then 72 else 64) + reg / 8 % 2 * 4 + rm / 8 % 2]) bad) := by
  obtain ⟨v, h1, h2, h3, rfl⟩ := h.ex
  have hu := Try.underlying39
  have hu2 := Try.underlying41
  obtain ⟨i0, hi, hz0, hz1, hz2⟩ := info_parts u8_info
  have c0 := cell_at h1 0
  have c1 := cell_at h1 1
  simp only [List.getElem?_toArray, List.getElem?_cons_zero, List.getElem?_cons_succ] at c0 c1
  have hlt := lt_of_heap h1
  have b0 := rexByte (if wide = true then 72 else 64) reg rm (by cases wide <;> simp)
  have HC := hide h
  have HL := hide hl
  have H3 := hide h3
  have H1 : Hid (∀ o, (w.alloc o).heap[x]? = some (.cells #[v, .bool bad] 41 (0, 0))) := hide fun o => heap_alloc_some h1
  have HR : Hid (∀ o, (w.alloc o).ownsRow 0 5 1 v bs.length (u8s bs)) := hide fun o => h2.alloc o
  have HNW : Hid (∀ a : Int, ∀ j u, (u8s [a])[j]? = some u → (w.alloc (.cells #[.int .u8 a] 5)).cell? ((⟨w.heap.size, 0, none⟩ : Addr).add j) = some u) := hide fun a j u hu => by
    have e : (⟨w.heap.size, 0, none⟩ : Addr).add j = ⟨w.heap.size, j, none⟩ := by
      unfold Addr.add; split <;> simp_all
    rw [e, cell_at (heap_alloc_new w _) j]
    simpa [u8s] using hu
  clear h1 h2 h3 hl h
  cases wide
  all_goals
    simp only [Bool.false_eq_true, if_false, if_true] at b0 ⊢
    generalize hv : _ + reg / 8 % 2 * 4 + rm / 8 % 2 = bv at b0 ⊢
    clear hv
    go_enter Try.func23, Try.ntmps23
    go_wp2_with (at_builtin; refine wpList_append_own_at _ rfl _ _ 39 rfl 0 5 i0 _ 1 1 hu hi hz0 hz1 hz2 rfl (by decide) v bs.length (u8s bs) rfl (HR.out _) ⟨w.heap.size, 0, none⟩ 1 1 (u8s [bv]) rfl rfl (HNW.out bv) (u8s_one _) (by have := HL.out; unfold maxLen; omega) (by have := HL.out; omega) (Nat.zero_le _) ?_; intro v1 w1 hown1 hg1 _ hat1; have hx1 := (hg1.block x (by simp; omega) (fun e => H3.out e.symm)).trans (H1.out _); have d0 := cell_at hx1 0; have f0 := frozen_at hx1 0; simp only [List.getElem?_toArray, List.getElem?_cons_zero, List.getElem?_cons_succ] at d0; clear hx1; obtain ⟨A1, n1, c1', rfl⟩ := own_form hown1; have HO := hide hown1; have HG := hide hg1; have HT := hide hat1; clear hown1 hg1 hat1)
    go_end0
    obtain ⟨a1, a2⟩ := cod_appended (bs' := bs ++ [bv]) (H1.out _) H3.out HG.out (by rw [u8s_append]; exact HO.out) (by simp) HT.out
    exact ⟨rfl, _, a1, ((Fr.refl _ w).alloc' _).trans a2⟩
end Go.Proofs.Ytpahjllcomejbaa
