/- Contracts of kmem's functions New, first, Free, Retire, Fail: each answers as the plain data (KA) say; condition: the world holds the memory (KM). -/
import Derived.Test.YtgkbiknokpmjmaaKData
import Derived.Test.YtgkbiknokpmjmaaProg
set_option linter.unusedVariables false
set_option linter.unusedSimpArgs false
namespace Go.Proofs.Ytgkbiknokpmjmaa
open Go.RowKit Go.MapKept
open Go.ChangeMaps (setBlock)

theorem K.und : Try.prog.underlying 55 = some (.map 3 145) := by kernel_rfl
theorem K.undInt : Try.prog.underlying 3 = some (.int .i64) := by kernel_rfl
theorem K.zero (w : World) : (zeroValue 145).run Try.prog w = .ok (.pointer none) w := by kernel_rfl

theorem KM.cells {w : World} {m : Nat} {c : KC} (h : KM w m c) :
    w.cell? ⟨m, 0, none⟩ = some (.map (some c.mb)) ∧ w.cell? ⟨m, 1, none⟩ = some (.int .i64 c.made) ∧ w.cell? ⟨m, 2, none⟩ = some (.int .i64 c.til) ∧
    w.frozen? ⟨m, 0, none⟩ = false ∧ w.frozen? ⟨m, 1, none⟩ = false ∧ w.frozen? ⟨m, 2, none⟩ = false := by
  simp [World.cell?, World.frozen?, h.hm]

/-- What a look-up of a number tells. -/
def kptr (c : KC) (n : Nat) : Value := .pointer ((c.cs.find? (fun r => r.n == n)).map fun r => ⟨r.b, 0, none⟩)
theorem KM.lookup {w : World} {m : Nat} {c : KC} (h : KM w m c) (n : Nat) :
    (Instr.lookup 55 (.map (some c.mb)) (.int .i64 n) false).run Try.prog w = .ok (kptr c n) w := by
  cases hf : c.cs.find? (fun r => r.n == n) with
  | none =>
    have hn : ∀ e ∈ c.entries.toList, e.key ≠ .int .i64 n := by
      intro e he hk
      simp only [KC.entries, List.mem_map] at he
      obtain ⟨r, hr, rfl⟩ := he
      have := List.find?_eq_none.1 hf r hr
      simp only [RC.entry, Value.int.injEq] at hk
      simp at this
      omega
    rw [run_lookup_miss (k := .int .i64 n) K.und K.undInt rfl h.keys h.hmb (K.zero w) hn]
    simp [kptr, hf]
  | some r =>
    have h1 := List.find?_some hf
    obtain ⟨j, hj, e2⟩ := List.getElem_of_mem (List.mem_of_find?_eq_some hf)
    have hj' : c.cs[j]? = some r := by rw [List.getElem?_eq_getElem hj, e2]
    rw [run_lookup_hit (k := .int .i64 n) K.und K.undInt rfl h.keys h.hmb (entries_at hj') (show r.entry.key = _ by rw [RC.entry, show r.n = n by simpa using h1])]
    simp [kptr, hf, RC.entry]

theorem u64_shl32 (a : Int) (_h0 : 0 ≤ a) (_h1 : a < 18446744073709551616) : IntKind.u64.wrap (a * 4294967296) = (a % 4294967296) * 4294967296 := by
  rw [IntKind.wrap_u64]; omega

/-- The address of what 'first' tells. -/
def kfirst (c : KC) (a : Nat) : Value := if lo32 a = 0 then kptr c (hi32 a) else .pointer none
theorem kptr_cases (c : KC) (n : Nat) : (kptr c n = .pointer none ∧ c.abs.get n = none) ∨ ∃ (j : Nat) (r : RC), c.cs[j]? = some r ∧ r.n = n ∧ kptr c n = .pointer (some ⟨r.b, 0, none⟩) ∧ c.abs.get n = some r.a := by
  have e : c.abs.get n = (c.cs.find? (fun r => r.n == n)).map (·.a) := by
    simp only [KA.get, KC.abs, List.find?_map, Option.map_map]
    rfl
  cases hf : c.cs.find? (fun r => r.n == n) with
  | none => exact .inl ⟨by simp [kptr, hf], by simp [e, hf]⟩
  | some r =>
    have h1 := List.find?_some hf
    obtain ⟨j, hj, e2⟩ := List.getElem_of_mem (List.mem_of_find?_eq_some hf)
    exact .inr ⟨j, r, by rw [List.getElem?_eq_getElem hj, e2], by simpa using h1, by simp [kptr, hf], by simp [e, hf]⟩

theorem kfirst_cases (c : KC) (a : Nat) : (kfirst c a = .pointer none ∧ c.abs.first a = none) ∨ ∃ (j : Nat) (r : RC), c.cs[j]? = some r ∧ r.n = hi32 a ∧ kfirst c a = .pointer (some ⟨r.b, 0, none⟩) ∧ c.abs.first a = some r.a := by
  unfold kfirst KA.first
  by_cases h0 : lo32 a = 0
  · simp only [h0, if_true]
    exact kptr_cases c _
  · simp [h0]

set_option maxRecDepth 100000 in
theorem first_nil (a : Int) (w : World) : Calls Try.prog 81 #[.pointer none, .int .u64 a] w fun e w' => e = .returned (.pointer none) ∧ w = w' := by
  go_enter Try.func81, Try.ntmps81
  go_wp2
  go_ret
  exact ⟨rfl, rfl⟩
set_option maxRecDepth 100000 in
theorem first_any (a : Nat) (m : Nat) (c : KC) (w : World) (h : KM w m c) (h1 : a < 18446744073709551616) :
    Calls Try.prog 81 #[.pointer (some ⟨m, 0, none⟩), .int .u64 a] w fun e w' => e = .returned (kfirst c a) ∧ w = w' := by
  obtain ⟨x, hx⟩ : ∃ x : Int, x = a := ⟨_, rfl⟩
  rw [← hx]
  by_cases ho : x % 4294967296 = 0
  · have hb : (IntKind.u64.wrap (x * 4294967296) != 0) = false := by rw [u64_shl32 x (by omega) (by omega)]; simp [ho]
    have hl := h.lookup (hi32 a)
    have hw : ((hi32 a : Nat) : Int) = wrap64 (x / 4294967296) := by unfold wrap64 hi32; omega
    rw [hw] at hl
    have hv : kfirst c a = kptr c (hi32 a) := by unfold kfirst; rw [if_pos (by unfold lo32; omega)]
    rw [hv]
    obtain ⟨c0, -⟩ := h.cells
    have hx0 : 0 ≤ x := by omega
    clear h1 ho hw h hv hx
    go_enter Try.func81, Try.ntmps81
    go_wp2
    go_ret
    exact ⟨rfl, rfl⟩
  · have hb : (IntKind.u64.wrap (x * 4294967296) != 0) = true := by rw [u64_shl32 x (by omega) (by omega), bne_iff_ne]; omega
    have hv : kfirst c a = .pointer none := by unfold kfirst; rw [if_neg (by unfold lo32; omega)]
    rw [hv]
    clear h1 ho hx hv h
    go_enter Try.func81, Try.ntmps81
    go_wp2
    go_ret
    exact ⟨rfl, rfl⟩

/-! ### New -/
theorem new_calls (w : World) : Calls Try.prog 5 #[] w fun e w' => ∃ m c, e = .returned (.pointer (some ⟨m, 0, none⟩)) ∧ KM w' m c ∧ c.abs = ⟨0, 0, []⟩ ∧ Fr [] (c.foot m) w w' := by
  have hmm := @run_makeMap Try.prog
  go_enter Try.func5, Try.ntmps5
  go_wp2
  go_ret
  refine ⟨w.heap.size + 1, ⟨w.heap.size, 0, 0, 0, []⟩, rfl, ?_, rfl, ?_⟩
  · refine ⟨?_, ?_, by simp, by simp, by simp [KC.foot], by simp, by simp, by simp, by simp, by simp, by simp, by simp, by simp, by simp, by simp⟩
    · have := heap_alloc_new (w.alloc (.map #[] 0)) (.cells #[.map (some w.heap.size), .int .i64 0, .int .i64 0] 57 (0, 0))
      simpa using this
    · exact heap_alloc_some (heap_alloc_new _ _)
  · exact ⟨rfl, rfl, rfl, by simp; omega, fun k hk _ => by rw [Below.heap_alloc _ _ _ (by simp; omega), Below.heap_alloc _ _ _ hk], by simp [KC.foot]⟩

/-! ### Free -/
theorem eraseIdx_map_entry (cs : List RC) (j : Nat) : (cs.map RC.entry).toArray.eraseIdxIfInBounds j = ((cs.eraseIdx j).map RC.entry).toArray := by
  apply Array.ext'
  simp [ChangeMaps.map_eraseIdx]
theorem filter_ne_eraseIdx {cs : List RC} (hn : (cs.map (·.n)).Nodup) {j : Nat} {r : RC} (hj : cs[j]? = some r) :
    (cs.map fun r => (r.n, r.a)).filter (fun x => x.1 != r.n) = (cs.eraseIdx j).map fun r => (r.n, r.a) := by
  induction cs generalizing j with
  | nil => simp at hj
  | cons x l ih =>
    simp only [List.map_cons, List.nodup_cons, List.mem_map, not_exists, not_and] at hn
    cases j with
    | zero =>
      simp only [List.getElem?_cons_zero, Option.some.injEq] at hj
      subst hj
      simp only [List.map_cons, List.filter_cons, bne_self_eq_false, Bool.false_eq_true, if_false, List.eraseIdx_cons_zero]
      rw [List.filter_eq_self]
      intro y hy
      obtain ⟨z, hz, rfl⟩ := List.mem_map.1 hy
      simpa using hn.1 z hz
    | succ j =>
      simp only [List.getElem?_cons_succ] at hj
      have hne : x.n ≠ r.n := fun e => hn.1 r (List.mem_of_getElem? hj) e.symm
      simp [List.filter_cons, hne, ih hn.2 hj]
theorem eraseIdx_sub {α : Type} (l : List α) (j : Nat) : ∀ x ∈ l.eraseIdx j, x ∈ l := fun x hx => List.mem_of_mem_eraseIdx hx
theorem sublist_flatMap {α β : Type} {l l' : List α} (h : l.Sublist l') (f : α → List β) : (l.flatMap f).Sublist (l'.flatMap f) := by
  induction h with
  | slnil => exact List.Sublist.refl _
  | cons a _ ih => rw [List.flatMap_cons]; exact ih.trans (List.sublist_append_right _ _)
  | cons_cons a _ ih => rw [List.flatMap_cons, List.flatMap_cons]; exact (List.Sublist.refl _).append ih
/-- A region less. -/
theorem KM.erase {w : World} {m : Nat} {c : KC} (h : KM w m c) (j : Nat) :
    KM (ChangeMaps.setBlock w c.mb (.map (c.entries.eraseIdxIfInBounds j) c.clk)) m { c with cs := c.cs.eraseIdx j } := by
  have hsub := eraseIdx_sub c.cs j
  have hsl : (c.cs.eraseIdx j).Sublist c.cs := List.eraseIdx_sublist _ _
  have hnd := h.nd
  have hne : ∀ r ∈ c.cs, r.b ≠ c.mb ∧ r.d ≠ c.mb := by
    intro r hr
    simp only [KC.foot, List.nodup_cons, List.mem_flatMap, not_exists, not_and] at hnd
    have := hnd.2.1 r hr
    simp at this
    exact ⟨fun e => this.1 e.symm, fun e => this.2 e.symm⟩
  have hmne : m ≠ c.mb := by
    simp only [KC.foot, List.nodup_cons, List.mem_cons, not_or] at hnd
    exact hnd.1.1
  refine ⟨heap_setBlock_some (fun e => hmne e.symm) h.hm, ?_, fun r hr => heap_setBlock_some (fun e => (hne r (hsub r hr)).1 e.symm) (h.hb r (hsub r hr)), fun r hr => heap_setBlock_some (fun e => (hne r (hsub r hr)).2 e.symm) (h.hd r (hsub r hr)),
    ?_, h.nn.sublist (hsl.map _), h.bn.sublist (hsl.map _), fun r hr => h.bc r (hsub r hr), fun r hr => h.nb r (hsub r hr), fun r hr => h.by_ r (hsub r hr), fun r hr => h.ln r (hsub r hr), fun r hr => h.pm r (hsub r hr), Nat.le_trans hsl.length_le h.lv, h.tl, h.mx⟩
  · rw [heap_setBlock_same h.hmb]
    simp [KC.entries, ChangeMaps.map_eraseIdx]
  · refine h.nd.sublist ?_
    simp only [KC.foot]
    exact ((sublist_flatMap hsl _).cons_cons _).cons_cons _
theorem Fr.setBlock {w : World} {F F' : List Nat} {r : Nat} (hr : r ∈ F) (hs : ∀ k ∈ F', k ∈ F) (o : Obj) : Fr F F' w (ChangeMaps.setBlock w r o) :=
  ⟨rfl, rfl, rfl, by simp [size_setBlock], fun k hk hn => by
    have : r ≠ k := fun e => hn (e ▸ hr)
    simp [ChangeMaps.setBlock, Array.getElem?_setIfInBounds, this], fun k hk => .inl (hs k hk)⟩
theorem foot_erase (m : Nat) (c : KC) (j : Nat) : ∀ k ∈ ({ c with cs := c.cs.eraseIdx j } : KC).foot m, k ∈ c.foot m := by
  intro k hk
  simp only [KC.foot, List.mem_cons, List.mem_flatMap] at hk ⊢
  rcases hk with h | h | ⟨r, hr, h⟩
  · exact .inl h
  · exact .inr (.inl h)
  · exact .inr (.inr ⟨r, eraseIdx_sub _ _ _ hr, h⟩)

set_option maxRecDepth 100000 in
theorem free_calls (a : Nat) (m : Nat) (c : KC) (w : World) (h : KM w m c) (h1 : a < 18446744073709551616) :
    Calls Try.prog 78 #[.pointer (some ⟨m, 0, none⟩), .int .u64 a] w (KPost m c w (.int .i64 (c.abs.free a).1) (c.abs.free a).2) := by
  obtain ⟨x, hx⟩ : ∃ x : Int, x = a := ⟨_, rfl⟩
  rcases kfirst_cases c a with ⟨hv, hf⟩ | ⟨j, r, hj, hn, hv, hf⟩
  · have e1 : c.abs.free a = (1, c.abs) := by unfold KA.free; rw [hf]
    rw [e1]
    go_enter Try.func78, Try.ntmps78
    go_wp2_with (go_at_call 81; refine (first_any a m c w h h1).mono ?_; rintro e w' ⟨rfl, rfl⟩; rw [hv])
    go_ret
    exact ⟨c, rfl, h, rfl, Fr.refl _ _⟩
  · have e1 : c.abs.free a = (0, { c.abs with live := c.abs.live.filter fun x => x.1 != hi32 a }) := by unfold KA.free; rw [hf]
    rw [e1]
    have hd := run_delete_hit (P := Try.prog) (w := w) (k := .int .i64 (wrap64 (x / 4294967296))) K.und K.undInt rfl h.keys h.hmb (entries_at hj) (by simp only [RC.entry, Value.int.injEq, true_and]; rw [hn]; unfold hi32 wrap64; omega) 3 0
    have hd2 := h.erase j
    have hab : ({ c with cs := c.cs.eraseIdx j } : KC).abs = { c.abs with live := c.abs.live.filter fun x => x.1 != hi32 a } := by
      have := filter_ne_eraseIdx h.nn hj
      simp only [KC.abs, ← hn, this]
    obtain ⟨c0, -⟩ := h.cells
    have hfc := first_any a m c w h h1
    rw [← hx] at hfc ⊢
    have hx0 : 0 ≤ x := by omega
    have hmb := KC.mem_mb m c
    clear h hx e1 hf h1
    go_enter Try.func78, Try.ntmps78
    go_wp2_with (go_at_call 81; refine hfc.mono ?_; rintro e w' ⟨rfl, rfl⟩; rw [hv])
    go_ret
    exact ⟨_, rfl, hd2, hab, Fr.setBlock hmb (foot_erase m c j) _⟩
end Go.Proofs.Ytgkbiknokpmjmaa
