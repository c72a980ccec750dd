/- Contracts of the hash table's use, Lookup, Len: they answer as the plain data say; condition: the table lies in the world. -/
import Derived.Test.YtgkbiknokpmjmaaHData
import Derived.StillTailTactics
import Derived.Deep.RegionWith
set_option linter.unusedVariables false
set_option linter.unusedSimpArgs false
namespace Go.Proofs.Ytgkbiknokpmjmaa
open Go.RowKit Go.MapKept
open Go.ChangeMaps (setBlock)

/-! ### Plain data -/
structure HA where
  es : List HE
  clock : Nat
def HE.mark (e : HE) (c : Nat) : HE := { e with used := c }
def HA.mark (h : HA) (key : ByteArray) : HA := ⟨h.es.map fun e => if e.key = key then e.mark (h.clock + 1) else e, h.clock + 1⟩
def HA.find (h : HA) (key : ByteArray) : Option HE := h.es.find? fun e => e.key = key
def HA.lookup (h : HA) (key : ByteArray) : Nat × HA := match h.find key with | none => (0, h) | some e => (e.at_, h.mark key)
def HT.abs (t : HT) : HA := ⟨t.es.map (·.e), t.clock⟩
/-- The world holds the table. -/
def HS (w : World) (x m : Nat) (s : HSpec) (h : HA) (G : List Nat) : Prop := ∃ t, HM w x m s t ∧ t.abs = h ∧ G = t.foot x
def HPostS (x m : Nat) (s : HSpec) (G : List Nat) (w : World) (v : Value) (h : HA) (e : Ending) (w' : World) : Prop := ∃ G', e = .returned v ∧ HS w' x m s h G' ∧ Fr G G' w w'
theorem HS.frame {w w' : World} {x m : Nat} {s : HSpec} {h : HA} {G : List Nat} (H : HS w x m s h G) (hf : ∀ b ∈ G, w'.heap[b]? = w.heap[b]?) : HS w' x m s h G := by
  obtain ⟨t, h1, h2, rfl⟩ := H
  exact ⟨t, h1.frame hf, h2, rfl⟩
theorem HS.lt {w : World} {x m : Nat} {s : HSpec} {h : HA} {G : List Nat} (H : HS w x m s h G) : ∀ b ∈ G, b < w.heap.size := by
  obtain ⟨t, h1, h2, rfl⟩ := H
  exact h1.lt
theorem HS.fr {w w' : World} {x m : Nat} {s : HSpec} {h : HA} {G F F' : List Nat} (H : HS w x m s h G) (hf : Fr F F' w w') (hd : ∀ b ∈ G, b ∉ F) : HS w' x m s h G :=
  H.frame fun b hb => hf.block b (H.lt b hb) (hd b hb)

/-! ### use -/
def useW (w : World) (x b c : Nat) : World := (w.setCell ⟨x, 6, none⟩ (.int .i64 ((c : Int) + 1))).setCell ⟨b, 1, none⟩ (.int .i64 ((c : Int) + 1))
set_option maxRecDepth 100000 in
theorem use_calls {w : World} {x m : Nat} {s : HSpec} {t : HT} (h : HM w x m s t) {j : Nat} {r : HC} (hj : t.es[j]? = some r) (hc : t.clock + 1 < 9223372036854775808) :
    Calls Try.prog 65 #[.pointer (some ⟨x, 0, none⟩), .pointer (some ⟨r.b, 0, none⟩)] w fun e w' => e = .returned (.tuple #[]) ∧ w' = useW w x r.b t.clock := by
  have hr := List.mem_of_getElem? hj
  have hne : r.b ≠ x := (h.ne.2.1 r hr).1
  obtain ⟨-, -, -, -, -, -, h1, h2⟩ := h.cells
  obtain ⟨-, g1, g2⟩ := h.reads hr
  have hc' : (t.clock : Int) + 1 < 9223372036854775808 := by omega
  have h5 : (w.setCell ⟨x, 6, none⟩ (.int .i64 ((t.clock : Int) + 1))).cell? ⟨r.b, 1, none⟩ = some (.int .i64 r.e.used) := by
    rw [World.cell?_of_block (a := ⟨r.b, 1, none⟩) (Below.heap_setCell _ _ _ _ hne)]; exact g1
  have h6 : (w.setCell ⟨x, 6, none⟩ (.int .i64 ((t.clock : Int) + 1))).frozen? ⟨r.b, 1, none⟩ = false := by
    rw [World.frozen?_of_block (a := ⟨r.b, 1, none⟩) (Below.heap_setCell _ _ _ _ hne)]; exact g2
  have h7 : (w.setCell ⟨x, 6, none⟩ (.int .i64 ((t.clock : Int) + 1))).cell? ⟨x, 6, none⟩ = some (.int .i64 ((t.clock : Int) + 1)) := by
    simp only [World.cell?, heap_setCell_same h.hx]; rfl
  have hcn : 0 ≤ (t.clock : Int) := by omega
  generalize t.clock = c at *
  clear h
  go_enter Try.func65, Try.ntmps65
  go_wp2
  go_end0
  exact ⟨rfl, rfl⟩
def HC.mark (r : HC) (c : Nat) : HC := { r with e := r.e.mark c }
def HT.use (t : HT) (j : Nat) (r : HC) : HT := { t with clock := t.clock + 1, es := t.es.set j (r.mark (t.clock + 1)) }
theorem map_set {α β : Type} (f : α → β) (l : List α) (j : Nat) (x : α) : (l.set j x).map f = (l.map f).set j (f x) := List.map_set
theorem set_self {α : Type} {l : List α} {j : Nat} {x : α} (h : l[j]? = some x) : l.set j x = l := by
  obtain ⟨h1, h2⟩ := List.getElem?_eq_some_iff.1 h
  subst h2; exact List.set_getElem_self h1
theorem set_same {α β : Type} (f : α → β) {l : List α} {j : Nat} {x y : α} (h : l[j]? = some x) (hf : f y = f x) : (l.set j y).map f = l.map f := by
  rw [List.map_set, hf, set_self (by simp [h])]
theorem mem_set {α : Type} {l : List α} {j : Nat} {x y : α} (h : y ∈ l.set j x) : y = x ∨ ∃ i : Nat, i ≠ j ∧ l[i]? = some y := by
  obtain ⟨i, hi, e⟩ := List.getElem_of_mem h
  rw [List.getElem_set] at e
  split at e
  · exact .inl e.symm
  · rename_i hne
    refine .inr ⟨i, fun e2 => hne e2.symm, ?_⟩
    rw [List.getElem?_eq_getElem (by simpa using hi), e]
theorem HM.use {w : World} {x m : Nat} {s : HSpec} {t : HT} (h : HM w x m s t) {j : Nat} {r : HC} (hj : t.es[j]? = some r) : HM (useW w x r.b t.clock) x m s (t.use j r) := by
  have hr := List.mem_of_getElem? hj
  obtain ⟨hxl, hne, hbn⟩ := h.ne
  have hrx := (hne r hr).1
  have hrl := (hne r hr).2
  refine ⟨?_, ?_, ?_, ?_, ?_, ?_, ?_, ?_⟩
  · unfold useW
    rw [Below.heap_setCell _ _ _ _ (fun e => hrx e.symm), heap_setCell_same h.hx]
    rfl
  · unfold useW
    rw [Below.heap_setCell _ _ _ _ (fun e => hrl e.symm), Below.heap_setCell _ _ _ _ (fun e => hxl e.symm)]
    show w.heap[t.lb]? = some (.map ((t.es.set j _).map HC.entry).toArray t.clk)
    rw [set_same (y := r.mark (t.clock + 1)) HC.entry hj rfl]
    exact h.hl
  · intro q hq
    rcases mem_set hq with rfl | ⟨i, hij, hi⟩
    · unfold useW
      have h5 : (w.setCell ⟨x, 6, none⟩ (.int .i64 ((t.clock : Int) + 1))).heap[r.b]? = some r.cells := by rw [Below.heap_setCell _ _ _ _ hrx]; exact h.he r hr
      show (World.setCell _ _ _).heap[r.b]? = _
      rw [heap_setCell_same h5]
      rfl
    · have hqm := List.mem_of_getElem? hi
      have hqr : q.b ≠ r.b := by
        intro e
        have := List.pairwise_iff_getElem.1 (List.pairwise_map.1 hbn)
        obtain ⟨i1, i2⟩ := List.getElem?_eq_some_iff.1 hi
        obtain ⟨j1, j2⟩ := List.getElem?_eq_some_iff.1 hj
        rcases Nat.lt_or_gt_of_ne hij with hl | hl
        · exact this i j i1 j1 hl (by rw [i2, j2]; exact e)
        · exact this j i j1 i1 hl (by rw [i2, j2]; exact e.symm)
      unfold useW
      rw [Below.heap_setCell _ _ _ _ hqr, Below.heap_setCell _ _ _ _ (hne q hqm).1]
      exact h.he q hqm
  · show (x :: t.lb :: (t.es.set j _).map (·.b)).Nodup
    rw [set_same (y := r.mark (t.clock + 1)) (·.b) hj rfl]; exact h.nd
  · show ((t.es.set j _).map (·.e.key)).Nodup
    rw [set_same (y := r.mark (t.clock + 1)) (·.e.key) hj rfl]; exact h.kn
  · show ((t.es.set j _).map (·.born)).Nodup
    rw [set_same (y := r.mark (t.clock + 1)) (·.born) hj rfl]; exact h.bn
  · intro q hq
    rcases mem_set hq with rfl | ⟨i, hij, hi⟩
    · exact h.bc r hr
    · exact h.bc q (List.mem_of_getElem? hi)
  · intro q hq
    rcases mem_set hq with rfl | ⟨i, hij, hi⟩
    · exact h.ab r hr
    · exact h.ab q (List.mem_of_getElem? hi)
theorem HT.use_foot (t : HT) {j : Nat} {r : HC} (hj : t.es[j]? = some r) (x : Nat) : (t.use j r).foot x = t.foot x := by
  show x :: t.lb :: (t.es.set j _).map (·.b) = _
  rw [set_same (y := r.mark (t.clock + 1)) (·.b) hj rfl]; rfl
theorem key_at {l : List HC} (hn : (l.map (·.e.key)).Nodup) {i j : Nat} {a b : HC} (hi : l[i]? = some a) (hj : l[j]? = some b) (h : a.e.key = b.e.key) : i = j := by
  have := List.pairwise_iff_getElem.1 (List.pairwise_map.1 hn)
  obtain ⟨i1, i2⟩ := List.getElem?_eq_some_iff.1 hi
  obtain ⟨j1, j2⟩ := List.getElem?_eq_some_iff.1 hj
  rcases Nat.lt_trichotomy i j with hl | hl | hl
  · exact absurd (by rw [i2, j2]; exact h) (this i j i1 j1 hl)
  · exact hl
  · exact absurd (by rw [i2, j2]; exact h.symm) (this j i j1 i1 hl)
theorem HT.use_abs (t : HT) (hn : (t.es.map (·.e.key)).Nodup) {j : Nat} {r : HC} (hj : t.es[j]? = some r) : (t.use j r).abs = t.abs.mark r.e.key := by
  simp only [HT.abs, HT.use, HA.mark, HA.mk.injEq, and_true]
  rw [List.map_set, List.map_map]
  apply List.ext_getElem?
  intro i
  obtain ⟨hj1, hj2⟩ := List.getElem?_eq_some_iff.1 hj
  rw [List.getElem?_set]
  by_cases hij : j = i
  · subst hij
    simp [hj1]
    rw [hj2, if_pos rfl]
    rfl
  · rw [if_neg hij]
    simp only [List.getElem?_map]
    cases hi : t.es[i]? with
    | none => rfl
    | some a =>
      simp only [Option.map_some, Function.comp_apply, Option.some.injEq]
      rw [if_neg]
      intro e
      exact hij (key_at hn hj hi e.symm)
theorem useW_fr (w : World) (x b c : Nat) {G : List Nat} (hx : x ∈ G) (hb : b ∈ G) : Fr G G w (useW w x b c) where
  os := rfl
  tape := rfl
  output := rfl
  size := by simp [useW]
  block := fun k hk hn => by
    have h1 : k ≠ b := fun e => hn (e ▸ hb)
    have h2 : k ≠ x := fun e => hn (e ▸ hx)
    unfold useW
    rw [Below.heap_setCell _ _ _ _ h1, Below.heap_setCell _ _ _ _ h2]
  foot := fun k hk => .inl hk

/-! ### Lookup -/
theorem HA.find_none {t : HT} {k : ByteArray} (h : t.abs.find k = none) : ∀ r ∈ t.es, r.e.key ≠ k := by
  simp only [HA.find, HT.abs, List.find?_eq_none, List.mem_map, forall_exists_index, and_imp, forall_apply_eq_imp_iff₂, decide_eq_true_eq] at h
  exact h
theorem HA.find_some {t : HT} {k : ByteArray} {e : HE} (h : t.abs.find k = some e) : ∃ (j : Nat) (r : HC), t.es[j]? = some r ∧ r.e.key = k ∧ r.e = e := by
  have h1 := List.find?_some h
  have h2 := List.mem_of_find?_eq_some h
  simp only [decide_eq_true_eq] at h1
  obtain ⟨r, hr, rfl⟩ := List.mem_map.1 h2
  obtain ⟨j, hj, e2⟩ := List.getElem_of_mem hr
  exact ⟨j, r, by rw [List.getElem?_eq_getElem hj, e2], h1, rfl⟩
set_option maxRecDepth 100000 in
theorem hlookup_nil (key : ByteArray) (w : World) : Calls Try.prog 42 #[.pointer none, .string key] w (Tells w (.int .u64 0)) := by
  go_enter Try.func42, Try.ntmps42
  go_wp2
  go_ret
  exact ⟨rfl, rfl⟩
set_option maxRecDepth 100000 in
theorem hlookup_miss {w : World} {x m : Nat} {s : HSpec} {t : HT} (h : HM w x m s t) (key : ByteArray) (hno : ∀ r ∈ t.es, r.e.key ≠ key) : Calls Try.prog 42 #[.pointer (some ⟨x, 0, none⟩), .string key] w (Tells w (.int .u64 0)) := by
  have hf := h.find_miss hno
  obtain ⟨-, -, -, -, -, c5, -⟩ := h.cells
  clear h hno
  go_enter Try.func42, Try.ntmps42
  go_wp2
  go_ret
  exact ⟨rfl, rfl⟩
set_option maxRecDepth 100000 in
theorem hlookup_hit {w : World} {x m : Nat} {s : HSpec} {t : HT} (h : HM w x m s t) {j : Nat} {r : HC} (hj : t.es[j]? = some r) (hc : t.clock + 1 < 9223372036854775808) : Calls Try.prog 42 #[.pointer (some ⟨x, 0, none⟩), .string r.e.key] w fun e w' => e = .returned (.int .u64 r.e.at_) ∧ w' = useW w x r.b t.clock := by
  have hf := h.find_hit hj
  have hu := use_calls h hj hc
  have h2 := h.use hj
  have hat := (h2.reads (r := r.mark (t.clock + 1)) (by
    obtain ⟨h1, -⟩ := List.getElem?_eq_some_iff.1 hj
    exact List.mem_iff_getElem.2 ⟨j, by simpa [HT.use] using h1, by simp [HT.use]⟩)).1
  obtain ⟨-, -, -, -, -, c5, -⟩ := h.cells
  replace hat : (useW w x r.b t.clock).cell? ⟨r.b, 0, none⟩ = some (.int .u64 r.e.at_) := hat
  clear h h2 hc
  go_enter Try.func42, Try.ntmps42
  go_wp2_with fail
  refine hu.mono ?_
  rintro e w' ⟨rfl, rfl⟩
  go_wp2
  go_ret
  exact ⟨rfl, rfl⟩
/-- Lookup answers as the plain data say. -/
theorem hlookup_S {w : World} {x m : Nat} {s : HSpec} {h : HA} {G : List Nat} (H : HS w x m s h G) (key : ByteArray) (hc : h.clock + 1 < 9223372036854775808) {a : Nat} {h' : HA} (E : h.lookup key = (a, h')) :
    Calls Try.prog 42 #[.pointer (some ⟨x, 0, none⟩), .string key] w (HPostS x m s G w (.int .u64 a) h') := by
  obtain ⟨t, h1, rfl, rfl⟩ := H
  unfold HA.lookup at E
  cases hf : t.abs.find key with
  | none =>
    rw [hf] at E
    simp only [Prod.mk.injEq] at E
    obtain ⟨rfl, rfl⟩ := E
    exact (hlookup_miss h1 key (HA.find_none hf)).mono fun e w' ⟨he, hw⟩ => ⟨_, he, ⟨t, hw ▸ h1, rfl, rfl⟩, hw ▸ Fr.refl _ _⟩
  | some e =>
    rw [hf] at E
    simp only [Prod.mk.injEq] at E
    obtain ⟨rfl, rfl⟩ := E
    obtain ⟨j, r, hj, rfl, rfl⟩ := HA.find_some hf
    refine (hlookup_hit h1 hj hc).mono fun e w' ⟨he, hw⟩ => ⟨t.foot x, he, ⟨t.use j r, hw ▸ h1.use hj, HT.use_abs t h1.kn hj, (HT.use_foot t hj x).symm⟩, ?_⟩
    rw [hw]
    exact useW_fr w x r.b t.clock (HT.mem_x x t) (HT.mem_b x (List.mem_of_getElem? hj))
/-! ### Len -/
end Go.Proofs.Ytgkbiknokpmjmaa
