/- Contracts of the hash table's drop and Delete, with its memory: they answer as the plain data say; condition: table and memory lie in the world. -/
import Derived.Test.YtgkbiknokpmjmaaHWalk
set_option linter.unusedVariables false
set_option linter.unusedSimpArgs false
namespace Go.Proofs.Ytgkbiknokpmjmaa
open Go.RowKit Go.MapKept
open Go.ChangeMaps (setBlock)

/-- The world holds the table and its memory, side by side. -/
structure HK (w : World) (x m : Nat) (s : HSpec) (h : HA) (k : KA) (G F : List Nat) : Prop where
  hs : HS w x m s h G
  ks : KS w m k F
  dj : ∀ b ∈ G, b ∉ F
def HKPost (x m : Nat) (s : HSpec) (G F : List Nat) (w : World) (v : Value) (h : HA) (k : KA) (e : Ending) (w' : World) : Prop := ∃ G' F', e = .returned v ∧ HK w' x m s h k G' F' ∧ Fr (G ++ F) (G' ++ F') w w'
theorem Fr.left {G G' F : List Nat} {w w' : World} (h : Fr G G' w w') : Fr (G ++ F) (G' ++ F) w w' where
  os := h.os
  tape := h.tape
  output := h.output
  size := h.size
  block := fun k hk hn => h.block k hk (fun hg => hn (List.mem_append_left _ hg))
  foot := fun k hk => by
    rcases List.mem_append.1 hk with h1 | h1
    · rcases h.foot k h1 with h2 | h2
      · exact .inl (List.mem_append_left _ h2)
      · exact .inr h2
    · exact .inl (List.mem_append_right _ h1)
theorem Fr.right {G F F' : List Nat} {w w' : World} (h : Fr F F' w w') : Fr (G ++ F) (G ++ F') w w' where
  os := h.os
  tape := h.tape
  output := h.output
  size := h.size
  block := fun k hk hn => h.block k hk (fun hg => hn (List.mem_append_right _ hg))
  foot := fun k hk => by
    rcases List.mem_append.1 hk with h1 | h1
    · exact .inl (List.mem_append_left _ h1)
    · rcases h.foot k h1 with h2 | h2
      · exact .inl (List.mem_append_right _ h2)
      · exact .inr h2
theorem HK.ofH {w w' : World} {x m : Nat} {s : HSpec} {h h' : HA} {k : KA} {G G' F : List Nat} (H : HK w x m s h k G F) (H' : HS w' x m s h' G') (f : Fr G G' w w') : HK w' x m s h' k G' F where
  hs := H'
  ks := H.ks.frame fun b hb => f.block b (H.ks.lt b hb) (fun hg => H.dj b hg hb)
  dj := fun b hb hf => by
    rcases f.foot b hb with h1 | h1
    · exact H.dj b h1 hf
    · have := H.ks.lt b hf; omega
theorem HK.ofK {w w' : World} {x m : Nat} {s : HSpec} {h : HA} {k k' : KA} {G F F' : List Nat} (H : HK w x m s h k G F) (H' : KS w' m k' F') (f : Fr F F' w w') : HK w' x m s h k' G F' where
  hs := H.hs.fr f H.dj
  ks := H'
  dj := fun b hb hf => by
    rcases f.foot b hf with h1 | h1
    · exact H.dj b hb h1
    · have := H.hs.lt b hb; omega
theorem HK.fr0 {w w' : World} {x m : Nat} {s : HSpec} {h : HA} {k : KA} {G F : List Nat} (H : HK w x m s h k G F) (f : Fr [] [] w w') : HK w' x m s h k G F where
  hs := H.hs.fr f (by simp)
  ks := H.ks.fr f
  dj := H.dj
theorem hlookup_K {w : World} {x m : Nat} {s : HSpec} {h : HA} {k : KA} {G F : List Nat} (H : HK w x m s h k G F) (key : ByteArray) (hc : h.clock + 1 < 9223372036854775808) {a : Nat} {h' : HA} (E : h.lookup key = (a, h')) :
    Calls Try.prog 42 #[.pointer (some ⟨x, 0, none⟩), .string key] w (HKPost x m s G F w (.int .u64 a) h' k) :=
  (hlookup_S H.hs key hc E).mono fun e w' ⟨G', he, H', f⟩ => ⟨G', F, he, H.ofH H' f, f.left⟩

/-! ### drop -/
def HA.drop (h : HA) (key : ByteArray) : HA := { h with es := h.es.filter fun e => e.key ≠ key }
def HT.drop (t : HT) (j : Nat) : HT := { t with es := t.es.eraseIdx j }
theorem eraseIdx_hentry (cs : List HC) (j : Nat) : (cs.map HC.entry).toArray.eraseIdxIfInBounds j = ((cs.eraseIdx j).map HC.entry).toArray := by
  apply Array.ext'
  simp [ChangeMaps.map_eraseIdx]
theorem filter_key {cs : List HC} (hn : (cs.map (·.e.key)).Nodup) {j : Nat} {r : HC} (hj : cs[j]? = some r) :
    (cs.map (·.e)).filter (fun e => decide (e.key ≠ r.e.key)) = (cs.eraseIdx j).map (·.e) := by
  induction cs generalizing j with
  | nil => simp at hj
  | cons q l ih =>
    simp only [List.map_cons, List.nodup_cons, List.mem_map, not_exists, not_and] at hn
    cases j with
    | zero =>
      simp only [List.getElem?_cons_zero, Option.some.injEq] at hj
      subst hj
      rw [List.eraseIdx_cons_zero, List.map_cons, List.filter_cons]
      simp only [ne_eq, not_true_eq_false, decide_false, Bool.false_eq_true, if_false]
      rw [List.filter_eq_self]
      intro e he
      obtain ⟨r, hr, rfl⟩ := List.mem_map.1 he
      simpa using hn.1 r hr
    | succ j =>
      simp only [List.getElem?_cons_succ] at hj
      rw [List.eraseIdx_cons_succ, List.map_cons, List.map_cons, List.filter_cons, ih hn.2 hj]
      have : q.e.key ≠ r.e.key := fun e => hn.1 r (List.mem_of_getElem? hj) e.symm
      simp [this]
theorem HT.drop_abs (t : HT) (hn : (t.es.map (·.e.key)).Nodup) {j : Nat} {r : HC} (hj : t.es[j]? = some r) : (t.drop j).abs = t.abs.drop r.e.key := by
  simp only [HT.abs, HT.drop, HA.drop, HA.mk.injEq, and_true]
  exact (filter_key hn hj).symm
theorem HM.drop {w : World} {x m : Nat} {s : HSpec} {t : HT} (h : HM w x m s t) (j : Nat) : HM (setBlock w t.lb (.map (t.entries.eraseIdxIfInBounds j) t.clk)) x m s (t.drop j) := by
  obtain ⟨hxl, hne, hbn⟩ := h.ne
  have hsub : (t.es.eraseIdx j).Sublist t.es := List.eraseIdx_sublist _ _
  have hmem : ∀ r ∈ t.es.eraseIdx j, r ∈ t.es := fun r hr => hsub.subset hr
  refine ⟨heap_setBlock_some (fun e => hxl e.symm) h.hx, ?_, fun r hr => heap_setBlock_some (fun e => (hne r (hmem r hr)).2 e.symm) (h.he r (hmem r hr)), ?_, h.kn.sublist (hsub.map _), h.bn.sublist (hsub.map _), fun r hr => h.bc r (hmem r hr), fun r hr => h.ab r (hmem r hr)⟩
  · show (setBlock w t.lb _).heap[t.lb]? = some (.map ((t.es.eraseIdx j).map HC.entry).toArray t.clk)
    rw [heap_setBlock_same h.hl]
    rw [HT.entries, eraseIdx_hentry]
  · exact h.nd.sublist (((hsub.map _).cons_cons _).cons_cons _)
theorem HT.drop_foot (t : HT) (j x : Nat) : ∀ b ∈ (t.drop j).foot x, b ∈ t.foot x := by
  intro b hb
  simp only [HT.foot, HT.drop, List.mem_cons, List.mem_map] at hb ⊢
  rcases hb with h | h | ⟨r, hr, h⟩
  · exact .inl h
  · exact .inr (.inl h)
  · exact .inr (.inr ⟨r, (List.eraseIdx_sublist _ _).subset hr, h⟩)
set_option maxRecDepth 100000 in
theorem drop_calls {w : World} {x m : Nat} {s : HSpec} {t : HT} {k k' : KA} {F : List Nat} {e' : Int} (H : HK w x m s t.abs k (t.foot x) F) (h : HM w x m s t) {j : Nat} {r : HC} (hj : t.es[j]? = some r) (E : k.retire r.e.at_ = (e', k')) :
    Calls Try.prog 63 #[.pointer (some ⟨x, 0, none⟩), .string r.e.key] w (HKPost x m s (t.foot x) F w (.tuple #[]) (t.abs.drop r.e.key) k') := by
  have hr := List.mem_of_getElem? hj
  obtain ⟨c0, -, -, -, -, c5, -⟩ := h.cells
  obtain ⟨g0, -⟩ := h.reads hr
  have hf := h.find_hit1 hj
  have hfd := (h.frame (w' := w.drew) (fun _ _ => rfl)).find_hit1 hj
  have HR : ∀ W, KS W m k F → Hid (Calls Try.prog 69 #[.pointer (some ⟨m, 0, none⟩), .int .u64 r.e.at_] W (KPostS m F W (.int .i64 e') k')) := fun W hW => hide (retire_S hW rfl (h.ab r hr) E)
  have HH := hide (And.intro H h)
  have hk := H.ks
  clear H h E
  go_enter Try.func63, Try.ntmps63
  go_wp2_with fail
  go_region_with (go_at_call 69; refine (HR _ ?_).out.mono ?_; (first | exact hk | exact hk.drew | exact hk.drewN _); rintro e w2 ⟨F2, rfl, hk2, f2⟩)
  all_goals
    have f2' : Fr F F2 w w2 := by first | exact f2 | exact (Fr.refl F w).drew.trans f2
    have h2 : HM w2 x m s t := HH.out.2.fr f2' HH.out.1.dj
    have hd := run_delete_hit (k := .string r.e.key) HK.und HK.undStr trivial h2.keys h2.hl (hentries_at hj) rfl 9 0
    obtain ⟨-, -, -, -, -, c5, -⟩ := h2.cells
    have HF : Hid (HKPost x m s (t.foot x) F w (.tuple #[]) (t.abs.drop r.e.key) k' (.returned (.tuple #[])) (setBlock w2 t.lb (.map (t.entries.eraseIdxIfInBounds j) t.clk))) := by
      have hlf : t.lb ∉ F2 := f2'.notin (HH.out.2.lt _ (HT.mem_l x t)) (HH.out.1.dj _ (HT.mem_l x t))
      refine hide ⟨(t.drop j).foot x, F2, rfl, ⟨⟨t.drop j, h2.drop j, HT.drop_abs t h2.kn hj, rfl⟩, hk2.frame (fun b hb => ?_), fun b hb => f2'.notin (HH.out.2.lt b (HT.drop_foot t j x b hb)) (HH.out.1.dj b (HT.drop_foot t j x b hb))⟩, f2'.right.trans (Fr.setBlock (HT.mem_l x t) (HT.drop_foot t j x) _).left⟩
      have : t.lb ≠ b := fun e => hlf (e ▸ hb)
      simp [setBlock, Array.getElem?_setIfInBounds, this]
    clear HH h2 f2' hk2 f2 c0 g0 hf hfd hk HR
    go_wp2
    go_end0
    exact HF.out
end Go.Proofs.Ytgkbiknokpmjmaa
