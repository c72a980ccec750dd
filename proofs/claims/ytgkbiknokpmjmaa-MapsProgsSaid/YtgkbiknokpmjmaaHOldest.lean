/- Contract of the hash table's oldest: it tells the key of an entry that was used least, in whatever order the map is gone over; condition: the table lies in the world and is not empty. -/
import Derived.Test.YtgkbiknokpmjmaaHNext
set_option linter.unusedVariables false
set_option linter.unusedSimpArgs false
namespace Go.Proofs.Ytgkbiknokpmjmaa
open Go.RowKit Go.MapKept
open Go.ChangeMaps (setBlock)

structure ORel (t : HT) (seen : Array Nat) (b : ByteArray) (f : Bool) : Prop where
  no : f = true → ∀ r ∈ t.es, seen.contains r.born = false
  yes : f = false → ∃ r ∈ t.es, r.e.key = b ∧ ∀ q ∈ t.es, seen.contains q.born = true → r.e.used ≤ q.e.used
def OldestPost (t : HT) (w : World) (e : Ending) (w' : World) : Prop := ∃ r ∈ t.es, e = .returned (.string r.e.key) ∧ (∀ q ∈ t.es, r.e.used ≤ q.e.used) ∧ Fr [] [] w w'
set_option maxRecDepth 100000 in
theorem oldest_calls {w : World} {x m : Nat} {s : HSpec} {t : HT} (h : HM w x m s t) (hne : t.es ≠ []) :
    Calls Try.prog 64 #[.pointer (some ⟨x, 0, none⟩)] w (OldestPost t w) := by
  have hrg := HK.range h
  obtain ⟨c0, c1, c2, c3, c4, c5, c6, -⟩ := h.cells
  have H := hide h
  have HNE := hide hne
  have hst : ORel t #[] ⟨#[]⟩ true := ⟨fun _ r hr => by simp, fun hf => by cases hf⟩
  clear h hne
  go_enter Try.func64, Try.ntmps64
  go_wp2
  go_loopw [3, 4] (fun best first wr => ∃ (seen : Array Nat) (b : ByteArray) (f : Bool), best = .string b ∧ first = .bool f ∧ HI w t wr seen ∧ ORel t seen b f) (fun _ _ wr => hleft t w.heap.size wr)
  case atStart => exact ⟨#[], _, _, rfl, rfl, HI.start w t, hst⟩
  case round =>
    obtain ⟨seen, b, f, rfl, rfl, I, hR⟩ := hrel
    rcases I.next H.out with ⟨hall, hrun⟩ | ⟨r, hr, hs, W2, I2, hrun, hent, hms⟩
    · have hfr := I.fr
      cases f with
      | true =>
        exfalso
        obtain ⟨r, hr⟩ := List.exists_mem_of_ne_nil _ HNE.out
        have h1 := hall r hr
        rw [hR.no rfl r hr] at h1
        cases h1
      | false =>
        have HN : Hid (∃ r ∈ t.es, r.e.key = b ∧ ∀ q ∈ t.es, r.e.used ≤ q.e.used) := by
          obtain ⟨r, hr, e, hu⟩ := hR.yes rfl
          exact hide ⟨r, hr, e, fun q hq => hu q hq (hall q hq)⟩
        clear hR hall I
        go_wp2
        go_ret
        obtain ⟨r, hr, e, hu⟩ := HN.out
        exact ⟨r, hr, by rw [e]; rfl, hu, hfr⟩
    · have hm2 := I2.hm H.out
      obtain ⟨c0, c1, c2, c3, c4, c5, c6, -⟩ := hm2.cells
      have hbn := H.out.bn
      have HI2 := hide I2
      have HMs := hide hms
      cases f with
      | true =>
        have HX : Hid (ORel t (seen.push r.born) r.e.key false) := hide ⟨(fun e => by cases e), fun _ => ⟨r, hr, rfl, fun q hq hsq => by
          rcases seen_push hbn hq hr hsq with rfl | hsq
          · exact Nat.le_refl _
          · rw [hR.no rfl q hq] at hsq; cases hsq⟩⟩
        clear hm2 I2 hms I hrg hst hR hs hbn hr
        go_wp2
        go_region
        all_goals
          go_wp2
          exact ⟨⟨_, _, _, rfl, rfl, (by first | exact HI2.out | exact HI2.out.drew), HX.out⟩, HMs.out⟩
      | false =>
        obtain ⟨r0, hr0, rfl, hu⟩ := hR.yes rfl
        obtain ⟨g0, g1, -⟩ := hm2.reads hr
        obtain ⟨k0, k1, -⟩ := hm2.reads hr0
        obtain ⟨j, hj, e2⟩ := List.getElem_of_mem hr0
        have hj' : t.es[j]? = some r0 := by rw [List.getElem?_eq_getElem hj, e2]
        have hf := hm2.find_hit1 hj'
        have hfd := (hm2.frame (w' := W2.drew) (fun _ _ => rfl)).find_hit1 hj'
        by_cases hlt : (r.e.used : Int) < r0.e.used
        · have HX : Hid (ORel t (seen.push r.born) r.e.key false) := hide ⟨(fun e => by cases e), fun _ => ⟨r, hr, rfl, fun q hq hsq => by
            rcases seen_push hbn hq hr hsq with rfl | hsq
            · exact Nat.le_refl _
            · have := hu q hq hsq; omega⟩⟩
          clear hm2 I2 hms I hrg hst hR hs hbn hr hu hr0 hj hj' e2
          go_wp2
          go_region
          all_goals
            go_wp2
            exact ⟨⟨_, _, _, rfl, rfl, (by first | exact HI2.out | exact HI2.out.drew), HX.out⟩, HMs.out⟩
        · have HX : Hid (ORel t (seen.push r.born) r0.e.key false) := hide ⟨(fun e => by cases e), fun _ => ⟨r0, hr0, rfl, fun q hq hsq => by
            rcases seen_push hbn hq hr hsq with rfl | hsq
            · omega
            · exact hu q hq hsq⟩⟩
          clear hm2 I2 hms I hrg hst hR hs hbn hr hu hr0 hj hj' e2
          go_wp2
          go_region
          all_goals
            go_wp2
            exact ⟨⟨_, _, _, rfl, rfl, (by first | exact HI2.out | exact HI2.out.drew), HX.out⟩, HMs.out⟩
end Go.Proofs.Ytgkbiknokpmjmaa
