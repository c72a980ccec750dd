/- Contract of the hash table's Next: it answers as the plain data say, in whatever order the map is gone over; condition: the table lies in the world. -/
import Derived.Test.YtgkbiknokpmjmaaHRange
import Derived.Test.YtgkbiknokpmjmaaHStr
set_option linter.unusedVariables false
set_option linter.unusedSimpArgs false
namespace Go.Proofs.Ytgkbiknokpmjmaa
open Go.RowKit Go.MapKept
open Go.ChangeMaps (setBlock)

set_option maxRecDepth 100000 in
theorem hnext_nil (key : ByteArray) (w : World) : Calls Try.prog 32 #[.pointer none, .string key] w (Tells w (.tuple #[.string ⟨#[]⟩, .int .i64 1])) := by
  go_enter Try.func32, Try.ntmps32
  go_wp2
  go_ret2
  exact ⟨rfl, rfl⟩
/-- A key that Next may tell behind a key. -/
def HQ (s : HSpec) (key k : ByteArray) : Bool := kl key k || (key.size : Int) != (s.key : Int)
structure NRel (s : HSpec) (t : HT) (key : ByteArray) (seen : Array Nat) (b : ByteArray) (f : Bool) : Prop where
  no : f = false → ∀ r ∈ t.es, seen.contains r.born = true → HQ s key r.e.key = false
  yes : f = true → HQ s key b = true ∧ (∃ r ∈ t.es, r.e.key = b) ∧ ∀ r ∈ t.es, seen.contains r.born = true → HQ s key r.e.key = true → kl r.e.key b = false
theorem born_eq {l : List HC} (hn : (l.map (·.born)).Nodup) {q r : HC} (hq : q ∈ l) (hr : r ∈ l) (hb : q.born = r.born) : q = r := by
  obtain ⟨i, hi, e1⟩ := List.getElem_of_mem hq
  obtain ⟨j, hj, e2⟩ := List.getElem_of_mem hr
  have hp := List.pairwise_iff_getElem.1 (List.pairwise_map.1 hn)
  rcases Nat.lt_trichotomy i j with hl | hl | hl
  · exact absurd (by rw [e1, e2]; exact hb) (hp i j hi hj hl)
  · subst hl; rw [← e1, e2]
  · exact absurd (by rw [e1, e2]; exact hb.symm) (hp j i hj hi hl)
theorem seen_push {l : List HC} (hn : (l.map (·.born)).Nodup) {q r : HC} (hq : q ∈ l) (hr : r ∈ l) {seen : Array Nat} (h : (seen.push r.born).contains q.born = true) : q = r ∨ seen.contains q.born = true := by
  simp only [Array.contains_push, Bool.or_eq_true, beq_iff_eq] at h
  rcases h with h | h
  · exact .inr h
  · exact .inl (born_eq hn hq hr h)
theorem NRel.skip {s : HSpec} {t : HT} {key : ByteArray} {seen : Array Nat} {b : ByteArray} {f : Bool} (R : NRel s t key seen b f) (hn : (t.es.map (·.born)).Nodup) {r : HC} (hr : r ∈ t.es) (h : HQ s key r.e.key = false ∨ (f = true ∧ kl r.e.key b = false)) : NRel s t key (seen.push r.born) b f where
  no := fun hf q hq hs => by
    rcases seen_push hn hq hr hs with rfl | hs
    · rcases h with h | ⟨h, _⟩
      · exact h
      · rw [hf] at h; cases h
    · exact R.no hf q hq hs
  yes := fun hf => by
    obtain ⟨h1, h2, h3⟩ := R.yes hf
    refine ⟨h1, h2, fun q hq hs hQ => ?_⟩
    rcases seen_push hn hq hr hs with rfl | hs
    · rcases h with h | ⟨_, h⟩
      · rw [h] at hQ; cases hQ
      · exact h
    · exact h3 q hq hs hQ
theorem NRel.take {s : HSpec} {t : HT} {key : ByteArray} {seen : Array Nat} {b : ByteArray} {f : Bool} (R : NRel s t key seen b f) (hn : (t.es.map (·.born)).Nodup) {r : HC} (hr : r ∈ t.es) (hQ : HQ s key r.e.key = true) (h : f = false ∨ kl r.e.key b = true) : NRel s t key (seen.push r.born) r.e.key true where
  no := fun hf => by cases hf
  yes := fun _ => by
    refine ⟨hQ, ⟨r, hr, rfl⟩, fun q hq hs hq2 => ?_⟩
    rcases seen_push hn hq hr hs with rfl | hs
    · exact kl_irrefl _
    · cases hf : f with
      | false => rw [R.no hf q hq hs] at hq2; cases hq2
      | true =>
        rcases h with h | h
        · rw [h] at hf; cases hf
        · have h3 := (R.yes hf).2.2 q hq hs hq2
          cases hc : kl q.e.key r.e.key with
          | false => rfl
          | true => rw [kl_trans hc h] at h3; cases h3
/-- What Next tells of the plain data. -/
def HNextIs (s : HSpec) (h : HA) (key : ByteArray) (b : ByteArray) (e : Int) : Prop :=
  (b = ⟨#[]⟩ ∧ e = 4 ∧ ∀ q ∈ h.es, HQ s key q.key = false) ∨ (e = 0 ∧ (∃ q ∈ h.es, q.key = b) ∧ HQ s key b = true ∧ ∀ q ∈ h.es, HQ s key q.key = true → kl q.key b = false)
def HNextPost (s : HSpec) (h : HA) (key : ByteArray) (w : World) (e : Ending) (w' : World) : Prop := ∃ b c, e = .returned (.tuple #[.string b, .int .i64 c]) ∧ HNextIs s h key b c ∧ Fr [] [] w w'
set_option maxRecDepth 100000 in
theorem hnext_calls {w : World} {x m : Nat} {s : HSpec} {t : HT} (h : HM w x m s t) (key : ByteArray) :
    Calls Try.prog 32 #[.pointer (some ⟨x, 0, none⟩), .string key] w (HNextPost s t.abs key w) := by
  have hrg := HK.range h
  obtain ⟨c0, c1, c2, c3, c4, c5, c6, -⟩ := h.cells
  have H := hide h
  have hst : NRel s t key #[] ⟨#[]⟩ false := ⟨fun _ r hr hs => by simp at hs, fun hf => by cases hf⟩
  clear h
  go_enter Try.func32, Try.ntmps32
  go_wp2
  go_loopw [6, 7] (fun best found wr => ∃ (seen : Array Nat) (b : ByteArray) (f : Bool), best = .string b ∧ found = .bool f ∧ HI w t wr seen ∧ NRel s t key seen b f) (fun _ _ wr => hleft t w.heap.size wr)
  case atStart => exact ⟨#[], _, _, rfl, rfl, HI.start w t, hst⟩
  case round =>
    obtain ⟨seen, b, f, rfl, rfl, I, hR⟩ := hrel
    rcases I.next H.out with ⟨hall, hrun⟩ | ⟨r, hr, hs, W2, I2, hrun, hent, hms⟩
    · have hfr := I.fr
      cases f with
      | false =>
        have HN : Hid (HNextIs s t.abs key ⟨#[]⟩ 4) := hide (.inl ⟨rfl, rfl, fun q hq => by
          obtain ⟨r, hr, rfl⟩ := List.mem_map.1 hq
          exact hR.no rfl r hr (hall r hr)⟩)
        clear hR hall I
        go_wp2
        go_ret2
        exact ⟨_, _, rfl, HN.out, hfr⟩
      | true =>
        have HN : Hid (HNextIs s t.abs key b 0) := hide (.inr ⟨rfl, by
          obtain ⟨r, hr, e⟩ := (hR.yes rfl).2.1
          exact ⟨r.e, List.mem_map.2 ⟨r, hr, rfl⟩, e⟩, (hR.yes rfl).1, fun q hq hQ => by
          obtain ⟨r, hr, rfl⟩ := List.mem_map.1 hq
          exact (hR.yes rfl).2.2 r hr (hall r hr) hQ⟩)
        clear hR hall I
        go_wp2
        go_ret2
        exact ⟨_, _, rfl, HN.out, hfr⟩
    · have hm2 := I2.hm H.out
      obtain ⟨c0, c1, c2, c3, c4, c5, c6, -⟩ := hm2.cells
      have hg := run_gtr_str (P := Try.prog) 9 r.e.key key
      have hl := run_lss_str (P := Try.prog) 9 r.e.key b
      have hbn := H.out.bn
      have HI2 := hide I2
      have HMs := hide hms
      have HR := hide hR
      clear hm2 I2 hms I hrg hst hR hs
      cases hQ : HQ s key r.e.key with
      | false =>
        have HX := hide (HR.out.skip hbn hr (.inl hQ))
        unfold HQ at hQ
        simp only [Bool.or_eq_false_iff] at hQ
        obtain ⟨q1, q2⟩ := hQ
        rw [q1] at hg
        clear hbn HR hr
        go_wp2
        exact ⟨⟨_, _, _, rfl, rfl, HI2.out, HX.out⟩, HMs.out⟩
      | true =>
        have HXs := fun h => hide (HR.out.skip hbn hr (.inr h))
        have HXt := fun h => hide (HR.out.take hbn hr hQ h)
        unfold HQ at hQ
        simp only [Bool.or_eq_true] at hQ
        cases q1 : kl key r.e.key with
        | true =>
          rw [q1] at hg
          clear hbn HR hr hQ
          cases f with
          | false =>
            go_wp2
            exact ⟨⟨_, _, _, rfl, rfl, HI2.out, (HXt (.inl rfl)).out⟩, HMs.out⟩
          | true =>
            cases q3 : kl r.e.key b with
            | true =>
              have q4 : Op.bytesLess r.e.key.toList b.toList = true := q3
              rw [q3] at hl
              go_wp2
              exact ⟨⟨_, _, _, rfl, rfl, HI2.out, (HXt (.inr q3)).out⟩, HMs.out⟩
            | false =>
              have q4 : Op.bytesLess r.e.key.toList b.toList = false := q3
              rw [q3] at hl
              go_wp2
              exact ⟨⟨_, _, _, rfl, rfl, HI2.out, (HXs ⟨rfl, q3⟩).out⟩, HMs.out⟩
        | false =>
          rw [q1] at hg hQ
          have q2 : ((key.size : Int) != (s.key : Int)) = true := by simpa using hQ
          clear hbn HR hr hQ
          cases f with
          | false =>
            go_wp2
            exact ⟨⟨_, _, _, rfl, rfl, HI2.out, (HXt (.inl rfl)).out⟩, HMs.out⟩
          | true =>
            cases q3 : kl r.e.key b with
            | true =>
              have q4 : Op.bytesLess r.e.key.toList b.toList = true := q3
              rw [q3] at hl
              go_wp2
              exact ⟨⟨_, _, _, rfl, rfl, HI2.out, (HXt (.inr q3)).out⟩, HMs.out⟩
            | false =>
              have q4 : Op.bytesLess r.e.key.toList b.toList = false := q3
              rw [q3] at hl
              go_wp2
              exact ⟨⟨_, _, _, rfl, rfl, HI2.out, (HXs ⟨rfl, q3⟩).out⟩, HMs.out⟩
theorem hnext_K {w : World} {x m : Nat} {s : HSpec} {h : HA} {k : KA} {G F : List Nat} (H : HK w x m s h k G F) (key : ByteArray) :
    Calls Try.prog 32 #[.pointer (some ⟨x, 0, none⟩), .string key] w (HNextPost s h key w) := by
  obtain ⟨t, h1, rfl, rfl⟩ := H.hs
  exact hnext_calls h1 key
end Go.Proofs.Ytgkbiknokpmjmaa
