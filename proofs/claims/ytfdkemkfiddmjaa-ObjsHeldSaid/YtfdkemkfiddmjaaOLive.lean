/- Contracts of Live and of path; conditions: each contract's own. -/
import Derived.Test.YtfdkemkfiddmjaaOTab4
import Derived.Test.YtfdkemkfiddmjaaLive
import Derived.TacticsInMore
set_option linter.unusedVariables false
set_option linter.unusedSimpArgs false
namespace Go.Proofs.Ytfdkemkfiddmjaa
open Go.RowKit Go.MapKept Go.Maps Go.Sort Go.Shelf

theorem sortsA (m : Nat) : AnyZI.SortsIn Try.prog Try.sortedA_ren Fence.wide m :=
  ⟨fun blk off cap ss W hH hblk hsz => callsIn_wide.2 (AnyM.slices_Sort_int Try.sortA blk off cap ss W hH hblk hsz),
   fun p cap W => callsIn_wide.2 (AnyM.slices_Sort_int_none Try.sortA p cap W)⟩
def LivePost (w : World) (s : OSt) (e : Ending) (w' : World) : Prop := ∃ v l, e = .returned v ∧ IntsAt w' w.heap.size v l ∧ l.Pairwise (· < ·) ∧ (∀ x, x ∈ l ↔ (s.n (ik x)).isSome = true) ∧ Fr [] [] w w'
theorem fr_below {w w' : World} (h : Below w.heap.size w w') : Fr [] [] w w' := ⟨h.os, h.tape, h.output, h.size, fun k hk _ => h.block k hk, fun k hk => by simp at hk⟩
theorem ints_own {w : World} {base : Nat} {v : Value} {l : List Int} (h : w.ownsRow base 3 1 v l.length (l.map encZ)) : IntsAt w base v l := by
  rcases h.2 with ⟨rfl, h0⟩ | ⟨g, cap, cur, rfl, hb, _⟩
  · have : l = [] := List.eq_nil_of_length_eq_zero h0
    subst this
    exact IntsAt.nil _ _
  · refine ⟨_, cap, rfl, fun i x hi => ⟨g, rfl, hb, ?_⟩⟩
    have := h.cells (g := g) rfl i (.int .i64 x) (by simp [hi, encZ])
    rwa [show (⟨g, 0, none⟩ : Addr).add i = ⟨g, i, none⟩ by unfold Addr.add; split <;> simp_all] at this
theorem sorted_asc {ss : List Int} (hn : ss.Nodup) : (ss.mergeSort fun x y => decide (x ≤ y)).Pairwise (· < ·) := by
  have h1 := List.pairwise_mergeSort (le := fun (x y : Int) => decide (x ≤ y)) (by intro a b c; simp; omega) (by intro a b; simp; omega) ss
  have h2 : (ss.mergeSort fun x y => decide (x ≤ y)).Nodup := (List.mergeSort_perm ss _).nodup_iff.2 hn
  refine (h1.and h2).imp ?_
  intro a b ⟨p, q⟩
  have : a ≤ b := by simpa using p
  omega
set_option maxRecDepth 100000 in
set_option maxHeartbeats 1000000 in
theorem live_calls {w : World} {t N : Nat} {s : OSt} {F : List Nat} (h : OS w t s N F) (hN : N < 1099511627770) :
    Calls Try.prog 13 #[.pointer (some ⟨t, 0, none⟩)] w (LivePost w s) := by
  obtain ⟨nb, kb, hb, fb, pb, h1, rfl⟩ := h
  obtain ⟨c0, -⟩ := h1.cells
  obtain ⟨D0, hown, hD⟩ := h1.mn
  have hmk := fun x => mem_keys hown O.ki O.undInt O.und O.undInt (O.zero w) x
  have hnd : (intKeys D0).Nodup := by
    obtain ⟨es, hD0, hpw, _⟩ := hown.entries O.ki
    obtain ⟨es', hD', hko⟩ := hown.keysOf
    obtain rfl : es = es' := by rw [hD0] at hD'; simpa using hD'
    subst hD0
    show (es.map fun p => Go.intOf p.1).Nodup
    refine List.pairwise_map.2 (hpw.imp_of_mem fun {p q} hp hq hne e => hne ?_)
    obtain ⟨v1, hv1⟩ := hko p hp
    obtain ⟨x1, _, hx1, _⟩ := Maps.keyOf_i64 O.undInt hv1
    obtain ⟨v2, hv2⟩ := hko q hq
    obtain ⟨x2, _, hx2, _⟩ := Maps.keyOf_i64 O.undInt hv2
    rw [hx1, hx2] at e ⊢
    exact congrArg _ e
  have hsz : Maps.size D0 ≤ N := hown.size_le
  have hmax : Maps.size D0 ≤ maxLen := by unfold maxLen; omega
  have hbytes : Maps.size D0 * 8 ≤ 140737488355328 := by omega
  have hbl := hown.lt
  have hcn : w.cell? ⟨t, 0, none⟩ = some (.map (some nb)) := c0
  clear h1
  refine (callsIn_wide (n := 6)).1 ?_
  have hseq : SeqGives Fence.wide 2 Try.prog 46 #[.pointer (some ⟨w.heap.size, 0, none⟩)] encZ (fun ss => ss.Perm (intKeys D0)) (Maps.size D0) (w.alloc (.cells #[.map (some nb)] 55)) :=
    AnyZI.keys_gives (ρ := Try.keysA_ren) { Try.keysA with } Fence.wide _ trivial rfl (by omega) w.heap.size nb N D0 _ (by simp) (by simp) (by
      obtain ⟨es, clock, hb, Ft, hs, hD⟩ := hown
      exact ⟨es, clock, (Below.heap_alloc _ _ nb hbl).trans hb, Ft, hs, hD⟩)
  have cK : ∀ mb W, CallsIn Fence.wide 5 Try.prog 34 #[.map mb] W fun e w' => e = .returned (.func (.func 46) #[] #[.pointer (some ⟨W.heap.size, 0, none⟩)]) ∧ w' = W.alloc (.cells #[.map mb] 55) := fun mb W => AnyZI.keys_in Try.keysA Fence.wide 5 trivial rfl mb W
  have cS := AnyZI.sorted_in Try.sortedA Fence.wide 5 trivial trivial trivial trivial rfl (by omega) (sortsA _) (enters_of Try.func45 (by kernel_rfl) rfl) 46 #[.pointer (some ⟨w.heap.size, 0, none⟩)] trivial (enters_of Try.func46 (by kernel_rfl) rfl) _ _ hmax hbytes _ hseq
  change CallsIn _ _ Try.prog 33 _ _ _ at cS
  have hfK : Fence.wide.fn 34 := trivial
  have hfS : Fence.wide.fn 33 := trivial
  clear hown hseq
  refine callsIn_of_wp Try.func13 rfl trivial ?_ rfl
  simp only [Try.ntmps13, List.size_toArray, List.length_cons, List.length_nil, Nat.reduceAdd, Nat.reduceSub, Array.replicate_succ, Array.replicate_zero, List.push_toArray, List.append_toArray, List.nil_append, List.cons_append]
  gi_wp2_with (first
    | (gi_at_call 34; refine (cK _ _).mono ?_; rintro e w' ⟨rfl, rfl⟩)
    | (gi_at_call 33; refine cS.mono ?_; rintro e w' ⟨v, ss, rfl, hS, hrow, hnil, hb⟩))
  go_ret
  have hss : ss.Nodup := hS.nodup_iff.2 hnd
  have hlen : ss.length = (ss.mergeSort fun x y => decide (x ≤ y)).length := (List.length_mergeSort ss).symm
  rw [hlen] at hrow
  refine ⟨v, ss.mergeSort fun x y => decide (x ≤ y), rfl, (ints_own hrow).base (by simp), sorted_asc hss, fun x => ?_, fr_below (((Below.refl _ w).alloc (Nat.le_refl _) _).trans (hb.mono (by simp)))⟩
  rw [List.mem_mergeSort, hS.mem_iff, hmk x, hD]
set_option maxRecDepth 100000 in
theorem live_nil (w : World) : Calls Try.prog 13 #[.pointer none] w (TellsW w (.slice none 0 0)) := by
  go_enter Try.func13, Try.ntmps13
  go_wp2
  go_ret
  exact ⟨rfl, rfl⟩
def opath (s : ByteArray) : Bool := decide (2 ≤ s.size) && decide (s.size ≤ 256) && decide (s.data.toList.head? = some 47) && !decide (0 ≤ Lib.indexByte s.data.toList 0)
theorem contains_calls (s : ByteArray) (w : World) : Calls Try.prog 47 #[.string s, .string ⟨#[0]⟩] w fun e w' => e = .returned (.bool (decide (0 ≤ Lib.indexByte s.data.toList 0))) ∧ w' = w := Any.strings_Contains_one Try.lays144 s 0 w
set_option maxRecDepth 100000 in
theorem path_calls (s : ByteArray) (w : World) : Calls Try.prog 35 #[.string s] w (TellsW w (.bool (opath s))) := by
  have HC := hide (fun W => contains_calls s W)
  unfold opath
  generalize decide (0 ≤ Lib.indexByte s.data.toList 0) = z at *
  by_cases h1 : 2 ≤ s.size
  · by_cases h2 : s.size ≤ 256
    · have e1 : (2 : Int) ≤ s.size := by omega
      have e2 : (s.size : Int) ≤ 256 := by omega
      have hhd : s.data.toList.head? = some s[0] := by
        cases hs : s.data.toList with
        | nil => have : s.size = 0 := by show s.data.size = 0; simpa using congrArg List.length hs
                 omega
        | cons a l => 
          have : s[0] = a := by
            show s.data[0]'(by show 0 < s.size; omega) = a
            rw [← Array.getElem_toList]
            simp [hs]
          rw [this]; rfl
      rw [hhd]
      simp only [h1, h2, decide_true, Bool.true_and, Option.some.injEq]
      by_cases h3 : s[0] = 47
      · have e3 : ((s[0].toNat : Int) == 47) = true := by rw [h3]; rfl
        simp only [h3, decide_true, Bool.true_and]
        go_enter Try.func35, Try.ntmps35
        go_wp2_with fail
        refine (HC.out _).mono ?_
        rintro e w' ⟨rfl, rfl⟩
        go_wp2
        go_ret
        exact ⟨rfl, rfl⟩
      · have e3 : ((s[0].toNat : Int) == 47) = false := by
          rw [beq_eq_false_iff_ne]
          intro e
          apply h3
          have e4 : s[0].toNat = 47 := by omega
          exact UInt8.toNat_inj.1 e4
        simp only [h3, decide_false, Bool.false_and]
        go_enter Try.func35, Try.ntmps35
        go_wp2
        go_ret
        exact ⟨rfl, rfl⟩
    · have e1 : (2 : Int) ≤ s.size := by omega
      have e2 : ¬ (s.size : Int) ≤ 256 := by omega
      simp only [h1, h2, decide_true, decide_false, Bool.true_and, Bool.false_and]
      go_enter Try.func35, Try.ntmps35
      go_wp2
      go_ret
      exact ⟨rfl, rfl⟩
  · have e1 : ¬ (2 : Int) ≤ s.size := by omega
    simp only [h1, decide_false, Bool.false_and]
    go_enter Try.func35, Try.ntmps35
    go_wp2
    go_ret
    exact ⟨rfl, rfl⟩
end Go.Proofs.Ytfdkemkfiddmjaa
