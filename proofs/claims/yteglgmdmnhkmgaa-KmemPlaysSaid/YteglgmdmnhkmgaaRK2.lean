/- The reference's memory: what it tells (size, numbers, bytes) and SetFail; condition: the memory is held. -/
import Derived.Test.YteglgmdmnhkmgaaRK1
import Derived.Test.YteglgmdmnhkmgaaKPure
set_option linter.unusedVariables false
set_option linter.unusedSimpArgs false
namespace Go.Proofs.Yteglgmdmnhkmgaa
open Go.RowKit Go.MapKept

set_option maxRecDepth 100000 in
theorem size_R {w : World} {x : Nat} {ls : List RE} {sv : Value} {k : KA} (h : RM w x ls sv k) (hw : WF k) {A : Int} (a : Nat) (hA : A = a) (h1 : a < 18446744073709551616) {n e : Int} (E : k.size a = (n, e)) :
    Calls Try.prog 38 #[.pointer (some ⟨x, 0, none⟩), .int .u64 A] w (Tells w (.tuple #[.int .i64 n, .int .i64 e])) := by
  have H := hide h
  have HAT := hide (at_R' (A := A) (N := 1) (P := 0) h hw a 1 0 hA rfl rfl h1 (by omega) (by omega))
  clear h hA h1
  go_enter Try.func38, Try.ntmps38
  go_wp2_with fail
  refine HAT.out.mono ?_
  rintro e1 W ⟨rfl, ⟨c, hs, hc, rfl⟩ | ⟨i, ent, q, hli, ha, hi, hs, hb, rfl⟩⟩
  · have hcb : (c != 0) = true := by simpa using hc
    unfold KA.size at E
    have hs' : k.span a (1 : Int) 0 = .error c := hs
    rw [hs'] at E
    cases E
    clear hs hs' hc
    go_wp2
    go_ret2
    exact ⟨rfl, rfl⟩
  · unfold KA.size at E
    have hs' : k.span a (1 : Int) 0 = .ok q := hs
    rw [hs'] at E
    cases E
    have hrd := H.out.hr ent (List.mem_of_getElem? hli)
    rcases RE.reads hrd with ⟨ha', _, _⟩ | ⟨q', ha', r0, _, _⟩
    · rw [ha] at ha'; cases ha'
    rw [ha] at ha'
    cases ha'
    clear hs hs' hb hrd hli hi ha H HAT
    go_wp2
    go_ret2
    exact ⟨rfl, rfl⟩
set_option maxRecDepth 100000 in
theorem bytes_R {w : World} {x : Nat} {ls : List RE} {sv : Value} {k : KA} (h : RM w x ls sv k) (hw : WF k) {A : Int} (a : Nat) (hA : A = a) (h1 : a < 18446744073709551616) (n : Int) {l : List Nat} {e : Int} (E : k.bytes a n = (l, e)) :
    Calls Try.prog 36 #[.pointer (some ⟨x, 0, none⟩), .int .u64 A, .int .i64 n] w (Tells w (.tuple #[strOf l, .int .i64 e])) := by
  have hemp : bstr [] = ⟨#[]⟩ := rfl
  unfold strOf
  by_cases hn : n < 0 ∨ 1048576 < n
  · unfold KA.bytes at E
    rw [if_pos hn] at E
    cases E
    rw [hemp]
    by_cases h0 : n < 0
    · clear hn h hw
      go_enter Try.func36, Try.ntmps36
      go_wp2
      go_ret2
      exact ⟨rfl, rfl⟩
    · have h2 : 1048576 < n := by omega
      clear hn h hw
      go_enter Try.func36, Try.ntmps36
      go_wp2
      go_ret2
      exact ⟨rfl, rfl⟩
  · have h0 : ¬ n < 0 := by omega
    have h2 : ¬ 1048576 < n := by omega
    obtain ⟨N, rfl⟩ : ∃ N : Nat, n = N := ⟨n.toNat, by omega⟩
    have H := hide h
    have HAT := hide (at_R' (A := A) (N := N) (P := 0) h hw a N 0 hA rfl rfl h1 (by omega) (by omega))
    have HW := hide hw
    unfold KA.bytes at E
    rw [if_neg hn] at E
    have hlo := (lo_facts a h1).2
    clear h hA h1 hn hw
    go_enter Try.func36, Try.ntmps36
    go_wp2_with fail
    refine HAT.out.mono ?_
    rintro e1 W ⟨rfl, ⟨c, hs, hc, rfl⟩ | ⟨i, ent, q, hli, ha, hi, hs, hb, rfl⟩⟩
    · have hcb : (c != 0) = true := by simpa using hc
      rw [hs] at E
      cases E
      rw [hemp]
      clear hs hc HAT H
      go_wp2
      go_ret2
      exact ⟨rfl, rfl⟩
    · rw [hs] at E
      cases E
      have hrd := H.out.hr ent (List.mem_of_getElem? hli)
      have hhd := H.out.hd ent (List.mem_of_getElem? hli) q ha
      have hln : 1 ≤ q.bytes.length ∧ q.bytes.length ≤ 1048576 := HW.out.ln _ (H.out.mem_live hli ha)
      rcases RE.reads hrd with ⟨ha', _, _⟩ | ⟨q', ha', r0, _, _⟩
      · rw [ha] at ha'; cases ha'
      rw [ha] at ha'
      cases ha'
      generalize lo32 a = o at *
      have hN : ((N : Int)).toNat = N := by omega
      rw [hN]
      have hb0 : (0 : Int) ≤ o := by omega
      have hb1 : (o : Int) + N ≤ q.bytes.length := by omega
      have hb2 : (q.bytes.length : Int) ≤ 1048576 := by omega
      clear hs hrd hli hi ha HAT H HW
      by_cases hz : q.bytes.length = o
      · have hN0 : N = 0 := by omega
        subst hN0
        have hv : ∀ c, (convert 31 9 (.slice (some ⟨ent.d, 0, none⟩) 0 c)).run Try.prog w = .ok (.string (bstr ((q.bytes.drop o).take 0))) w := fun c => run_bytes _ (by simp) (fun i hi => by omega)
        clear hhd hln
        go_wp2
        all_goals first | omega | (go_ret2; exact ⟨rfl, rfl⟩)
      · have hv : ∀ c, (convert 31 9 (.slice (some ⟨ent.d, o, none⟩) N c)).run Try.prog w = .ok (.string (bstr ((q.bytes.drop o).take N))) w := fun c => run_bytes ((q.bytes.drop o).take N) (by simp; omega) (fun i hi => by
          rw [getD_take_drop _ _ _ _ hi hb]
          exact byte_reads hhd _ (by omega))
        clear hhd hln
        go_wp2
        all_goals first | omega | (go_ret2; exact ⟨rfl, rfl⟩)
end Go.Proofs.Yteglgmdmnhkmgaa
