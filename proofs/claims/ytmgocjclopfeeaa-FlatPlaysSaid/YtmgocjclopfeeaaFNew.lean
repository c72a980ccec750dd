/- Contract of flat's New, whatever the arguments: the error where the spec may not be, or where an allocation fails (what was made is freed again); condition: the memory is held. -/
import Derived.Test.YtmgocjclopfeeaaGFree
set_option linter.unusedVariables false
set_option linter.unusedSimpArgs false
namespace Go.Proofs.Ytmgocjclopfeeaa
open Go.RowKit Go.MapKept
open Go.ChangeMaps (setBlock)

/-- May a spec be? -/
structure FMay (kd key v n cpus : Int) : Prop where
  kd : kd = 2 ∨ kd = 6
  key : key = 4
  v1 : 1 ≤ v
  v2 : v ≤ 4096
  n1 : 1 ≤ n
  n2 : n ≤ 4096
  c1 : 1 ≤ cpus
  c2 : cpus ≤ 8
  sz : n * (fwide v.toNat : Nat) ≤ 1048576
def NilPost (w : World) (r : Int) (e : Ending) (w' : World) : Prop := e = .returned (.tuple #[.pointer none, .int .i64 r]) ∧ Fr [] [] w w'
theorem mul_i64 (n : Int) (f : Nat) (h1 : 1 ≤ n) (h2 : n ≤ 4096) (hf : f ≤ 4096) : wrap64 (n * (f : Nat)) = n * (f : Nat) ∧ IntKind.i64.wrap (n * (f : Nat)) = n * (f : Nat) := by
  obtain ⟨N, rfl⟩ : ∃ N : Nat, n = N := ⟨n.toNat, by omega⟩
  have : N * f ≤ 4096 * 4096 := Nat.mul_le_mul (by omega) hf
  have h3 : wrap64 ((N : Int) * (f : Nat)) = (N : Int) * (f : Nat) := by rw [← Int.natCast_mul]; unfold wrap64; omega
  exact ⟨h3, by rw [IntWalk.i64_left]; exact h3⟩
/-- In what way a spec may not be. -/
theorem not_may {kd key v n cpus : Int} (h : ¬ FMay kd key v n cpus) :
    (key ≠ 4) ∨ (key = 4 ∧ v < 1) ∨ (key = 4 ∧ 1 ≤ v ∧ 4096 < v) ∨ (key = 4 ∧ 1 ≤ v ∧ v ≤ 4096 ∧ n < 1) ∨ (key = 4 ∧ 1 ≤ v ∧ v ≤ 4096 ∧ 1 ≤ n ∧ 4096 < n) ∨ (key = 4 ∧ 1 ≤ v ∧ v ≤ 4096 ∧ 1 ≤ n ∧ n ≤ 4096 ∧ cpus < 1) ∨
    (key = 4 ∧ 1 ≤ v ∧ v ≤ 4096 ∧ 1 ≤ n ∧ n ≤ 4096 ∧ 1 ≤ cpus ∧ 8 < cpus) ∨ (key = 4 ∧ 1 ≤ v ∧ v ≤ 4096 ∧ 1 ≤ n ∧ n ≤ 4096 ∧ 1 ≤ cpus ∧ cpus ≤ 8 ∧ 1048576 < n * (fwide v.toNat : Nat)) ∨
    (key = 4 ∧ 1 ≤ v ∧ v ≤ 4096 ∧ 1 ≤ n ∧ n ≤ 4096 ∧ 1 ≤ cpus ∧ cpus ≤ 8 ∧ n * (fwide v.toNat : Nat) ≤ 1048576 ∧ kd ≠ 2 ∧ kd ≠ 6) := by
  by_cases h1 : key = 4
  · right
    by_cases h2 : 1 ≤ v
    · right
      by_cases h3 : v ≤ 4096
      · right
        by_cases h4 : 1 ≤ n
        · right
          by_cases h5 : n ≤ 4096
          · right
            by_cases h6 : 1 ≤ cpus
            · right
              by_cases h7 : cpus ≤ 8
              · right
                by_cases h8 : n * (fwide v.toNat : Nat) ≤ 1048576
                · exact .inr ⟨h1, h2, h3, h4, h5, h6, h7, h8, fun e => h ⟨.inl e, h1, h2, h3, h4, h5, h6, h7, h8⟩, fun e => h ⟨.inr e, h1, h2, h3, h4, h5, h6, h7, h8⟩⟩
                · exact .inl ⟨h1, h2, h3, h4, h5, h6, h7, by omega⟩
              · exact .inl ⟨h1, h2, h3, h4, h5, h6, by omega⟩
            · exact .inl ⟨h1, h2, h3, h4, h5, by omega⟩
          · exact .inl ⟨h1, h2, h3, h4, by omega⟩
        · exact .inl ⟨h1, h2, h3, by omega⟩
      · exact .inl ⟨h1, h2, by omega⟩
    · exact .inl ⟨h1, by omega⟩
  · exact .inl h1
theorem kinds3 (kd : Int) : ((kd == 2) = true ∧ (kd == 6) = false) ∨ ((kd == 2) = false ∧ (kd == 6) = true) ∨ ((kd == 2) = false ∧ (kd == 6) = false) := by
  by_cases h1 : kd = 2
  · subst h1; decide
  · by_cases h2 : kd = 6
    · subst h2; decide
    · exact .inr (.inr ⟨by simpa using h1, by simpa using h2⟩)
def newArgs (m : Nat) (kd key v n cpus : Int) : Array Value := #[.pointer (some ⟨m, 0, none⟩), .agg #[.int .i64 kd, .int .i64 key, .int .i64 v, .int .i64 n], .int .i64 cpus]
theorem nil_fr {w : World} (o : Obj) (q : Nat) : NilPost w 1 (.returned (.tuple #[.pointer none, .int .i64 1])) ((w.alloc o).drewN q) := ⟨rfl, ((Fr.refl [] w).alloc o).drewN q⟩
set_option maxRecDepth 100000 in
set_option maxHeartbeats 1600000 in
theorem fnew_no1 (m : Nat) (kd key v n cpus : Int) (h : key ≠ 4) (w : World) : Calls Try.prog 9 (newArgs m kd key v n cpus) w (NilPost w 1) := by
  unfold newArgs
  have hb : (key == 4) = false := by simpa using h
  clear h
  rcases kinds3 kd with ⟨e2, e6⟩ | ⟨e2, e6⟩ | ⟨e2, e6⟩
  all_goals
    go_enter Try.func9, Try.ntmps9
    go_wp2_with fail
    go_quiet (fail)
    go_wp2
    go_ret2
    exact nil_fr _ _
set_option maxRecDepth 100000 in
set_option maxHeartbeats 1600000 in
theorem fnew_no2 (m : Nat) (kd v n cpus : Int) (h2 : v < 1) (w : World) : Calls Try.prog 9 (newArgs m kd 4 v n cpus) w (NilPost w 1) := by
  unfold newArgs
  have hb : decide (1 ≤ v) = false := by rw [decide_eq_false_iff_not]; omega
  have hn : ¬ (1 ≤ v) := by omega
  clear h2
  rcases kinds3 kd with ⟨e2, e6⟩ | ⟨e2, e6⟩ | ⟨e2, e6⟩
  all_goals
    go_enter Try.func9, Try.ntmps9
    go_wp2_with fail
    go_quiet (fail)
    go_wp2
    go_ret2
    exact nil_fr _ _
set_option maxRecDepth 100000 in
set_option maxHeartbeats 1600000 in
theorem fnew_no3 (m : Nat) (kd v n cpus : Int) (h2 : 1 ≤ v) (h3 : 4096 < v) (w : World) : Calls Try.prog 9 (newArgs m kd 4 v n cpus) w (NilPost w 1) := by
  unfold newArgs
  have hb : decide (v ≤ 4096) = false := by rw [decide_eq_false_iff_not]; omega
  have hn : ¬ (v ≤ 4096) := by omega
  clear h3
  rcases kinds3 kd with ⟨e2, e6⟩ | ⟨e2, e6⟩ | ⟨e2, e6⟩
  all_goals
    go_enter Try.func9, Try.ntmps9
    go_wp2_with fail
    go_quiet (fail)
    go_wp2
    go_ret2
    exact nil_fr _ _
set_option maxRecDepth 100000 in
set_option maxHeartbeats 1600000 in
theorem fnew_no4 (m : Nat) (kd v n cpus : Int) (h2 : 1 ≤ v) (h3 : v ≤ 4096) (h4 : n < 1) (w : World) : Calls Try.prog 9 (newArgs m kd 4 v n cpus) w (NilPost w 1) := by
  unfold newArgs
  have hb : decide (1 ≤ n) = false := by rw [decide_eq_false_iff_not]; omega
  have hn : ¬ (1 ≤ n) := by omega
  clear h4
  rcases kinds3 kd with ⟨e2, e6⟩ | ⟨e2, e6⟩ | ⟨e2, e6⟩
  all_goals
    go_enter Try.func9, Try.ntmps9
    go_wp2_with fail
    go_quiet (fail)
    go_wp2
    go_ret2
    exact nil_fr _ _
set_option maxRecDepth 100000 in
set_option maxHeartbeats 1600000 in
theorem fnew_no5 (m : Nat) (kd v n cpus : Int) (h2 : 1 ≤ v) (h3 : v ≤ 4096) (h4 : 1 ≤ n) (h5 : 4096 < n) (w : World) : Calls Try.prog 9 (newArgs m kd 4 v n cpus) w (NilPost w 1) := by
  unfold newArgs
  have hb : decide (n ≤ 4096) = false := by rw [decide_eq_false_iff_not]; omega
  have hn : ¬ (n ≤ 4096) := by omega
  clear h5
  rcases kinds3 kd with ⟨e2, e6⟩ | ⟨e2, e6⟩ | ⟨e2, e6⟩
  all_goals
    go_enter Try.func9, Try.ntmps9
    go_wp2_with fail
    go_quiet (fail)
    go_wp2
    go_ret2
    exact nil_fr _ _
set_option maxRecDepth 100000 in
set_option maxHeartbeats 1600000 in
theorem fnew_no6 (m : Nat) (kd v n cpus : Int) (h2 : 1 ≤ v) (h3 : v ≤ 4096) (h4 : 1 ≤ n) (h5 : n ≤ 4096) (h6 : cpus < 1) (w : World) : Calls Try.prog 9 (newArgs m kd 4 v n cpus) w (NilPost w 1) := by
  unfold newArgs
  have hb : decide (1 ≤ cpus) = false := by rw [decide_eq_false_iff_not]; omega
  have hn : ¬ (1 ≤ cpus) := by omega
  clear h6
  rcases kinds3 kd with ⟨e2, e6⟩ | ⟨e2, e6⟩ | ⟨e2, e6⟩
  all_goals
    go_enter Try.func9, Try.ntmps9
    go_wp2_with fail
    go_quiet (fail)
    go_wp2
    go_ret2
    exact nil_fr _ _
set_option maxRecDepth 100000 in
set_option maxHeartbeats 1600000 in
theorem fnew_no7 (m : Nat) (kd v n cpus : Int) (h2 : 1 ≤ v) (h3 : v ≤ 4096) (h4 : 1 ≤ n) (h5 : n ≤ 4096) (h6 : 1 ≤ cpus) (h7 : 8 < cpus) (w : World) : Calls Try.prog 9 (newArgs m kd 4 v n cpus) w (NilPost w 1) := by
  unfold newArgs
  have hb : decide (cpus ≤ 8) = false := by rw [decide_eq_false_iff_not]; omega
  have hn : ¬ (cpus ≤ 8) := by omega
  clear h7
  rcases kinds3 kd with ⟨e2, e6⟩ | ⟨e2, e6⟩ | ⟨e2, e6⟩
  all_goals
    go_enter Try.func9, Try.ntmps9
    go_wp2_with fail
    go_quiet (fail)
    go_wp2
    go_ret2
    exact nil_fr _ _
set_option maxRecDepth 100000 in
set_option maxHeartbeats 1600000 in
theorem fnew_no8 (m : Nat) (kd v n cpus : Int) (h2 : 1 ≤ v) (h3 : v ≤ 4096) (h4 : 1 ≤ n) (h5 : n ≤ 4096) (h6 : 1 ≤ cpus) (h7 : cpus ≤ 8) (h8 : 1048576 < n * (fwide v.toNat : Nat)) (w : World) : Calls Try.prog 9 (newArgs m kd 4 v n cpus) w (NilPost w 1) := by
  unfold newArgs
  obtain ⟨V, rfl⟩ : ∃ V : Nat, v = V := ⟨v.toNat, by omega⟩
  rw [Int.toNat_natCast] at h8
  have HW := fun W => hide (wide_calls V (by omega) W)
  have hm := mul_i64 n (fwide V) h4 h5 (fwide_le V (by omega))
  obtain ⟨m1, m2⟩ := hm
  have hb : decide (n * (fwide V : Nat) ≤ 1048576) = false := by rw [decide_eq_false_iff_not]; omega
  have hn : ¬ (n * (fwide V : Nat) ≤ 1048576) := by omega
  clear h8
  rcases kinds3 kd with ⟨e2, e6⟩ | ⟨e2, e6⟩ | ⟨e2, e6⟩
  all_goals
    go_enter Try.func9, Try.ntmps9
    go_wp2_with fail
    go_quiet ((go_at_call 25; exact Calls.quiet_of_same ((HW _).out.mono (fun e w' h => ⟨h.1, h.2.symm⟩))))
    go_wp2
    go_ret2
    exact nil_fr _ _
set_option maxRecDepth 100000 in
set_option maxHeartbeats 1600000 in
theorem fnew_no9 (m : Nat) (kd v n cpus : Int) (h2 : 1 ≤ v) (h3 : v ≤ 4096) (h4 : 1 ≤ n) (h5 : n ≤ 4096) (h6 : 1 ≤ cpus) (h7 : cpus ≤ 8) (h8 : n * (fwide v.toNat : Nat) ≤ 1048576) (k1 : kd ≠ 2) (k2 : kd ≠ 6) (w : World) : Calls Try.prog 9 (newArgs m kd 4 v n cpus) w (NilPost w 1) := by
  unfold newArgs
  obtain ⟨V, rfl⟩ : ∃ V : Nat, v = V := ⟨v.toNat, by omega⟩
  rw [Int.toNat_natCast] at h8
  have HW := fun W => hide (wide_calls V (by omega) W)
  have hm := mul_i64 n (fwide V) h4 h5 (fwide_le V (by omega))
  obtain ⟨m1, m2⟩ := hm
  have e2 : (kd == 2) = false := by simpa using k1
  have e6 : (kd == 6) = false := by simpa using k2
  clear k1 k2
  · go_enter Try.func9, Try.ntmps9
    go_wp2_with fail
    go_quiet ((go_at_call 25; exact Calls.quiet_of_same ((HW _).out.mono (fun e w' h => ⟨h.1, h.2.symm⟩))))
    go_wp2
    go_ret2
    exact nil_fr _ _
theorem fnew_no {kd key v n cpus : Int} (h : ¬ FMay kd key v n cpus) (m : Nat) (w : World) : Calls Try.prog 9 (newArgs m kd key v n cpus) w (NilPost w 1) := by
  rcases not_may h with h1 | ⟨rfl, h2⟩ | ⟨rfl, h2, h3⟩ | ⟨rfl, h2, h3, h4⟩ | ⟨rfl, h2, h3, h4, h5⟩ | ⟨rfl, h2, h3, h4, h5, h6⟩ | ⟨rfl, h2, h3, h4, h5, h6, h7⟩ | ⟨rfl, h2, h3, h4, h5, h6, h7, h8⟩ | ⟨rfl, h2, h3, h4, h5, h6, h7, h8, k1, k2⟩
  · exact fnew_no1 m kd key v n cpus h1 w
  · exact fnew_no2 m kd v n cpus h2 w
  · exact fnew_no3 m kd v n cpus h2 h3 w
  · exact fnew_no4 m kd v n cpus h2 h3 h4 w
  · exact fnew_no5 m kd v n cpus h2 h3 h4 h5 w
  · exact fnew_no6 m kd v n cpus h2 h3 h4 h5 h6 w
  · exact fnew_no7 m kd v n cpus h2 h3 h4 h5 h6 h7 w
  · exact fnew_no8 m kd v n cpus h2 h3 h4 h5 h6 h7 h8 w
  · exact fnew_no9 m kd v n cpus h2 h3 h4 h5 h6 h7 h8 k1 k2 w
end Go.Proofs.Ytmgocjclopfeeaa
