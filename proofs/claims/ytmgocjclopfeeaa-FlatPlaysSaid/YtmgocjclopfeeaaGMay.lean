/- Contract of the reference's May: whether a spec may be; no condition. -/
import Derived.Test.YtmgocjclopfeeaaGRef
import Derived.Test.YtmgocjclopfeeaaFNew
set_option linter.unusedVariables false
set_option linter.unusedSimpArgs false
namespace Go.Proofs.Ytmgocjclopfeeaa
open Go.RowKit Go.MapKept

def BoolPost (w : World) (b : Bool) (e : Ending) (w' : World) : Prop := e = .returned (.bool b) ∧ Fr [] [] w w'
theorem bool_fr {w : World} (b : Bool) (o : Obj) (q : Nat) : BoolPost w b (.returned (.bool b)) ((w.alloc o).drewN q) := ⟨rfl, ((Fr.refl [] w).alloc o).drewN q⟩
def mayArgs (kd key v n cpus : Int) : Array Value := #[.agg #[.int .i64 kd, .int .i64 key, .int .i64 v, .int .i64 n], .int .i64 cpus]
set_option maxRecDepth 100000 in
set_option maxHeartbeats 1600000 in
theorem may_nk (kd key v n cpus : Int) (e2 : (kd == 2) = false) (e6 : (kd == 6) = false) (w : World) : Calls Try.prog 32 (mayArgs kd key v n cpus) w (BoolPost w false) := by
  unfold mayArgs
  · go_enter Try.func32, Try.ntmps32
    go_wp2_with fail
    go_quiet (fail)
    go_wp2
    go_ret
    exact bool_fr _ _ _
set_option maxRecDepth 100000 in
set_option maxHeartbeats 1600000 in
theorem may_no1 (kd key v n cpus : Int) (hk : ((kd == 2) = true ∧ (kd == 6) = false) ∨ ((kd == 2) = false ∧ (kd == 6) = true)) (h : key ≠ 4) (w : World) : Calls Try.prog 32 (mayArgs kd key v n cpus) w (BoolPost w false) := by
  unfold mayArgs
  have hb : (key == 4) = false := by simpa using h
  clear h
  rcases hk with ⟨e2, e6⟩ | ⟨e2, e6⟩
  all_goals
    go_enter Try.func32, Try.ntmps32
    go_wp2_with fail
    go_quiet (fail)
    go_wp2
    go_ret
    exact bool_fr _ _ _
set_option maxRecDepth 100000 in
set_option maxHeartbeats 1600000 in
theorem may_no2 (kd v n cpus : Int) (hk : ((kd == 2) = true ∧ (kd == 6) = false) ∨ ((kd == 2) = false ∧ (kd == 6) = true))  (hx : ¬ (1 ≤ v)) (w : World) : Calls Try.prog 32 (mayArgs kd 4 v n cpus) w (BoolPost w false) := by
  unfold mayArgs
  have hb : decide (1 ≤ v) = false := by rw [decide_eq_false_iff_not]; exact hx
  rcases hk with ⟨e2, e6⟩ | ⟨e2, e6⟩
  all_goals
    go_enter Try.func32, Try.ntmps32
    go_wp2_with fail
    go_quiet (fail)
    go_wp2
    go_ret
    exact bool_fr _ _ _
set_option maxRecDepth 100000 in
set_option maxHeartbeats 1600000 in
theorem may_no3 (kd v n cpus : Int) (hk : ((kd == 2) = true ∧ (kd == 6) = false) ∨ ((kd == 2) = false ∧ (kd == 6) = true)) (h2 : 1 ≤ v) (hx : ¬ (v ≤ 4096)) (w : World) : Calls Try.prog 32 (mayArgs kd 4 v n cpus) w (BoolPost w false) := by
  unfold mayArgs
  have hb : decide (v ≤ 4096) = false := by rw [decide_eq_false_iff_not]; exact hx
  rcases hk with ⟨e2, e6⟩ | ⟨e2, e6⟩
  all_goals
    go_enter Try.func32, Try.ntmps32
    go_wp2_with fail
    go_quiet (fail)
    go_wp2
    go_ret
    exact bool_fr _ _ _
set_option maxRecDepth 100000 in
set_option maxHeartbeats 1600000 in
theorem may_no4 (kd v n cpus : Int) (hk : ((kd == 2) = true ∧ (kd == 6) = false) ∨ ((kd == 2) = false ∧ (kd == 6) = true)) (h2 : 1 ≤ v) (h3 : v ≤ 4096) (hx : ¬ (1 ≤ n)) (w : World) : Calls Try.prog 32 (mayArgs kd 4 v n cpus) w (BoolPost w false) := by
  unfold mayArgs
  have hb : decide (1 ≤ n) = false := by rw [decide_eq_false_iff_not]; exact hx
  rcases hk with ⟨e2, e6⟩ | ⟨e2, e6⟩
  all_goals
    go_enter Try.func32, Try.ntmps32
    go_wp2_with fail
    go_quiet (fail)
    go_wp2
    go_ret
    exact bool_fr _ _ _
set_option maxRecDepth 100000 in
set_option maxHeartbeats 1600000 in
theorem may_no5 (kd v n cpus : Int) (hk : ((kd == 2) = true ∧ (kd == 6) = false) ∨ ((kd == 2) = false ∧ (kd == 6) = true)) (h2 : 1 ≤ v) (h3 : v ≤ 4096) (h4 : 1 ≤ n) (hx : ¬ (n ≤ 4096)) (w : World) : Calls Try.prog 32 (mayArgs kd 4 v n cpus) w (BoolPost w false) := by
  unfold mayArgs
  have hb : decide (n ≤ 4096) = false := by rw [decide_eq_false_iff_not]; exact hx
  rcases hk with ⟨e2, e6⟩ | ⟨e2, e6⟩
  all_goals
    go_enter Try.func32, Try.ntmps32
    go_wp2_with fail
    go_quiet (fail)
    go_wp2
    go_ret
    exact bool_fr _ _ _
set_option maxRecDepth 100000 in
set_option maxHeartbeats 1600000 in
theorem may_no6 (kd v n cpus : Int) (hk : ((kd == 2) = true ∧ (kd == 6) = false) ∨ ((kd == 2) = false ∧ (kd == 6) = true)) (h2 : 1 ≤ v) (h3 : v ≤ 4096) (h4 : 1 ≤ n) (h5 : n ≤ 4096) (hx : ¬ (1 ≤ cpus)) (w : World) : Calls Try.prog 32 (mayArgs kd 4 v n cpus) w (BoolPost w false) := by
  unfold mayArgs
  have hb : decide (1 ≤ cpus) = false := by rw [decide_eq_false_iff_not]; exact hx
  rcases hk with ⟨e2, e6⟩ | ⟨e2, e6⟩
  all_goals
    go_enter Try.func32, Try.ntmps32
    go_wp2_with fail
    go_quiet (fail)
    go_wp2
    go_ret
    exact bool_fr _ _ _
set_option maxRecDepth 100000 in
set_option maxHeartbeats 1600000 in
theorem may_no7 (kd v n cpus : Int) (hk : ((kd == 2) = true ∧ (kd == 6) = false) ∨ ((kd == 2) = false ∧ (kd == 6) = true)) (h2 : 1 ≤ v) (h3 : v ≤ 4096) (h4 : 1 ≤ n) (h5 : n ≤ 4096) (h6 : 1 ≤ cpus) (hx : ¬ (cpus ≤ 8)) (w : World) : Calls Try.prog 32 (mayArgs kd 4 v n cpus) w (BoolPost w false) := by
  unfold mayArgs
  have hb : decide (cpus ≤ 8) = false := by rw [decide_eq_false_iff_not]; exact hx
  rcases hk with ⟨e2, e6⟩ | ⟨e2, e6⟩
  all_goals
    go_enter Try.func32, Try.ntmps32
    go_wp2_with fail
    go_quiet (fail)
    go_wp2
    go_ret
    exact bool_fr _ _ _
set_option maxRecDepth 100000 in
set_option maxHeartbeats 1600000 in
theorem may_no8 (kd v n cpus : Int) (hk : ((kd == 2) = true ∧ (kd == 6) = false) ∨ ((kd == 2) = false ∧ (kd == 6) = true)) (h2 : 1 ≤ v) (h3 : v ≤ 4096) (h4 : 1 ≤ n) (h5 : n ≤ 4096) (h6 : 1 ≤ cpus) (h7 : cpus ≤ 8) (hx : ¬ (n * (fwide v.toNat : Nat) ≤ 1048576)) (w : World) : Calls Try.prog 32 (mayArgs kd 4 v n cpus) w (BoolPost w false) := by
  unfold mayArgs
  obtain ⟨V, rfl⟩ : ∃ V : Nat, v = V := ⟨v.toNat, by omega⟩
  rw [Int.toNat_natCast] at hx
  have HW := fun W => hide (Wide_calls V (by omega) W)
  have hm := mul_i64 n (fwide V) h4 h5 (fwide_le V (by omega))
  obtain ⟨m1, m2⟩ := hm
  have hb : decide (n * (fwide V : Nat) ≤ 1048576) = false := by rw [decide_eq_false_iff_not]; exact hx
  rcases hk with ⟨e2, e6⟩ | ⟨e2, e6⟩
  all_goals
    go_enter Try.func32, Try.ntmps32
    go_wp2_with fail
    go_quiet ((go_at_call 34; exact Calls.quiet_of_same ((HW _).out.mono (fun e w' h => ⟨h.1, h.2.symm⟩))))
    go_wp2
    go_ret
    exact bool_fr _ _ _
set_option maxRecDepth 100000 in
set_option maxHeartbeats 1600000 in
theorem may_yes (kd v n cpus : Int) (hk : ((kd == 2) = true ∧ (kd == 6) = false) ∨ ((kd == 2) = false ∧ (kd == 6) = true)) (h2 : 1 ≤ v) (h3 : v ≤ 4096) (h4 : 1 ≤ n) (h5 : n ≤ 4096) (h6 : 1 ≤ cpus) (h7 : cpus ≤ 8) (h8 : n * (fwide v.toNat : Nat) ≤ 1048576) (w : World) : Calls Try.prog 32 (mayArgs kd 4 v n cpus) w (BoolPost w true) := by
  unfold mayArgs
  obtain ⟨V, rfl⟩ : ∃ V : Nat, v = V := ⟨v.toNat, by omega⟩
  rw [Int.toNat_natCast] at h8
  have HW := fun W => hide (Wide_calls V (by omega) W)
  have hm := mul_i64 n (fwide V) h4 h5 (fwide_le V (by omega))
  obtain ⟨m1, m2⟩ := hm
  rcases hk with ⟨e2, e6⟩ | ⟨e2, e6⟩
  all_goals
    go_enter Try.func32, Try.ntmps32
    go_wp2_with fail
    go_quiet ((go_at_call 34; exact Calls.quiet_of_same ((HW _).out.mono (fun e w' h => ⟨h.1, h.2.symm⟩))))
    go_wp2
    go_ret
    exact bool_fr _ _ _
theorem May_yes {kd key v n cpus : Int} (h : FMay kd key v n cpus) (w : World) : Calls Try.prog 32 (mayArgs kd key v n cpus) w (BoolPost w true) := by
  obtain ⟨hk, rfl, h2, h3, h4, h5, h6, h7, h8⟩ := h
  exact may_yes kd v n cpus (by rcases hk with rfl | rfl <;> decide) h2 h3 h4 h5 h6 h7 h8 w
theorem May_no {kd key v n cpus : Int} (h : ¬ FMay kd key v n cpus) (w : World) : Calls Try.prog 32 (mayArgs kd key v n cpus) w (BoolPost w false) := by
  have KEY : ((kd == 2) = true ∧ (kd == 6) = false) ∨ ((kd == 2) = false ∧ (kd == 6) = true) → Calls Try.prog 32 (mayArgs kd key v n cpus) w (BoolPost w false) := by
    intro hk3
    rcases not_may h with h1 | ⟨rfl, h2⟩ | ⟨rfl, h2, h3⟩ | ⟨rfl, h2, h3, h4⟩ | ⟨rfl, h2, h3, h4, h5⟩ | ⟨rfl, h2, h3, h4, h5, h6⟩ | ⟨rfl, h2, h3, h4, h5, h6, h7⟩ | ⟨rfl, h2, h3, h4, h5, h6, h7, h8⟩ | ⟨rfl, h2, h3, h4, h5, h6, h7, h8, k1, k2⟩
    · exact may_no1 kd key v n cpus hk3 h1 w
    · exact may_no2 kd v n cpus hk3 (by omega) w
    · exact may_no3 kd v n cpus hk3 h2 (by omega) w
    · exact may_no4 kd v n cpus hk3 h2 h3 (by omega) w
    · exact may_no5 kd v n cpus hk3 h2 h3 h4 (by omega) w
    · exact may_no6 kd v n cpus hk3 h2 h3 h4 h5 (by omega) w
    · exact may_no7 kd v n cpus hk3 h2 h3 h4 h5 h6 (by omega) w
    · exact may_no8 kd v n cpus hk3 h2 h3 h4 h5 h6 h7 (by omega) w
    · simp at hk3
      omega
  rcases kinds3 kd with hk | hk | hk
  · exact KEY (.inl hk)
  · exact KEY (.inr hk)
  · exact may_nk kd key v n cpus hk.1 hk.2 w
end Go.Proofs.Ytmgocjclopfeeaa
