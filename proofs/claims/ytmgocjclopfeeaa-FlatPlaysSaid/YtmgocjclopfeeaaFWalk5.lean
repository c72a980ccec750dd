/- Contract of flat's New at an array for all CPUs: it answers as the plain data say; conditions: the spec may be, the memory has room. And at no memory: the error. -/
import Derived.Test.YtmgocjclopfeeaaFWalk4
set_option linter.unusedVariables false
set_option linter.unusedSimpArgs false
namespace Go.Proofs.Ytmgocjclopfeeaa
open Go.RowKit Go.MapKept
open Go.ChangeMaps (setBlock)

theorem addr0 (g : Nat) : (⟨g, 0, none⟩ : Addr).add 0 = ⟨g, 0, none⟩ := rfl
theorem K.info64 : (Try.prog.info? 33).map (fun i => (i.zero, i.size, i.bytes)) = some (some (.int .u64 0), 1, 8) := by kernel_rfl
theorem K.undOwn : Try.prog.underlying 66 = some (.slice 33) := by kernel_rfl
set_option maxRecDepth 100000 in
set_option maxHeartbeats 1600000 in
theorem fnew_array {w : World} {m v n : Nat} {k k' : KA} {F : List Nat} {a : Nat} (hk : KS w m k F) (cpus : Int) (hc : 1 ≤ cpus ∧ cpus ≤ 8) (hv : 1 ≤ v ∧ v ≤ 4096) (hn : 1 ≤ n ∧ n ≤ 4096) (hs : n * fwide v ≤ 1048576) (hm : k.made + 1 < 2147483648)
    (ha : k.alloc (n * fwide v : Nat) 3 = (a, 0, k')) (hal : a < 9223372036854775808) :
    Calls Try.prog 9 #[.pointer (some ⟨m, 0, none⟩), .agg #[.int .i64 2, .int .i64 4, .int .i64 v, .int .i64 n], .int .i64 cpus] w
      fun e w' => ∃ x F', e = .returned (.tuple #[.pointer (some ⟨x, 0, none⟩), .int .i64 0]) ∧ FM w' x m ⟨2, v, n⟩ (.shared a) ∧ KS w' m k' F' ∧ x ∉ F' ∧ w.heap.size ≤ x ∧ Fr F F' w w' := by
  have hw8 := wide_calls v hv.2
  have HW := fun w => hide (hw8 w)
  have hb1 : (1 : Int) ≤ v := by omega
  have hb2 : (v : Int) ≤ 4096 := by omega
  have hb3 : (1 : Int) ≤ n := by omega
  have hb4 : (n : Int) ≤ 4096 := by omega
  have hfw := fwide_le v hv.2
  have hp : ((n : Int) * (fwide v : Nat)) ≤ 1048576 := by rw [← Int.natCast_mul]; omega
  have HA : ∀ W z, KS W m k F → z = ((n * fwide v : Nat) : Int) → Hid (Calls Try.prog 26 #[.pointer (some ⟨m, 0, none⟩), .int .i64 z, .int .i64 3] W (KPostS m F W (.tuple #[.int .u64 a, .int .i64 0]) k')) := fun W z hW hz =>
    hide (by subst hz; exact alloc_S hW (by omega) ha)
  have hp1 : wrap64 ((n : Int) * (fwide v : Nat)) = ((n * fwide v : Nat) : Int) := by rw [Int.natCast_mul]; unfold wrap64; omega
  have hp2 : IntKind.i64.wrap ((n : Int) * (fwide v : Nat)) = ((n * fwide v : Nat) : Int) := by rw [IntWalk.i64_left]; exact hp1
  have hp1 := hide hp1
  have hp2 := hide hp2
  clear hw8
  obtain ⟨i0, hi, hz0, hz1, hz2⟩ := info_parts K.info64
  go_enter Try.func9, Try.ntmps9
  go_wp2_with fail
  go_quiet ((go_at_call 25; exact Calls.quiet_of_same ((HW _).out.mono (fun e w' h => ⟨h.1, h.2.symm⟩))))
  go_wp2_with fail
  refine wp_loop_rounds 2 ?_
  rw [rounds_succ]
  go_wp2_with fail
  go_region_with (first | (go_at_call 25; refine (HW _).out.mono ?_; rintro e w' ⟨rfl, rfl⟩) | (go_at_call 26; refine (HA _ _ ?_ ?_).out.mono ?_; exact (hk.alloc _).drewN _; (first | exact (Int.natCast_mul _ _).symm | exact hp1.out | exact hp2.out); rintro e w' ⟨F3, rfl, hk3', hf3'⟩))
  all_goals
    have fr3 := (((Fr.refl F w).alloc _).drewN _).trans hf3'
    have hsz3 := hf3'.size
    replace hsz3 : w.heap.size + 1 ≤ w'.heap.size := by
      refine Nat.le_trans (Nat.le_of_eq ?_) hsz3
      exact (World.size_alloc _ _).symm
    have hin : w.heap.size ∉ F := fun hf => Nat.lt_irrefl _ (hk.lt _ hf)
    have hbox : w'.heap[w.heap.size]? = some (.cells #[.int .i64 2, .int .i64 4, .int .i64 v, .int .i64 n] 29 (0, 0)) := hf3'.keep (heap_alloc_new _ _) hin
    go_wp2_with (at_builtin; refine wpList_append_own_at _ rfl _ _ 66 rfl 0 33 i0 (.int .u64 0) 1 8 K.undOwn hi hz0 hz1 hz2 rfl (by decide) _ _ _ rfl (World.ownsRow_nil _ _ _ _) ⟨w'.heap.size, 0, none⟩ 1 1 [.int .u64 a] rfl rfl (cell_one_new _ _ _) ?_ ?_ ?_ (Nat.zero_le _) ?_)
    · simp [Value.oneCell']
    · unfold maxLen; omega
    · omega
    intro v' w6 hown' hgrow hnil hat
    rcases hown'.2 with ⟨_, hz⟩ | ⟨g, cap, cur, hv, -, hh, hcap, -, hcs, htk⟩
    · omega
    have hc0 : w6.cell? ⟨g, 0, none⟩ = some (.int .u64 a) := by
      have := hown'.cells (g := g) (by rw [hv]; rfl) 0 (.int .u64 a) rfl
      rwa [addr0] at this
    have hg : g = w'.heap.size + 1 := by
      rw [hv] at hat
      rcases hat with hat | hat
      · cases hat
      · simpa [Value.ownBlock] using hat
    have hb6 : w6.heap[w.heap.size]? = some (.cells #[.int .i64 2, .int .i64 4, .int .i64 v, .int .i64 n] 29 (0, 0)) := by
      rw [hgrow.block _ (by rw [World.size_alloc]; omega) (by intro e; cases e)]
      exact heap_alloc_some hbox
    have d0 : w6.cell? ⟨w.heap.size, 0, none⟩ = some (.int .i64 2) := by simp [World.cell?, hb6]
    have d1 : w6.cell? ⟨w.heap.size, 1, none⟩ = some (.int .i64 4) := by simp [World.cell?, hb6]
    have d2 : w6.cell? ⟨w.heap.size, 2, none⟩ = some (.int .i64 v) := by simp [World.cell?, hb6]
    have d3 : w6.cell? ⟨w.heap.size, 3, none⟩ = some (.int .i64 n) := by simp [World.cell?, hb6]
    have hz6 : w'.heap.size + 1 ≤ w6.heap.size := by have := hgrow.size; rwa [World.size_alloc] at this
    have hgl := lt_of_heap hh
    have hwl : w.heap.size < w6.heap.size := by omega
    have HF := hide (And.intro (hk3'.alloc (.cells #[.int .u64 a] 33)) (And.intro hgrow fr3))
    subst hv
    have HG := hide hg
    clear hown' hat hnil hh hcs htk hgrow hbox fr3 hg
    go_wp2
    rw [rounds_succ]
    go_wp2
    go_ret2
    have hk6 := (HF.out.1.own HF.out.2.1 (fun b e => by cases e)).alloc (.cells #[.pointer (some ⟨m, 0, none⟩), .int .i64 2, .int .i64 4, .int .i64 v, .int .i64 n, FR.val (.shared a)] 73)
    refine ⟨_, _, rfl, ⟨heap_alloc_new _ _, (fun g cap l hR => by cases hR), hv, hn, fun a' ha' => by simp [FR.ads] at ha'; omega⟩, hk6, fun hf => ?_, ?_, ((HF.out.2.2.alloc _).own HF.out.2.1 (fun b e => by cases e)).alloc _⟩
    · have := (HF.out.1.own HF.out.2.1 (fun b e => by cases e)).lt _ hf
      exact Nat.lt_irrefl _ this
    · omega
end Go.Proofs.Ytmgocjclopfeeaa
