/- kmem's function Regions over a memory without a live region: no list, and nothing that was there is another; condition: the world holds the memory (KS). -/
import Derived.Test.YteglgmdmnhkmgaaKLaw
set_option linter.unusedVariables false
set_option linter.unusedSimpArgs false
namespace Go.Proofs.Yteglgmdmnhkmgaa
open Go.RowKit Go.MapKept
open Go.ChangeMaps (setBlock)

set_option maxRecDepth 100000 in
theorem inssort_nil (f : Value) (w : World) : Calls Try.prog 44 #[.slice none 0 0, .int .i64 0, .int .i64 0, f] w fun e w' => e = .returned (.tuple #[]) ∧ w = w' := by
  go_enter Try.func44, Try.ntmps44
  go_wp2
  refine wp_loop_rounds 1 ?_
  rw [rounds_succ]
  go_wp2
  go_end0
  exact ⟨rfl, rfl⟩
set_option maxRecDepth 100000 in
theorem pdq_nil (f : Value) (n : Int) (w : World) : Calls Try.prog 39 #[.slice none 0 0, .int .i64 0, .int .i64 0, .int .i64 n, f] w fun e w' => e = .returned (.tuple #[]) ∧ w = w' := by
  go_enter Try.func39, Try.ntmps39
  go_wp2
  refine wp_loop_rounds 1 ?_
  rw [rounds_succ]
  go_wp2_with (go_at_call 44; refine (inssort_nil _ _).mono ?_; rintro e w' ⟨rfl, rfl⟩)
  go_outline
  (try simp only [Exit.inBlock, Exit.then])
  refine bodyPost_ret (results_none rfl _ _ _) rfl ?_
  exact ⟨rfl, rfl⟩
set_option maxRecDepth 100000 in
theorem sortfunc_nil (f : Value) (w : World) : Calls Try.prog 27 #[.slice none 0 0, f] w fun e w' => e = .returned (.tuple #[]) ∧ w = w' := by
  go_enter Try.func27, Try.ntmps27
  go_wp2_with (first | (go_at_call 39; refine (pdq_nil _ _ _).mono ?_; rintro e w' ⟨rfl, rfl⟩) | go_in)
  go_end0
  exact ⟨rfl, rfl⟩
set_option maxRecDepth 100000 in
theorem regions_none (m : Nat) (c : KC) (w : World) (h : KM w m c) (hc : c.cs = []) :
    Calls Try.prog 17 #[.pointer (some ⟨m, 0, none⟩)] w fun e w' => e = .returned (.slice none 0 0) ∧ KM w' m c ∧ Fr (c.foot m) (c.foot m) w w' := by
  obtain ⟨c0, -⟩ := h.cells
  have hrg := K.range w h
  have hes : c.entries = #[] := by simp [KC.entries, hc]
  have hmb := h.hmb
  rw [hes] at hmb
  have hkm := h.alloc (.mapIter (some c.mb) c.clk #[] c.clk)
  have hfr : Fr (c.foot m) (c.foot m) w (w.alloc (.mapIter (some c.mb) c.clk #[] c.clk)) := (Fr.refl _ _).alloc _
  have hnext : ∀ ty, (Instr.next (.pointer (some ⟨w.heap.size, 0, none⟩)) false ty).run Try.prog (w.alloc (.mapIter (some c.mb) c.clk #[] c.clk)) = .ok (.tuple #[.bool false]) (w.alloc (.mapIter (some c.mb) c.clk #[] c.clk)) := fun ty => by
    rcases run_next_at (P := Try.prog) (w.alloc (.mapIter (some c.mb) c.clk #[] c.clk)) ty w.heap.size c.mb c.clk c.clk #[] #[] c.clk (heap_alloc_new _ _) (heap_alloc_some hmb) (by simp) (Nat.le_refl _) with ⟨_, hr⟩ | ⟨e, he, _⟩
    · exact hr
    · simp [leftOf] at he
  have HK := hide (And.intro hkm hfr)
  clear h hes hmb hkm hfr
  go_enter Try.func17, Try.ntmps17
  go_wp2
  refine wp_loop_rounds 1 ?_
  rw [rounds_succ]
  go_wp2_with (go_at_call 27; refine (sortfunc_nil _ _).mono ?_; rintro e w' ⟨rfl, rfl⟩)
  go_ret
  exact ⟨rfl, HK.out⟩
theorem regions_none_S {w : World} {m : Nat} {k : KA} {F : List Nat} (h : KS w m k F) (hk : k.live = []) :
    Calls Try.prog 17 #[.pointer (some ⟨m, 0, none⟩)] w (KPostS m F w (.slice none 0 0) k) := by
  obtain ⟨c, h2, rfl, rfl⟩ := h
  have hc : c.cs = [] := by simpa [KC.abs] using hk
  exact (regions_none m c w h2 hc).mono fun e w' ⟨he, h3, h4⟩ => ⟨c.foot m, he, ⟨c, h3, rfl, rfl⟩, h4⟩
end Go.Proofs.Yteglgmdmnhkmgaa
