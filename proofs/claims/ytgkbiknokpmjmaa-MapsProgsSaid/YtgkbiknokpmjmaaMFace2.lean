/- Maps' faces: New, Check, and a face over numbers of programs: Update, Prog; conditions: each contract's own. -/
import Derived.Test.YtgkbiknokpmjmaaMFace
import Derived.Deep.RegionWith
import Derived.Deep.RegionHeld3
set_option linter.unusedVariables false
set_option linter.unusedSimpArgs false
namespace Go.Proofs.Ytgkbiknokpmjmaa
open Go.RowKit Go.MapKept Go.Maps

set_option maxRecDepth 100000 in
theorem open_none (m : Nat) (w : World) : Calls Try.prog 23 #[.pointer (some ⟨m, 0, none⟩), .agg #[.int .i64 0, .int .i64 0, .int .i64 0, .int .i64 0], .int .i64 1] w fun e w' => e = .returned (.tuple #[.nilIface, .int .i64 1]) ∧ Fr [] [] w w' := by
  go_enter Try.func23, Try.ntmps23
  go_wp2
  go_ret2
  exact ⟨rfl, (Fr.refl [] w).alloc _⟩
set_option maxRecDepth 100000 in
theorem mcheck_none (w : World) : Calls Try.prog 35 #[.agg #[.int .i64 0, .int .i64 0, .int .i64 0, .int .i64 0]] w fun e w' => e = .returned (.int .i64 1) ∧ Fr [] [] w w' := by
  have HN := hide (fun W => new_S W)
  have HO := hide (fun m W => open_none m W)
  have HD := hide (heap_alloc_new w (.cells #[.int .i64 0, .int .i64 0, .int .i64 0, .int .i64 0] 30))
  have hbox : ∀ W : World, W.heap[w.heap.size]? = some (.cells #[.int .i64 0, .int .i64 0, .int .i64 0, .int .i64 0] 30 (0, 0)) → W.cell? ⟨w.heap.size, 0, none⟩ = some (.int .i64 0) ∧ W.cell? ⟨w.heap.size, 1, none⟩ = some (.int .i64 0) ∧ W.cell? ⟨w.heap.size, 2, none⟩ = some (.int .i64 0) ∧ W.cell? ⟨w.heap.size, 3, none⟩ = some (.int .i64 0) := fun W h => by simp [World.cell?, h]
  have HBX := hide hbox
  obtain ⟨d0, d1, d2, d3⟩ := hbox _ HD.out
  clear hbox
  go_enter Try.func35, Try.ntmps35
  go_wp2_with fail
  go_region_held3 (fun W => W.cell? ⟨w.heap.size, 0, none⟩ = some (.int .i64 0) ∧ W.cell? ⟨w.heap.size, 1, none⟩ = some (.int .i64 0) ∧ W.cell? ⟨w.heap.size, 2, none⟩ = some (.int .i64 0) ∧ W.cell? ⟨w.heap.size, 3, none⟩ = some (.int .i64 0)) (first | exact ⟨d0, d1, d2, d3⟩ | exact ⟨c0, c1, c2, c3⟩ | exact ⟨b0, b1, b2, b3⟩) (first
    | (go_at_call 5; refine (HN.out _).mono ?_; rintro e1 W1 ⟨m, F, rfl, h1, f1⟩; have f1' : Fr [] F (w.alloc (.cells #[.int .i64 0, .int .i64 0, .int .i64 0, .int .i64 0] 30)) W1 := ⟨f1.os, f1.tape, f1.output, f1.size, f1.block, f1.foot⟩; have HF1 := hide f1'; have ⟨c0, c1, c2, c3⟩ := HBX.out W1 (f1'.keep HD.out (by simp)); clear h1 f1 f1')
    | (go_at_call 23; refine (HO.out _ _).mono ?_; rintro e2 W2 ⟨rfl, f2⟩; have f2' : Fr [] [] W1 W2 := ⟨f2.os, f2.tape, f2.output, f2.size, f2.block, f2.foot⟩; have HE : Hid (Fr [] [] w W2) := hide ((((Fr.refl [] w).alloc (.cells #[.int .i64 0, .int .i64 0, .int .i64 0, .int .i64 0] 30)).trans (⟨HF1.out.os, HF1.out.tape, HF1.out.output, HF1.out.size, HF1.out.block, fun k hk => by simp at hk⟩ : Fr [] [] _ W1)).trans f2'); have ⟨b0, b1, b2, b3⟩ := HBX.out W2 (f2'.keep (HF1.out.keep HD.out (by simp)) (by simp)); clear f2 f2'))
  all_goals
    go_wp2
    go_ret
    exact ⟨rfl, HE.out⟩
set_option maxRecDepth 100000 in
theorem number_calls (s : ByteArray) (hs : s.size = 4) (w : World) : Calls Try.prog 28 #[.string s] w fun e w' => e = .returned (.int .i64 (leNum (nats s))) ∧ Same w w' := by
  go_enter Try.func28, Try.ntmps28
  go_wp2
  go_region
  go_wp2
  go_ret
  refine ⟨?_, rfl, rfl, rfl, rfl⟩
  rw [leNum4 _ (by rw [length_nats, hs]), getD_nats s 0 (by omega), getD_nats s 1 (by omega), getD_nats s 2 (by omega), getD_nats s 3 (by omega), ← or4 _ _ _ _ s[0].toNat_lt s[1].toNat_lt s[2].toNat_lt s[3].toNat_lt]
  rfl
/-- World w holds at block x a face over the programs' numbers f, in the blocks x and b. -/
structure PM (w : World) (x b n : Nat) (mx : Nat) (fr : Bool) (f : Lit → Option Int) : Prop where
  hx : w.heap[x]? = some (faceO 3 4 4 mx (.iface 68 (.map (some b))) fr)
  mi : MII w b n f
  ne : x ≠ b
theorem PM.lt {w : World} {x b n mx : Nat} {fr : Bool} {f : Lit → Option Int} (h : PM w x b n mx fr f) : x < w.heap.size ∧ b < w.heap.size := ⟨lt_of_heap h.hx, h.mi.lt⟩
theorem PM.frame {w w' : World} {x b n mx : Nat} {fr : Bool} {f : Lit → Option Int} (h : PM w x b n mx fr f) (hx : w'.heap[x]? = w.heap[x]?) (hb : w'.heap[b]? = w.heap[b]?) : PM w' x b n mx fr f :=
  ⟨hx.trans h.hx, h.mi.frame hb, h.ne⟩
theorem PM.fr {w w' : World} {x b n mx : Nat} {fr : Bool} {f : Lit → Option Int} {F F' : List Nat} (h : PM w x b n mx fr f) (hf : Fr F F' w w') (h1 : x ∉ F) (h2 : b ∉ F) : PM w' x b n mx fr f :=
  h.frame (hf.block x h.lt.1 h1) (hf.block b h.lt.2 h2)
theorem PM.same {w w' : World} {x b n mx : Nat} {fr : Bool} {f : Lit → Option Int} (h : PM w x b n mx fr f) (hs : Same w w') : PM w' x b n mx fr f := h.frame (by rw [hs.heap]) (by rw [hs.heap])
set_option maxRecDepth 100000 in
theorem open_progs (m mx : Nat) (h1 : 1 ≤ mx) (h2 : mx ≤ 4096) (w : World) : Calls Try.prog 23 #[.pointer (some ⟨m, 0, none⟩), .agg #[.int .i64 3, .int .i64 4, .int .i64 4, .int .i64 mx], .int .i64 1] w fun e w' => e = .returned (.tuple #[.iface 68 (.map (some (w.heap.size + 1))), .int .i64 0]) ∧ w'.heap[w.heap.size + 1]? = some (.map #[] 0) ∧ Fr [] [] w w' := by
  have hmm := @run_makeMap Try.prog
  have i1 : (1 : Int) ≤ mx := by omega
  have i2 : (mx : Int) ≤ 4096 := by omega
  have HD := hide (heap_alloc_new (w.alloc (.cells #[.int .i64 3, .int .i64 4, .int .i64 4, .int .i64 mx] 30)) (.map #[] 0))
  rw [World.size_alloc] at HD
  go_enter Try.func23, Try.ntmps23
  go_wp2
  go_ret2
  exact ⟨rfl, HD.out, ((Fr.refl [] w).alloc _).alloc _⟩
set_option maxRecDepth 100000 in
theorem mnew_progs (m mx : Nat) (h1 : 1 ≤ mx) (h2 : mx ≤ 4096) (w : World) : Calls Try.prog 6 #[.pointer (some ⟨m, 0, none⟩), .agg #[.int .i64 3, .int .i64 4, .int .i64 4, .int .i64 mx], .int .i64 1] w fun e w' => ∃ x b, e = .returned (.tuple #[.pointer (some ⟨x, 0, none⟩), .int .i64 0]) ∧ PM w' x b 0 mx false (fun _ => none) ∧ w.heap.size ≤ x ∧ w.heap.size ≤ b ∧ Fr [] [] w w' := by
  have HO := hide (fun W => open_progs m mx h1 h2 W)
  have hf0 := (Fr.refl [] w).alloc (.cells #[.int .i64 3, .int .i64 4, .int .i64 4, .int .i64 mx] 30)
  have HF0 := hide hf0
  have hd := heap_alloc_new w (.cells #[.int .i64 3, .int .i64 4, .int .i64 4, .int .i64 mx] 30)
  have HD := hide hd
  clear hf0 hd
  go_enter Try.func6, Try.ntmps6
  go_wp2_with fail
  refine (HO.out _).mono ?_
  rintro e w1 ⟨rfl, q1, f1⟩
  have hd1 := f1.keep HD.out (by simp)
  have b0 : w1.cell? ⟨w.heap.size, 0, none⟩ = some (.int .i64 3) := by simp [World.cell?, hd1]
  have b1 : w1.cell? ⟨w.heap.size, 1, none⟩ = some (.int .i64 4) := by simp [World.cell?, hd1]
  have b2 : w1.cell? ⟨w.heap.size, 2, none⟩ = some (.int .i64 4) := by simp [World.cell?, hd1]
  have b3 : w1.cell? ⟨w.heap.size, 3, none⟩ = some (.int .i64 mx) := by simp [World.cell?, hd1]
  rw [World.size_alloc] at q1 ⊢
  have hq := lt_of_heap q1
  have HE : Hid (PM (w1.alloc (faceO 3 4 4 mx (.iface 68 (.map (some (w.heap.size + 1 + 1)))) false)) w1.heap.size (w.heap.size + 1 + 1) 0 mx false (fun _ => none) ∧ w.heap.size ≤ w1.heap.size ∧ Fr [] [] w (w1.alloc (faceO 3 4 4 mx (.iface 68 (.map (some (w.heap.size + 1 + 1)))) false))) :=
    hide ⟨⟨heap_alloc_new _ _, MI.at_new (heap_alloc_some q1), by omega⟩, by omega, (HF0.out.trans f1).alloc _⟩
  clear hd1 q1 f1
  go_wp2
  go_ret2
  exact ⟨_, _, rfl, HE.out.1, HE.out.2.1, by omega, HE.out.2.2⟩
end Go.Proofs.Ytgkbiknokpmjmaa
