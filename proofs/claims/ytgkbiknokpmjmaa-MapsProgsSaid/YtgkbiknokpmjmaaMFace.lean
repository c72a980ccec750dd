/- Maps' faces: over numbers of programs and over a hash table: what New makes, and the methods that awake calls; conditions: each contract's own. -/
import Derived.Test.YtgkbiknokpmjmaaHNew
import Derived.Test.YtgkbiknokpmjmaaMNil
import Derived.Test.YtgkbiknokpmjmaaOMap
import Derived.Test.YtgkbiknokpmjmaaOr4
import Derived.Laws.Rows
set_option linter.unusedVariables false
set_option linter.unusedSimpArgs false
namespace Go.Proofs.Ytgkbiknokpmjmaa
open Go.RowKit Go.MapKept Go.Maps

theorem P.und : Try.prog.underlying 68 = some (.map 3 3) := by kernel_rfl
theorem P.undInt : Try.prog.underlying 3 = some (.int .i64) := by kernel_rfl
theorem P.zero (w : World) : (zeroValue 3).run Try.prog w = .ok (.int .i64 0) w := by kernel_rfl
theorem P.ki : Keyed Try.prog 3 := int_keyed P.undInt
abbrev W64 (x : Int) : Prop := (Lit.int .i64 x).wf = true
theorem w64_iff (x : Int) : W64 x ↔ -9223372036854775808 ≤ x ∧ x ≤ 9223372036854775807 := by
  simp [W64, Lit.wf, IntKind.min, IntKind.max, IntKind.signed, IntKind.bits]
theorem P.keyi {x : Int} (h : W64 x) : keyOf Try.prog 3 (.int .i64 x) = some (.int .i64 x) := keyOf_int_mk P.undInt h
abbrev ik (x : Int) : Lit := .int .i64 x
abbrev MII (w : World) (b n : Nat) (f : Lit → Option Int) : Prop := MI Try.prog 3 3 w b n f
theorem MII.at {w : World} {b n : Nat} {f : Lit → Option Int} (h : MII w b n f) {x : Int} (hx : W64 x) :
    (Instr.lookup 68 (.map (some b)) (.int .i64 x) false).run Try.prog w = .ok (.int .i64 ((f (.int .i64 x)).getD 0)) w ∧ (Instr.lookup 68 (.map (some b)) (.int .i64 x) true).run Try.prog w = .ok (.tuple #[.int .i64 ((f (.int .i64 x)).getD 0), .bool (f (.int .i64 x)).isSome]) w ∧ W64 ((f (.int .i64 x)).getD 0) :=
  MI.look h P.ki P.und P.undInt (P.zero w) (P.keyi hx)
theorem MI.at_new {P : Program} {kt et : TypeId} {w : World} {b : Nat} (h : w.heap[b]? = some (.map #[] 0)) : MI P kt et w b 0 fun _ => none :=
  ⟨.map [], ⟨#[], 0, h, ⟨by simp, stamped_empty 0, by simp⟩, Nat.le_refl _, rfl⟩, mget_empty⟩
theorem MA.pa0 (b : Nat) (W : World) : (Instr.typeAssert (.iface 68 (.map (some b))) 20 63 true).run Try.prog W = .ok (.tuple #[.pointer none, .bool false]) W := by kernel_rfl
theorem MA.pa1 (b : Nat) (W : World) : (Instr.typeAssert (.iface 68 (.map (some b))) 20 64 true).run Try.prog W = .ok (.tuple #[.pointer none, .bool false]) W := by kernel_rfl
theorem MA.pa2 (b : Nat) (W : World) : (Instr.typeAssert (.iface 68 (.map (some b))) 20 66 true).run Try.prog W = .ok (.tuple #[.pointer none, .bool false]) W := by kernel_rfl
theorem MA.pa3 (b : Nat) (W : World) : (Instr.typeAssert (.iface 68 (.map (some b))) 20 75 true).run Try.prog W = .ok (.tuple #[.pointer none, .bool false]) W := by kernel_rfl
theorem MA.pa4 (b : Nat) (W : World) : (Instr.typeAssert (.iface 68 (.map (some b))) 20 77 true).run Try.prog W = .ok (.tuple #[.pointer none, .bool false]) W := by kernel_rfl
theorem MA.pa5 (b : Nat) (W : World) : (Instr.typeAssert (.iface 68 (.map (some b))) 20 68 true).run Try.prog W = .ok (.tuple #[.map (some b), .bool true]) W := by kernel_rfl
theorem MA.ha0 (b : Nat) (W : World) : (Instr.typeAssert (.iface 64 (.pointer (some ⟨b, 0, none⟩))) 20 63 true).run Try.prog W = .ok (.tuple #[.pointer none, .bool false]) W := by kernel_rfl
theorem MA.ha1 (b : Nat) (W : World) : (Instr.typeAssert (.iface 64 (.pointer (some ⟨b, 0, none⟩))) 20 64 true).run Try.prog W = .ok (.tuple #[.pointer (some ⟨b, 0, none⟩), .bool true]) W := by kernel_rfl
theorem MA.ha2 (b : Nat) (W : World) : (Instr.typeAssert (.iface 64 (.pointer (some ⟨b, 0, none⟩))) 20 66 true).run Try.prog W = .ok (.tuple #[.pointer none, .bool false]) W := by kernel_rfl
theorem MA.ha3 (b : Nat) (W : World) : (Instr.typeAssert (.iface 64 (.pointer (some ⟨b, 0, none⟩))) 20 75 true).run Try.prog W = .ok (.tuple #[.pointer none, .bool false]) W := by kernel_rfl
theorem MA.ha4 (b : Nat) (W : World) : (Instr.typeAssert (.iface 64 (.pointer (some ⟨b, 0, none⟩))) 20 77 true).run Try.prog W = .ok (.tuple #[.pointer none, .bool false]) W := by kernel_rfl
theorem MA.ha5 (b : Nat) (W : World) : (Instr.typeAssert (.iface 64 (.pointer (some ⟨b, 0, none⟩))) 20 68 true).run Try.prog W = .ok (.tuple #[.map none, .bool false]) W := by kernel_rfl
def faceO (kd key v mx : Int) (i : Value) (fr : Bool) : Obj := .cells #[.int .i64 kd, .int .i64 key, .int .i64 v, .int .i64 mx, i, .bool fr] 61 (0, 0)
theorem face_cells {w : World} {x : Nat} {kd key v mx : Int} {i : Value} {fr : Bool} (h : w.heap[x]? = some (faceO kd key v mx i fr)) : w.cell? ⟨x, 0, none⟩ = some (.int .i64 kd) ∧ w.cell? ⟨x, 1, none⟩ = some (.int .i64 key) ∧ w.cell? ⟨x, 2, none⟩ = some (.int .i64 v) ∧ w.cell? ⟨x, 3, none⟩ = some (.int .i64 mx) ∧ w.cell? ⟨x, 4, none⟩ = some i ∧ w.cell? ⟨x, 5, none⟩ = some (.bool fr) := by
  unfold faceO at h
  simp [World.cell?, h]
set_option maxRecDepth 100000 in
theorem min_calls {w : World} {x : Nat} {kd key v mx : Int} {i : Value} {fr : Bool} (h : w.heap[x]? = some (faceO kd key v mx i fr)) (hi : (∃ b, i = .iface 68 (.map (some b))) ∨ ∃ b, i = .iface 64 (.pointer (some ⟨b, 0, none⟩))) :
    Calls Try.prog 24 #[.pointer (some ⟨x, 0, none⟩)] w (MTells w i) := by
  obtain ⟨c0, c1, c2, c3, c4, c5⟩ := face_cells h
  clear h
  rcases hi with ⟨b, rfl⟩ | ⟨b, rfl⟩
  all_goals
    go_enter Try.func24, Try.ntmps24
    go_wp2
    go_ret
    exact ⟨rfl, rfl⟩
set_option maxRecDepth 100000 in
theorem mspec_calls {w : World} {x : Nat} {kd key v mx : Int} {i : Value} {fr : Bool} (h : w.heap[x]? = some (faceO kd key v mx i fr)) :
    Calls Try.prog 22 #[.pointer (some ⟨x, 0, none⟩)] w fun e w' => e = .returned (.agg #[.int .i64 kd, .int .i64 key, .int .i64 v, .int .i64 mx]) ∧ Fr [] [] w w' := by
  obtain ⟨c0, c1, c2, c3, c4, c5⟩ := face_cells h
  obtain ⟨d0, d1, d2, d3, d4, d5⟩ := face_cells (heap_alloc_some (o := .cells #[.int .i64 0, .int .i64 0, .int .i64 0, .int .i64 0] 30) h)
  clear h
  go_enter Try.func22, Try.ntmps22
  go_wp2
  exact bodyPost_ret (results_cell_row rfl _ _ w.heap.size _ _ _ _ rfl (heap_alloc_new _ _) Try.underlying30 rfl (by kernel_rfl)) rfl ⟨rfl, (Fr.refl [] w).alloc _⟩
set_option maxRecDepth 100000 in
theorem mspec_nil (w : World) : Calls Try.prog 22 #[.pointer none] w fun e w' => e = .returned (.agg #[.int .i64 0, .int .i64 0, .int .i64 0, .int .i64 0]) ∧ Fr [] [] w w' := by
  go_enter Try.func22, Try.ntmps22
  go_wp2
  exact bodyPost_ret (results_cell_row rfl _ _ w.heap.size _ _ _ _ rfl (heap_alloc_new _ _) Try.underlying30 rfl (by kernel_rfl)) rfl ⟨rfl, (Fr.refl [] w).alloc _⟩
end Go.Proofs.Ytgkbiknokpmjmaa
