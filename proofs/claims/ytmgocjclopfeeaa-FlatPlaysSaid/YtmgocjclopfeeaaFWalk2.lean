/- Contracts of flat's rooms and of Lookup, Next, Free, Update on an array that a world holds; each contract's conditions are its own. -/
import Derived.Test.YtmgocjclopfeeaaFWalk
set_option linter.unusedVariables false
set_option linter.unusedSimpArgs false
namespace Go.Proofs.Ytmgocjclopfeeaa
open Go.RowKit Go.MapKept
open Go.ChangeMaps (setBlock)

/-- Where an array's values lie. -/
inductive FR where
  | gone
  | shared (a : Nat)
  | own (g cap : Nat) (l : List Nat)
def FR.val : FR → Value
  | .gone => .nilIface
  | .shared a => .iface 74 (.int .u64 a)
  | .own g cap l => .iface 66 (.slice (some ⟨g, 0, none⟩) l.length cap)
def FR.ads : FR → List Nat
  | .gone => []
  | .shared a => [a]
  | .own _ _ l => l
structure FSpec where
  kind : Int
  value : Nat
  max : Nat
/-- World w holds at block x an array over the memory at block m. -/
structure FM (w : World) (x m : Nat) (s : FSpec) (R : FR) : Prop where
  hx : w.heap[x]? = some (.cells #[.pointer (some ⟨m, 0, none⟩), .int .i64 s.kind, .int .i64 4, .int .i64 s.value, .int .i64 s.max, R.val] 73 (0, 0))
  own : ∀ g cap l, R = .own g cap l → g ≠ x ∧ l.length ≤ cap ∧ 1 ≤ l.length ∧ l.length ≤ 8 ∧ ∃ rest, w.heap[g]? = some (.cells ((l.map fun (a : Nat) => Value.int .u64 a).toArray ++ rest) 33 (0, 0))
  v1 : 1 ≤ s.value ∧ s.value ≤ 4096
  m1 : 1 ≤ s.max ∧ s.max ≤ 4096
  ad : ∀ a ∈ R.ads, a < 9223372036854775808
def FR.foot (x : Nat) : FR → List Nat
  | .own g _ _ => [x, g]
  | _ => [x]
theorem FM.frame {w w' : World} {x m : Nat} {s : FSpec} {R : FR} (h : FM w x m s R) (hf : ∀ b ∈ R.foot x, w'.heap[b]? = w.heap[b]?) : FM w' x m s R :=
  { h with
    hx := by rw [hf x (by cases R <;> simp [FR.foot])]; exact h.hx
    own := fun g cap l hR => by
      subst hR
      obtain ⟨h1, h2, h3, h4, rest, h5⟩ := h.own g cap l rfl
      exact ⟨h1, h2, h3, h4, rest, by rw [hf g (by simp [FR.foot])]; exact h5⟩ }
theorem FM.lt {w : World} {x m : Nat} {s : FSpec} {R : FR} (h : FM w x m s R) : ∀ b ∈ R.foot x, b < w.heap.size := by
  intro b hb
  cases R with
  | gone => simp [FR.foot] at hb; subst hb; exact lt_of_heap h.hx
  | shared a => simp [FR.foot] at hb; subst hb; exact lt_of_heap h.hx
  | own g cap l =>
    simp [FR.foot] at hb
    rcases hb with rfl | rfl
    · exact lt_of_heap h.hx
    · obtain ⟨_, _, _, _, rest, h5⟩ := h.own _ cap l rfl
      exact lt_of_heap h5
theorem FM.cells {w : World} {x m : Nat} {s : FSpec} {R : FR} (h : FM w x m s R) :
    w.cell? ⟨x, 0, none⟩ = some (.pointer (some ⟨m, 0, none⟩)) ∧ w.cell? ⟨x, 1, none⟩ = some (.int .i64 s.kind) ∧ w.cell? ⟨x, 2, none⟩ = some (.int .i64 4) ∧ w.cell? ⟨x, 3, none⟩ = some (.int .i64 s.value) ∧
    w.cell? ⟨x, 4, none⟩ = some (.int .i64 s.max) ∧ w.cell? ⟨x, 5, none⟩ = some R.val ∧ w.frozen? ⟨x, 5, none⟩ = false := by
  simp [World.cell?, World.frozen?, h.hx]
def FR.isB : FR → Bool
  | .gone => false
  | _ => true
theorem there_calls {w : World} {x m : Nat} {s : FSpec} {R : FR} (h : FM w x m s R) : Calls Try.prog 28 #[.pointer (some ⟨x, 0, none⟩)] w (Tells w (.bool R.isB)) := by
  obtain ⟨c0, c1, c2, c3, c4, c5, f5⟩ := h.cells
  clear h
  cases R with
  | gone =>
    simp only [FR.val, FR.isB] at c5 ⊢
    go_enter Try.func28, Try.ntmps28
    go_wp2
    go_ret
    exact ⟨rfl, rfl⟩
  | shared a =>
    simp only [FR.val, FR.isB] at c5 ⊢
    go_enter Try.func28, Try.ntmps28
    go_wp2
    go_ret
    exact ⟨rfl, rfl⟩
  | own g cap l =>
    simp only [FR.val, FR.isB] at c5 ⊢
    go_enter Try.func28, Try.ntmps28
    go_wp2
    go_ret
    exact ⟨rfl, rfl⟩

/-! ### the rooms -/
theorem sh_base (a cpu : Int) (w : World) : Calls Try.prog 91 #[.int .u64 a, .int .i64 cpu] w (Tells w (.tuple #[.int .u64 a, .bool true])) := by
  go_enter Try.func91, Try.ntmps91
  go_wp2
  go_ret2
  exact ⟨rfl, rfl⟩
theorem own_base_no (g n cap : Nat) (cpu : Int) (w : World) (h : cpu < 0 ∨ (n : Int) ≤ cpu) : Calls Try.prog 88 #[.slice (some ⟨g, 0, none⟩) n cap, .int .i64 cpu] w (Tells w (.tuple #[.int .u64 0, .bool false])) := by
  by_cases h1 : cpu < 0
  · go_enter Try.func88, Try.ntmps88
    go_wp2
    go_ret2
    exact ⟨rfl, rfl⟩
  · have h2 : (n : Int) ≤ cpu := by omega
    go_enter Try.func88, Try.ntmps88
    go_wp2
    go_ret2
    exact ⟨rfl, rfl⟩
theorem own_base_yes (g n cap : Nat) (c : Nat) (a : Nat) (w : World) (h : c < n) (hc : w.cell? ⟨g, c, none⟩ = some (.int .u64 a)) : Calls Try.prog 88 #[.slice (some ⟨g, 0, none⟩) n cap, .int .i64 c] w (Tells w (.tuple #[.int .u64 a, .bool true])) := by
  have h2 : ¬ (n : Int) ≤ c := by omega
  go_enter Try.func88, Try.ntmps88
  go_wp2
  go_ret2
  exact ⟨rfl, rfl⟩
theorem own_all (v : Value) (w : World) : Calls Try.prog 87 #[v] w (Tells w v) := by
  go_enter Try.func87, Try.ntmps87
  go_wp2
  go_ret
  exact ⟨rfl, rfl⟩
theorem sh_all (a : Int) (w : World) : Calls Try.prog 90 #[.int .u64 a] w fun e w' => e = .returned (.slice (some ⟨w.heap.size, 0, none⟩) 1 1) ∧ w' = w.alloc (.cells #[.int .u64 a] 33) := by
  go_enter Try.func90, Try.ntmps90
  go_wp2
  go_ret
  exact ⟨rfl, rfl⟩
theorem sh_each (a cpu : Int) (w : World) : Calls Try.prog 92 #[.int .u64 a, .int .i64 cpu] w fun e w' => e = .returned (.tuple #[.slice (some ⟨w.heap.size, 0, none⟩) 1 1, .bool true]) ∧ w' = w.alloc (.cells #[.int .u64 a] 33) := by
  go_enter Try.func92, Try.ntmps92
  go_wp2_with (go_at_call 90; refine (sh_all _ _).mono ?_; rintro e w' ⟨rfl, rfl⟩)
  go_ret2
  exact ⟨rfl, rfl⟩
theorem own_each_all (v : Value) (w : World) : Calls Try.prog 89 #[v, .int .i64 (-1)] w (Tells w (.tuple #[v, .bool true])) := by
  go_enter Try.func89, Try.ntmps89
  go_wp2
  go_ret2
  exact ⟨rfl, rfl⟩
theorem own_each_one (v : Value) (cpu a : Int) (b : Bool) (w : World) (h : cpu ≠ -1) (hb : Calls Try.prog 88 #[v, .int .i64 cpu] w (Tells w (.tuple #[.int .u64 a, .bool b]))) :
    Calls Try.prog 89 #[v, .int .i64 cpu] w fun e w' => e = .returned (.tuple #[.slice (some ⟨w.heap.size, 0, none⟩) 1 1, .bool b]) ∧ w' = w.alloc (.cells #[.int .u64 a] 33) := by
  have h1 : (cpu == -1) = false := by simpa using h
  have HB := hide hb
  clear hb h
  go_enter Try.func89, Try.ntmps89
  go_wp2_with (go_at_call 88; refine HB.out.mono ?_; rintro e w' ⟨rfl, rfl⟩)
  go_ret2
  exact ⟨rfl, rfl⟩
end Go.Proofs.Ytmgocjclopfeeaa
