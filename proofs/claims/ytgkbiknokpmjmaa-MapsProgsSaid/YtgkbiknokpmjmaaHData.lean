/- The hash table's plain data and what a world holds of it. -/
import Derived.Test.YtgkbiknokpmjmaaFrame
set_option linter.unusedVariables false
set_option linter.unusedSimpArgs false
namespace Go.Proofs.Ytgkbiknokpmjmaa
open Go.RowKit Go.MapKept
open Go.ChangeMaps (setBlock)

structure HSpec where
  kind : Nat
  key : Nat
  value : Nat
  max : Nat
/-- An entry: its key, its value's address, when it was used. -/
structure HE where
  key : ByteArray
  at_ : Nat
  used : Nat
structure HC where
  b : Nat
  born : Nat
  e : HE
structure HT where
  lb : Nat
  clk : Nat
  clock : Nat
  es : List HC
def HC.entry (r : HC) : MapEntry := { key := .string r.e.key, val := .pointer (some ⟨r.b, 0, none⟩), born := r.born }
def HC.cells (r : HC) : Obj := .cells #[.int .u64 r.e.at_, .int .i64 r.e.used] 109 (0, 0)
def HT.foot (x : Nat) (t : HT) : List Nat := x :: t.lb :: t.es.map (·.b)
def HT.entries (t : HT) : Array MapEntry := (t.es.map HC.entry).toArray
structure HM (w : World) (x m : Nat) (s : HSpec) (t : HT) : Prop where
  hx : w.heap[x]? = some (.cells #[.pointer (some ⟨m, 0, none⟩), .int .i64 s.kind, .int .i64 s.key, .int .i64 s.value, .int .i64 s.max, .map (some t.lb), .int .i64 t.clock] 102 (0, 0))
  hl : w.heap[t.lb]? = some (.map t.entries t.clk)
  he : ∀ r ∈ t.es, w.heap[r.b]? = some r.cells
  nd : (t.foot x).Nodup
  kn : (t.es.map (·.e.key)).Nodup
  bn : (t.es.map (·.born)).Nodup
  bc : ∀ r ∈ t.es, r.born < t.clk
  ab : ∀ r ∈ t.es, r.e.at_ < 18446744073709551616
theorem HT.mem_x (x : Nat) (t : HT) : x ∈ t.foot x := by simp [HT.foot]
theorem HT.mem_l (x : Nat) (t : HT) : t.lb ∈ t.foot x := by simp [HT.foot]
theorem HT.mem_b (x : Nat) {t : HT} {r : HC} (h : r ∈ t.es) : r.b ∈ t.foot x := by
  simp only [HT.foot, List.mem_cons, List.mem_map]; exact .inr (.inr ⟨r, h, rfl⟩)
theorem HM.lt {w : World} {x m : Nat} {s : HSpec} {t : HT} (h : HM w x m s t) : ∀ k ∈ t.foot x, k < w.heap.size := by
  intro k hk
  simp only [HT.foot, List.mem_cons, List.mem_map] at hk
  rcases hk with rfl | rfl | ⟨r, hr, rfl⟩
  · exact lt_of_heap h.hx
  · exact lt_of_heap h.hl
  · exact lt_of_heap (h.he r hr)
theorem HM.frame {w w' : World} {x m : Nat} {s : HSpec} {t : HT} (h : HM w x m s t) (hf : ∀ k ∈ t.foot x, w'.heap[k]? = w.heap[k]?) : HM w' x m s t :=
  { h with
    hx := by rw [hf _ (HT.mem_x x t)]; exact h.hx
    hl := by rw [hf _ (HT.mem_l x t)]; exact h.hl
    he := fun r hr => by rw [hf _ (HT.mem_b x hr)]; exact h.he r hr }
theorem HM.fr {w w' : World} {x m : Nat} {s : HSpec} {t : HT} {F F' : List Nat} (h : HM w x m s t) (hf : Fr F F' w w') (hd : ∀ b ∈ t.foot x, b ∉ F) : HM w' x m s t :=
  h.frame fun b hb => hf.block b (h.lt b hb) (hd b hb)
theorem HM.same {w w' : World} {x m : Nat} {s : HSpec} {t : HT} (h : HM w x m s t) (g : Same w w') : HM w' x m s t := h.frame fun b _ => by rw [g.heap]
theorem HM.keys {w : World} {x m : Nat} {s : HSpec} {t : HT} (h : HM w x m s t) : Keys .string t.entries := by
  refine ⟨fun e he => ?_, ?_⟩
  · simp only [HT.entries, List.mem_map] at he
    obtain ⟨r, _, rfl⟩ := he
    exact trivial
  · simp only [HT.entries, List.pairwise_map]
    have := h.kn
    simp only [List.Nodup, List.pairwise_map] at this
    exact this.imp fun hne e => hne (by simpa [HC.entry] using e)
theorem HM.cells {w : World} {x m : Nat} {s : HSpec} {t : HT} (h : HM w x m s t) :
    w.cell? ⟨x, 0, none⟩ = some (.pointer (some ⟨m, 0, none⟩)) ∧ w.cell? ⟨x, 1, none⟩ = some (.int .i64 s.kind) ∧ w.cell? ⟨x, 2, none⟩ = some (.int .i64 s.key) ∧ w.cell? ⟨x, 3, none⟩ = some (.int .i64 s.value) ∧ w.cell? ⟨x, 4, none⟩ = some (.int .i64 s.max) ∧ w.cell? ⟨x, 5, none⟩ = some (.map (some t.lb)) ∧ w.cell? ⟨x, 6, none⟩ = some (.int .i64 t.clock) ∧ w.frozen? ⟨x, 6, none⟩ = false := by
  simp [World.cell?, World.frozen?, h.hx]
theorem HM.reads {w : World} {x m : Nat} {s : HSpec} {t : HT} (h : HM w x m s t) {r : HC} (hr : r ∈ t.es) :
    w.cell? ⟨r.b, 0, none⟩ = some (.int .u64 r.e.at_) ∧ w.cell? ⟨r.b, 1, none⟩ = some (.int .i64 r.e.used) ∧ w.frozen? ⟨r.b, 1, none⟩ = false := by
  simp [World.cell?, World.frozen?, h.he r hr, HC.cells]
theorem HM.ne {w : World} {x m : Nat} {s : HSpec} {t : HT} (h : HM w x m s t) : x ≠ t.lb ∧ (∀ r ∈ t.es, r.b ≠ x ∧ r.b ≠ t.lb) ∧ (t.es.map (·.b)).Nodup := by
  have := h.nd
  simp only [HT.foot, List.nodup_cons, List.mem_cons, List.mem_map, not_or, not_exists, not_and] at this
  obtain ⟨⟨h1, h2⟩, h3, h4⟩ := this
  exact ⟨h1, fun r hr => ⟨fun e => h2 r hr e, fun e => h3 r hr e⟩, h4⟩
theorem hentries_at {t : HT} {j : Nat} {r : HC} (h : t.es[j]? = some r) : t.entries.toList[j]? = some r.entry := by
  simp [HT.entries, h]
theorem HK.und : Try.prog.underlying 100 = some (.map 9 103) := by kernel_rfl
theorem HK.undStr : Try.prog.underlying 9 = some .string := by kernel_rfl
theorem HK.zero (w : World) : (zeroValue 103).run Try.prog w = .ok (.pointer none) w := by
  kernel_rfl
section
variable {w : World} {x m : Nat} {s : HSpec} {t : HT}
theorem HM.find_hit (h : HM w x m s t) {j : Nat} {r : HC} (hj : t.es[j]? = some r) : (Instr.lookup 100 (.map (some t.lb)) (.string r.e.key) true).run Try.prog w = .ok (.tuple #[.pointer (some ⟨r.b, 0, none⟩), .bool true]) w :=
  run_lookup_hit_ok (k := .string _) HK.und HK.undStr trivial h.keys h.hl (hentries_at hj) rfl
theorem HM.find_hit1 (h : HM w x m s t) {j : Nat} {r : HC} (hj : t.es[j]? = some r) : (Instr.lookup 100 (.map (some t.lb)) (.string r.e.key) false).run Try.prog w = .ok (.pointer (some ⟨r.b, 0, none⟩)) w :=
  run_lookup_hit (k := .string _) HK.und HK.undStr trivial h.keys h.hl (hentries_at hj) rfl
theorem HM.nokey {k : ByteArray} (h : ∀ r ∈ t.es, r.e.key ≠ k) : ∀ e ∈ t.entries.toList, e.key ≠ .string k := by
  intro e he
  simp only [HT.entries, List.mem_map] at he
  obtain ⟨r, hr, rfl⟩ := he
  intro e2
  exact h r hr (by simpa [HC.entry] using e2)
theorem HM.find_miss (h : HM w x m s t) {k : ByteArray} (hno : ∀ r ∈ t.es, r.e.key ≠ k) : (Instr.lookup 100 (.map (some t.lb)) (.string k) true).run Try.prog w = .ok (.tuple #[.pointer none, .bool false]) w :=
  run_lookup_miss_ok (k := .string _) HK.und HK.undStr trivial h.keys h.hl (HK.zero w) (HM.nokey hno)
end
end Go.Proofs.Ytgkbiknokpmjmaa
