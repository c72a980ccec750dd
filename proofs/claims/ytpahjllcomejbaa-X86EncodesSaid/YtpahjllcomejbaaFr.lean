/- Several texts of this claim in one: each is told where it begins. -/
import Derived.JoinedOf
import Derived.Deep.Slices
import Derived.Deep.Fields
import Derived.ChangeSame
import Derived.ProofKit
import Derived.OpenShut
import Derived.SizedLaws
import Derived.ChangeSlices
import Derived.WalkKit
import Derived.Maps.RangeRun
import Derived.MapKept
import Derived.Below
import Derived.Maps.AppendAt
import Derived.OwnWalk
import Derived.BigQuiet
/- A row's closed facts, told one by one, are together the row's closed fact; no condition. -/
namespace Go.Proofs.Ytpahjllcomejbaa
theorem facts_of {P : Program} {f : FuncId} {fn : Func} {s : ChangeSpec} {c : OpenClaim}
    (k1 : c.wf (OpenSpec.ofChange s) = true) (k2 : laidOutB P = true) (k3 : mapsRowed P = true) (k4 : fn.params.all (P.readableRec ·) = true) (k5 : namedTie P c.named s.vars = true)
    (k6 : (c.stops == []) = true) (k7 : (P.stops == []) = true) (k8 : (c.knobs == []) = true) (k9 : (P.stopKnobs == []) = true)
    (k10 : (c.inPlace == P.inPlace f) = true) (k11 : (c.unfollowed == P.unfollowed f) = true) (k12 : (c.recurses == P.recurses f) = true) (k13 : (c.named == P.varsNamed f) = true)
    (k14 : (c.maps == (fn.params.toList ++ s.plain.varTypes P).any (P.mapsRec ·)) = true) (k15 : (c.ifaces == (fn.params.toList ++ s.plain.varTypes P).any (P.ifacesRec ·)) = true) (k16 : (c.mapsOut == P.mapsAmong fn.resultTypes.toList) = true)
    (k17 : (c.loops == (fn.params.toList ++ s.plain.varTypes P).any (P.loopsFrom ·)) = true) (k18 : (c.wideKeys == (fn.params.toList ++ s.plain.varTypes P ++ fn.resultTypes.toList).any (P.wideKeysFrom ·)) = true)
    (k19 : s.vars.all (P.varReadable ·) = true) (k20 : fn.resultTypes.all (fun t => P.readableRec t && decide (t < P.types.size)) = true) (k21 : (c.ifacesOut == fn.resultTypes.toList.any (P.ifacesRec ·)) = true) (k22 : (c.loopsOut == fn.resultTypes.toList.any (P.loopsFrom ·)) = true)
    (k23 : (c.plainKeys == P.plainKeys) = true) (k24 : c.shortTexts.isNone = true) (k25 : P.stopsHeard = true) (k26 : P.mayEnter = true) (k27 : (c.lifted == P.liftsFinal) = true) (k28 : (P.make == some c.make) = true)
    (k29 : (c.kinds == (if c.domain.isEmpty then [] else fn.params.toList.map fun t => match P.underlying t with | some (.int k) => some k | _ => none)) = true) (k30 : (c.pinned == c.pinnedBy) = true)
    (k31 : (c.veiled == (fn.params.toList ++ s.plain.varTypes P ++ fn.resultTypes.toList).any (P.veiledRec ·)) = true) (k32 : c.veiledFits P fn.params.toList (fn.params.toList ++ s.plain.varTypes P ++ fn.resultTypes.toList) = true) :
    joinedFacts P f fn s c = true := by
  simp only [joinedFacts, Bool.and_eq_true]
  exact ⟨⟨⟨⟨⟨⟨⟨⟨⟨⟨⟨⟨⟨⟨⟨⟨⟨⟨⟨⟨⟨⟨⟨⟨⟨⟨⟨⟨⟨⟨⟨k1, k2⟩, k3⟩, k4⟩, k5⟩, k6⟩, k7⟩, k8⟩, k9⟩, k10⟩, k11⟩, k12⟩, k13⟩, k14⟩, k15⟩, k16⟩, k17⟩, k18⟩, k19⟩, k20⟩, k21⟩, k22⟩, k23⟩, k24⟩, k25⟩, k26⟩, k27⟩, k28⟩, k29⟩, k30⟩, k31⟩, k32⟩
end Go.Proofs.Ytpahjllcomejbaa

/- What a law's walk is told of its arguments: numbers, strings, slices of numbers, structs of plain fields, slices of these; no condition. -/
set_option linter.unusedVariables false
set_option linter.unusedSimpArgs false
namespace Go.Proofs.Ytpahjllcomejbaa
open Go.ChangeShapes Go.WideShapes Go.ChangeAt Go.RowKit Go.Deep

/-- A plain field's kind. -/
inductive FK where
  | int (k : IntKind)
  | str
  | bool
def FK.fits : FK → Value → Prop
  | .int k, v => ∃ n, v = .int k n ∧ (Lit.int k n).wf = true
  | .str, v => ∃ s : ByteArray, v = .string s ∧ s.size ≤ maxLen
  | .bool, v => ∃ b, v = .bool b
def FK.desc : FK → TypeDesc → Prop
  | .int k, d => d = .int k
  | .str, d => d = .string
  | .bool, d => d = .bool
section
variable {H : Type} {enc : TypeId × Value → H} {P : Program} {w : World} {base : Nat} {spare : Nat → Bool} {held : Bool}
theorem FK.of_trod {k : FK} {t : TypeId} {d : TypeDesc} (ht : P.underlying t = some d) (hd : k.desc d) {n : Nat} {v : Value} {y : DataW H × List MemPlace} (h : DataW.trod enc P w base spare held n t [v] = some y) : k.fits v := by
  cases k with
  | int k =>
    obtain ⟨a, ha, -, hw⟩ := DataW.trod_int (by rw [ht]; exact congrArg some hd) h
    exact ⟨a, by simpa using ha, hw⟩
  | str =>
    obtain ⟨a, ha, -, hw⟩ := DataW.trod_string (by rw [ht]; exact congrArg some hd) h
    exact ⟨a, by simpa using ha, hw⟩
  | bool =>
    obtain ⟨a, ha, -⟩ := DataW.trod_bool (by rw [ht]; exact congrArg some hd) h
    exact ⟨a, by simpa using ha⟩
theorem one_cell {fs : Array Field} (hone : oneCellFields P fs = true) {cs : List Value} {n : Nat} {ys : List (DataW H × List MemPlace)} (hcl : cs.length = fs.size) (hyl : ys.length = fs.size)
    (hf : ∀ (i : Nat) (f : Field), fs[i]? = some f → DataW.trod enc P w base spare held n f.type ((cs.drop f.offset).take (P.cellsOf f.type)) = ys[i]?) (j : Nat) (f : Field) (hj : fs[j]? = some f) :
    ∃ c y, cs[j]? = some c ∧ DataW.trod enc P w base spare held n f.type [c] = some y := by
  obtain ⟨ho, hk⟩ := hone_of hone j f hj
  have hlt : j < fs.size := (Array.getElem?_eq_some_iff.1 hj).1
  have h1 := hf j f hj
  rw [ho, hk, List.drop_eq_getElem_cons (by omega)] at h1
  refine ⟨cs[j]'(by omega), ys[j]'(by omega), List.getElem?_eq_getElem (by omega), ?_⟩
  rw [← List.getElem?_eq_getElem (by omega), ← h1]
  rfl
/-- A slice of structs of plain fields that came in. -/
def RowF (w : World) (a : Option Addr) (len cap : Nat) (ks : List FK) : Prop :=
  len = 0 ∨
  ∃ b o, a = some ⟨b, o, none⟩ ∧ len ≤ cap ∧ cap ≤ maxLen ∧ ∀ i, i < len → ∀ (j : Nat) (k : FK), ks[j]? = some k → ∃ v, w.cell? ⟨b, o + (i * ks.length + j), none⟩ = some v ∧ k.fits v
theorem addr_add (b o n : Nat) : (⟨b, o, none⟩ : Addr).add n = ⟨b, o + n, none⟩ := by unfold Addr.add; split <;> simp_all
theorem open_structs {t e : TypeId} {fs : Array Field} {a : Option Addr} {len cap : Nat} {d : DataW H} {p : List MemPlace} (ht : P.underlying t = some (.slice e)) (he : P.underlying e = some (.struct fs))
    (hone : oneCellFields P fs = true) (hC : P.cellsOf e = fs.size) (h : DataW.Trod enc P w base spare held t (.slice a len cap) d p) (ks : List FK) (hlen : ks.length = fs.size) (hpos : 0 < ks.length)
    (hks : ∀ (j : Nat) (f : Field) (k : FK), fs[j]? = some f → ks[j]? = some k → ∃ d, P.underlying f.type = some d ∧ k.desc d) : RowF w a len cap ks := by
  obtain ⟨fuel, hf⟩ := h
  rcases open_slice ht hf with ⟨h0, _⟩ | ⟨x, l, c, m, n, D, Pl, hcs, hb, hl, hm, hmm, hx, hi⟩
  · simp [Value.cells] at h0
    exact .inl h0.2.1
  · simp [Value.cells] at hcs
    obtain ⟨rfl, rfl, rfl⟩ := hcs
    have hml : len ≤ m := by rw [hmm]; split <;> omega
    by_cases hz : len = 0
    · exact .inl hz
    · right
      have cellAt : ∀ i, i < len → ∀ (j : Nat) (k : FK), ks[j]? = some k → ∃ v, w.cell? ((x.add (i * P.cellsOf e)).add j) = some v ∧ k.fits v := by
        intro i hi' j k hk
        obtain ⟨cs', hc, ht'⟩ := hi i (by omega)
        obtain ⟨ys, n', _, _, _, hyl, hg⟩ := DataW.trod_struct he ht'
        obtain ⟨_, hcl, hat⟩ := World.cells?_some hc
        have hjl : j < fs.size := by
          have := (List.getElem?_eq_some_iff.1 hk).1
          omega
        have hjf : fs[j]? = some (fs[j]'hjl) := Array.getElem?_eq_getElem hjl
        obtain ⟨c, y, hcc, hy⟩ := one_cell hone (by rw [hcl, hC]) hyl hg j _ hjf
        obtain ⟨dd, h1, h2⟩ := hks j _ k hjf hk
        exact ⟨c, by rw [hat j (by omega)]; exact hcc, FK.of_trod h1 h2 hy⟩
      obtain ⟨b, o, sp⟩ := x
      have hsp : sp = none := by
        obtain ⟨v, hv, _⟩ := cellAt 0 (by omega) 0 (ks[0]'hpos) (List.getElem?_eq_getElem hpos)
        simpa [Addr.add] using World.cell?_spot hv
      subst hsp
      refine ⟨b, o, rfl, hl, hm, fun i hi' j k hk => ?_⟩
      obtain ⟨v, hv, hf⟩ := cellAt i hi' j k hk
      refine ⟨v, ?_, hf⟩
      rw [addr_add, addr_add, hC, ← hlen, Nat.add_assoc] at hv
      exact hv
end
end Go.Proofs.Ytpahjllcomejbaa

/- A slice of structs that came in is no longer than its weight allows; no condition. -/
set_option linter.unusedVariables false
namespace Go.Proofs.Ytpahjllcomejbaa
open Go.ChangeShapes Go.WideShapes Go.ChangeAt Go.RowKit Go.Deep
theorem sized_row {H : Type} {enc : TypeId × Value → H} {P : Program} {W : World} {base : Nat} {spare : Nat → Bool} {held : Bool} {t e : TypeId} {a : Option Addr} {len cap : Nat} {d : DataW H} {ps : List MemPlace} {ts : List TypeId} {ds : List (DataW H)} {j : Nat}
    (hsz : (DataW.weightsEach P ts ds).all (· ≤ reachBytes) = true) (ht : ts[j]? = some t) (hd : ds[j]? = some d) (hu : P.underlying t = some (.slice e)) {B : Nat} (hB : P.bytesOf e = B)
    (h : DataW.Trod enc P W base spare held t (.slice a len cap) d ps) : len * B ≤ 140737488351232 := by
  obtain ⟨fuel, hf⟩ := h
  rcases open_slice hu hf with ⟨hcs, _⟩ | ⟨x, l, c, m, n, D, Pl, hcs, hb, hl, hm, hmm, hx, hi⟩
  · simp [Value.cells] at hcs
    obtain ⟨rfl, rfl, rfl⟩ := hcs
    simp
  · simp [Value.cells] at hcs
    obtain ⟨rfl, rfl, rfl⟩ := hcs
    obtain ⟨hx, _⟩ := Prod.mk.inj hx
    subst hx
    have z := sized_slice hsz ht hd hu
    rw [hB] at z
    simp only [List.length_map, List.length_range] at z
    have hlm : len ≤ len + (m - len) := by omega
    exact Nat.le_trans (Nat.mul_le_mul_right _ hlm) z
theorem RowF.block {w : World} {a : Option Addr} {len cap : Nat} {ks : List FK} (h : RowF w a len cap ks) (hpos : 0 < ks.length) (h0 : 0 < len) : ∃ b o, a = some ⟨b, o, none⟩ ∧ b < w.heap.size := by
  rcases h with h | ⟨b, o, rfl, h1, h2, h3⟩
  · omega
  · obtain ⟨v, hv, _⟩ := h3 0 h0 0 ks[0] (List.getElem?_eq_getElem hpos)
    exact ⟨b, o, rfl, World.block_lt_of_cell? _ _ hv⟩
end Go.Proofs.Ytpahjllcomejbaa

/- Raw laws on a map's block: look-up, store, delete and len, told by the entries themselves; conditions: keys of one plain kind (bool, integer, string), no key twice. And laws on which block a world holds behind a new block, a store, a draw. -/
set_option linter.unusedVariables false
set_option linter.unusedSimpArgs false
namespace Go.Proofs.Ytpahjllcomejbaa
open Go.RowKit Go.MapKept
open Go.ChangeMaps (setBlock)

/-- A fact kept from the walk. -/
theorem hide {p : Prop} (h : p) : Hid p := h

/-! blocks of a world -/
theorem heap_alloc_some {w : World} {o x : Obj} {b : Nat} (h : w.heap[b]? = some x) : (w.alloc o).heap[b]? = some x := by
  rw [Below.heap_alloc _ _ _ (Array.getElem?_eq_some_iff.1 h).1]; exact h
theorem heap_alloc_new (w : World) (o : Obj) : (w.alloc o).heap[w.heap.size]? = some o := by
  show (w.heap.push o)[w.heap.size]? = _
  simp
theorem heap_setCell_some {w : World} {a : Addr} {v : Value} {x : Obj} {b : Nat} (hne : a.block ≠ b) (h : w.heap[b]? = some x) : (w.setCell a v).heap[b]? = some x := by
  rw [Below.heap_setCell _ _ _ _ (fun e => hne e.symm)]; exact h
theorem heap_setCell_same {w : World} {b i : Nat} {v : Value} {c : Array Value} {t : TypeId} {f : Nat × Nat} (h : w.heap[b]? = some (.cells c t f)) :
    (w.setCell ⟨b, i, none⟩ v).heap[b]? = some (.cells (c.setIfInBounds i v) t f) := by
  simp [World.setCell, Array.getElem?_modify, h]
theorem lt_of_heap {w : World} {b : Nat} {x : Obj} (h : w.heap[b]? = some x) : b < w.heap.size := (Array.getElem?_eq_some_iff.1 h).1

section
variable {P : Program} {w : World} {t kt et : TypeId} {d : TypeDesc} {r : Nat} {es : Array MapEntry} {clk : Nat} {k : Value}

/-- The entries' keys are of one plain kind, no key twice. -/
structure Keys (d : TypeDesc) (es : Array MapEntry) : Prop where
  all : ∀ e ∈ es.toList, IsKey d e.key
  nd : es.toList.Pairwise (fun x y => x.key ≠ y.key)

end
end Go.Proofs.Ytpahjllcomejbaa

/- What a call leaves alone, told by a list of blocks; no condition. -/
set_option linter.unusedVariables false
set_option linter.unusedSimpArgs false
namespace Go.Proofs.Ytpahjllcomejbaa
open Go.RowKit Go.MapKept
/-- What a call leaves alone: all blocks but those of F; the new blocks are F'. -/
structure Fr (F F' : List Nat) (w w' : World) : Prop where
  os : w'.os = w.os
  tape : w'.tape = w.tape
  output : w'.output = w.output
  size : w.heap.size ≤ w'.heap.size
  block : ∀ k, k < w.heap.size → k ∉ F → w'.heap[k]? = w.heap[k]?
  foot : ∀ k ∈ F', k ∈ F ∨ w.heap.size ≤ k

theorem Fr.refl (F : List Nat) (w : World) : Fr F F w w := ⟨rfl, rfl, rfl, Nat.le_refl _, fun _ _ _ => rfl, fun _ h => .inl h⟩
theorem Fr.trans {F F1 F2 : List Nat} {w w1 w2 : World} (h : Fr F F1 w w1) (g : Fr F1 F2 w1 w2) : Fr F F2 w w2 where
  os := g.os.trans h.os
  tape := g.tape.trans h.tape
  output := g.output.trans h.output
  size := Nat.le_trans h.size g.size
  block k hk hn := by
    rw [g.block k (Nat.lt_of_lt_of_le hk h.size) (fun hf => by rcases h.foot k hf with h1 | h1; exact hn h1; omega), h.block k hk hn]
  foot k hk := by
    rcases g.foot k hk with h1 | h1
    · exact h.foot k h1
    · exact .inr (Nat.le_trans h.size h1)
theorem Fr.below {F F' : List Nat} {w w' : World} (h : Fr F F' w w') {B : Nat} (hB : B ≤ w.heap.size) (hF : ∀ k ∈ F, B ≤ k) : Below B w w' :=
  ⟨h.os, h.tape, h.output, h.size, fun k hk => h.block k (by omega) (fun hf => by have := hF k hf; omega)⟩
theorem Fr.from_ {F F' : List Nat} {w w' : World} (h : Fr F F' w w') {B : Nat} (hB : B ≤ w.heap.size) (hF : ∀ k ∈ F, B ≤ k) : ∀ k ∈ F', B ≤ k := fun k hk => by
  rcases h.foot k hk with h1 | h1
  · exact hF k h1
  · omega
theorem Fr.keep {F F' : List Nat} {w w' : World} (h : Fr F F' w w') {b : Nat} {o : Obj} (hb : w.heap[b]? = some o) (hn : b ∉ F) : w'.heap[b]? = some o := by
  rw [h.block b (lt_of_heap hb) hn]; exact hb
theorem Fr.alloc' {F F' : List Nat} {w w1 : World} (h : Fr F F' w w1) (o : Obj) : Fr F F' w (w1.alloc o) where
  os := h.os
  tape := h.tape
  output := h.output
  size := by rw [World.size_alloc]; have := h.size; omega
  block k hk hn := by rw [← h.block k hk hn]; exact Below.heap_alloc _ _ k (by have := h.size; omega)
  foot := h.foot
theorem Fr.setCell' {F F' : List Nat} {w w1 : World} (h : Fr F F' w w1) {a : Addr} (ha : a.block ∈ F ∨ w.heap.size ≤ a.block) (u : Value) : Fr F F' w (w1.setCell a u) where
  os := h.os
  tape := h.tape
  output := h.output
  size := by have := h.size; simp [World.setCell]; omega
  block k hk hn := by
    rw [← h.block k hk hn]
    refine Below.heap_setCell _ _ _ _ ?_
    rintro rfl
    rcases ha with ha | ha
    · exact hn ha
    · omega
  foot := h.foot
theorem Fr.drewN' {F F' : List Nat} {w w1 : World} (h : Fr F F' w w1) (n : Nat) : Fr F F' w (w1.drewN n) := ⟨h.os, h.tape, h.output, h.size, h.block, h.foot⟩
theorem Fr.sub {F F' G : List Nat} {w w1 : World} (h : Fr F F' w w1) (hs : ∀ k ∈ G, k ∈ F' ∨ w.heap.size ≤ k) : Fr F G w w1 where
  os := h.os
  tape := h.tape
  output := h.output
  size := h.size
  block := h.block
  foot k hk := by
    rcases hs k hk with h1 | h1
    · exact h.foot k h1
    · exact .inr h1
theorem Fr.grown' {F F' : List Nat} {w w1 w2 : World} (h : Fr F F' w w1) {row : Option Nat} (g : w1.grownBy w2 row) (hr : ∀ k, row = some k → k ∈ F ∨ w.heap.size ≤ k) : Fr F F' w w2 where
  os := g.os.trans h.os
  tape := g.tape.trans h.tape
  output := g.output.trans h.output
  size := Nat.le_trans h.size g.size
  block k hk hn := by
    rw [g.block k (Nat.lt_of_lt_of_le hk h.size) (fun e => ?_), h.block k hk hn]
    rcases hr k e.symm with h1 | h1
    · exact hn h1
    · omega
  foot := h.foot
theorem Fr.more {F F' : List Nat} {w w1 w2 : World} (h : Fr F F' w w1) (g : Fr [] [] w1 w2) : Fr F F' w w2 where
  os := g.os.trans h.os
  tape := g.tape.trans h.tape
  output := g.output.trans h.output
  size := Nat.le_trans h.size g.size
  block := fun k hk hn => by rw [g.block k (Nat.lt_of_lt_of_le hk h.size) (by simp), h.block k hk hn]
  foot := h.foot
theorem cell_at {w : World} {b : Nat} {cs : Array Value} {t : TypeId} (h : w.heap[b]? = some (.cells cs t (0, 0))) (i : Nat) : w.cell? ⟨b, i, none⟩ = cs[i]? := by simp [World.cell?, h]
theorem frozen_at {w : World} {b : Nat} {cs : Array Value} {t : TypeId} (h : w.heap[b]? = some (.cells cs t (0, 0))) (i : Nat) : w.frozen? ⟨b, i, none⟩ = false := by simp [World.frozen?, h]
end Go.Proofs.Ytpahjllcomejbaa
