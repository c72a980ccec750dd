/- Several texts of this claim in one: each is told where it begins. -/
import Derived.JoinedOf
import Derived.Deep.Slices
import Derived.Deep.Fields
import Derived.ChangeSame
import Derived.ProofKit
import Derived.OpenShut
import Derived.WalkKit
import Derived.Maps.RangeRun
import Derived.MapKept
import Derived.Below
import Derived.Maps.AppendAt
import Derived.OwnWalk
import Derived.BigQuiet
import Derived.Outline
import Derived.Test.YtpahjllcomejbaaProg
import Derived.Laws.BitsLemmas
import Derived.Laws.BitsAllLaws
/- A row's closed facts, told one by one, are together the row's closed fact; no condition. -/
namespace Go.Proofs.Ytpahjllcomejbaa
theorem facts_of {P : Program} {f : FuncId} {fn : Func} {s : ChangeSpec} {c : OpenClaim}
    (k1 : c.wf (OpenSpec.ofChange s) = true) (k2 : laidOutB P = true) (k3 : mapsRowed P = true) (k4 : fn.params.all (P.readableRec ·) = true) (k5 : namedTie P c.named s.vars = true)
    (k6 : (c.stops == []) = true) (k7 : (P.stops == []) = true) (k8 : (c.knobs == []) = true) (k9 : (P.stopKnobs == []) = true)
    (k10 : (c.inPlace == P.inPlace f) = true) (k11 : (c.unfollowed == P.unfollowed f) = true) (k12 : (c.recurses == P.recurses f) = true) (k13 : (c.named == P.varsNamed f) = true)
    (k14 : (c.maps == (fn.params.toList ++ s.plain.varTypes P).any (P.mapsRec ·)) = true) (k15 : (c.ifaces == (fn.params.toList ++ s.plain.varTypes P).any (P.ifacesRec ·)) = true) (k16 : (c.mapsOut == P.mapsAmong fn.resultTypes.toList) = true)
    (k17 : (c.loops == (fn.params.toList ++ s.plain.varTypes P).any (P.loopsFrom ·)) = true) (k18 : (c.wideKeys == (fn.params.toList ++ s.plain.varTypes P ++ fn.resultTypes.toList).any (P.wideKeysFrom ·)) = true)
    (k19 : s.vars.all (P.varReadable ·) = true) (k20 : fn.resultTypes.all (fun t => P.readableRec t && decide (t < P.types.size)) = true) (k21 : (c.ifacesOut == fn.resultTypes.toList.any (P.ifacesRec ·)) = true) (k22 : (c.loopsOut == fn.resultTypes.toList.any (P.loopsFrom ·)) = true)
    (k23 : (c.plainKeys == P.plainKeys) = true) (k24 : c.shortTexts.isNone = true) (k25 : P.stopsHeard = true) (k26 : P.mayEnter = true) (k27 : (c.lifted == P.liftsFinal) = true) (k28 : (P.make == some c.make) = true)
    (k29 : (c.kinds == (if c.domain.isEmpty then [] else fn.params.toList.map fun t => match P.underlying t with | some (.int k) => some k | _ => none)) = true) (k30 : (c.pinned == c.pinnedBy) = true)
    (k31 : (c.veiled == (fn.params.toList ++ s.plain.varTypes P ++ fn.resultTypes.toList).any (P.veiledRec ·)) = true) (k32 : c.veiledFits P fn.params.toList (fn.params.toList ++ s.plain.varTypes P ++ fn.resultTypes.toList) = true) :
    joinedFacts P f fn s c = true := by
  simp only [joinedFacts, Bool.and_eq_true]
  exact ⟨⟨⟨⟨⟨⟨⟨⟨⟨⟨⟨⟨⟨⟨⟨⟨⟨⟨⟨⟨⟨⟨⟨⟨⟨⟨⟨⟨⟨⟨⟨k1, k2⟩, k3⟩, k4⟩, k5⟩, k6⟩, k7⟩, k8⟩, k9⟩, k10⟩, k11⟩, k12⟩, k13⟩, k14⟩, k15⟩, k16⟩, k17⟩, k18⟩, k19⟩, k20⟩, k21⟩, k22⟩, k23⟩, k24⟩, k25⟩, k26⟩, k27⟩, k28⟩, k29⟩, k30⟩, k31⟩, k32⟩
end Go.Proofs.Ytpahjllcomejbaa

/- What a law's walk is told of its arguments: numbers, strings, slices of numbers, structs of plain fields, slices of these; no condition. -/
set_option linter.unusedVariables false
set_option linter.unusedSimpArgs false
namespace Go.Proofs.Ytpahjllcomejbaa
open Go.ChangeShapes Go.WideShapes Go.ChangeAt Go.RowKit Go.Deep

/-- A plain field's kind. -/
inductive FK where
  | int (k : IntKind)
  | str
  | bool
section
variable {H : Type} {enc : TypeId × Value → H} {P : Program} {w : World} {base : Nat} {spare : Nat → Bool} {held : Bool}
end
end Go.Proofs.Ytpahjllcomejbaa

/- Raw laws on a map's block: look-up, store, delete and len, told by the entries themselves; conditions: keys of one plain kind (bool, integer, string), no key twice. And laws on which block a world holds behind a new block, a store, a draw. -/
set_option linter.unusedVariables false
set_option linter.unusedSimpArgs false
namespace Go.Proofs.Ytpahjllcomejbaa
open Go.RowKit Go.MapKept
open Go.ChangeMaps (setBlock)

/-- A fact kept from the walk. -/
theorem hide {p : Prop} (h : p) : Hid p := h

/-! blocks of a world -/
theorem heap_alloc_some {w : World} {o x : Obj} {b : Nat} (h : w.heap[b]? = some x) : (w.alloc o).heap[b]? = some x := by
  rw [Below.heap_alloc _ _ _ (Array.getElem?_eq_some_iff.1 h).1]; exact h
theorem heap_alloc_new (w : World) (o : Obj) : (w.alloc o).heap[w.heap.size]? = some o := by
  show (w.heap.push o)[w.heap.size]? = _
  simp
theorem heap_setCell_some {w : World} {a : Addr} {v : Value} {x : Obj} {b : Nat} (hne : a.block ≠ b) (h : w.heap[b]? = some x) : (w.setCell a v).heap[b]? = some x := by
  rw [Below.heap_setCell _ _ _ _ (fun e => hne e.symm)]; exact h
theorem heap_setCell_same {w : World} {b i : Nat} {v : Value} {c : Array Value} {t : TypeId} {f : Nat × Nat} (h : w.heap[b]? = some (.cells c t f)) :
    (w.setCell ⟨b, i, none⟩ v).heap[b]? = some (.cells (c.setIfInBounds i v) t f) := by
  simp [World.setCell, Array.getElem?_modify, h]
theorem lt_of_heap {w : World} {b : Nat} {x : Obj} (h : w.heap[b]? = some x) : b < w.heap.size := (Array.getElem?_eq_some_iff.1 h).1

section
variable {P : Program} {w : World} {t kt et : TypeId} {d : TypeDesc} {r : Nat} {es : Array MapEntry} {clk : Nat} {k : Value}

/-- The entries' keys are of one plain kind, no key twice. -/
structure Keys (d : TypeDesc) (es : Array MapEntry) : Prop where
  all : ∀ e ∈ es.toList, IsKey d e.key
  nd : es.toList.Pairwise (fun x y => x.key ≠ y.key)

end
end Go.Proofs.Ytpahjllcomejbaa

/- What a call leaves alone, told by a list of blocks; no condition. -/
set_option linter.unusedVariables false
set_option linter.unusedSimpArgs false
namespace Go.Proofs.Ytpahjllcomejbaa
open Go.RowKit Go.MapKept
/-- What a call leaves alone: all blocks but those of F; the new blocks are F'. -/
structure Fr (F F' : List Nat) (w w' : World) : Prop where
  os : w'.os = w.os
  tape : w'.tape = w.tape
  output : w'.output = w.output
  size : w.heap.size ≤ w'.heap.size
  block : ∀ k, k < w.heap.size → k ∉ F → w'.heap[k]? = w.heap[k]?
  foot : ∀ k ∈ F', k ∈ F ∨ w.heap.size ≤ k

theorem Fr.refl (F : List Nat) (w : World) : Fr F F w w := ⟨rfl, rfl, rfl, Nat.le_refl _, fun _ _ _ => rfl, fun _ h => .inl h⟩
theorem Fr.trans {F F1 F2 : List Nat} {w w1 w2 : World} (h : Fr F F1 w w1) (g : Fr F1 F2 w1 w2) : Fr F F2 w w2 where
  os := g.os.trans h.os
  tape := g.tape.trans h.tape
  output := g.output.trans h.output
  size := Nat.le_trans h.size g.size
  block k hk hn := by
    rw [g.block k (Nat.lt_of_lt_of_le hk h.size) (fun hf => by rcases h.foot k hf with h1 | h1; exact hn h1; omega), h.block k hk hn]
  foot k hk := by
    rcases g.foot k hk with h1 | h1
    · exact h.foot k h1
    · exact .inr (Nat.le_trans h.size h1)
theorem Fr.below {F F' : List Nat} {w w' : World} (h : Fr F F' w w') {B : Nat} (hB : B ≤ w.heap.size) (hF : ∀ k ∈ F, B ≤ k) : Below B w w' :=
  ⟨h.os, h.tape, h.output, h.size, fun k hk => h.block k (by omega) (fun hf => by have := hF k hf; omega)⟩
theorem Fr.from_ {F F' : List Nat} {w w' : World} (h : Fr F F' w w') {B : Nat} (hB : B ≤ w.heap.size) (hF : ∀ k ∈ F, B ≤ k) : ∀ k ∈ F', B ≤ k := fun k hk => by
  rcases h.foot k hk with h1 | h1
  · exact hF k h1
  · omega
theorem Fr.keep {F F' : List Nat} {w w' : World} (h : Fr F F' w w') {b : Nat} {o : Obj} (hb : w.heap[b]? = some o) (hn : b ∉ F) : w'.heap[b]? = some o := by
  rw [h.block b (lt_of_heap hb) hn]; exact hb
theorem Fr.alloc' {F F' : List Nat} {w w1 : World} (h : Fr F F' w w1) (o : Obj) : Fr F F' w (w1.alloc o) where
  os := h.os
  tape := h.tape
  output := h.output
  size := by rw [World.size_alloc]; have := h.size; omega
  block k hk hn := by rw [← h.block k hk hn]; exact Below.heap_alloc _ _ k (by have := h.size; omega)
  foot := h.foot
theorem Fr.setCell' {F F' : List Nat} {w w1 : World} (h : Fr F F' w w1) {a : Addr} (ha : a.block ∈ F ∨ w.heap.size ≤ a.block) (u : Value) : Fr F F' w (w1.setCell a u) where
  os := h.os
  tape := h.tape
  output := h.output
  size := by have := h.size; simp [World.setCell]; omega
  block k hk hn := by
    rw [← h.block k hk hn]
    refine Below.heap_setCell _ _ _ _ ?_
    rintro rfl
    rcases ha with ha | ha
    · exact hn ha
    · omega
  foot := h.foot
theorem Fr.drewN' {F F' : List Nat} {w w1 : World} (h : Fr F F' w w1) (n : Nat) : Fr F F' w (w1.drewN n) := ⟨h.os, h.tape, h.output, h.size, h.block, h.foot⟩
theorem Fr.sub {F F' G : List Nat} {w w1 : World} (h : Fr F F' w w1) (hs : ∀ k ∈ G, k ∈ F' ∨ w.heap.size ≤ k) : Fr F G w w1 where
  os := h.os
  tape := h.tape
  output := h.output
  size := h.size
  block := h.block
  foot k hk := by
    rcases hs k hk with h1 | h1
    · exact h.foot k h1
    · exact .inr h1
theorem Fr.grown' {F F' : List Nat} {w w1 w2 : World} (h : Fr F F' w w1) {row : Option Nat} (g : w1.grownBy w2 row) (hr : ∀ k, row = some k → k ∈ F ∨ w.heap.size ≤ k) : Fr F F' w w2 where
  os := g.os.trans h.os
  tape := g.tape.trans h.tape
  output := g.output.trans h.output
  size := Nat.le_trans h.size g.size
  block k hk hn := by
    rw [g.block k (Nat.lt_of_lt_of_le hk h.size) (fun e => ?_), h.block k hk hn]
    rcases hr k e.symm with h1 | h1
    · exact hn h1
    · omega
  foot := h.foot
theorem Fr.more {F F' : List Nat} {w w1 w2 : World} (h : Fr F F' w w1) (g : Fr [] [] w1 w2) : Fr F F' w w2 where
  os := g.os.trans h.os
  tape := g.tape.trans h.tape
  output := g.output.trans h.output
  size := Nat.le_trans h.size g.size
  block := fun k hk hn => by rw [g.block k (Nat.lt_of_lt_of_le hk h.size) (by simp), h.block k hk hn]
  foot := h.foot
theorem cell_at {w : World} {b : Nat} {cs : Array Value} {t : TypeId} (h : w.heap[b]? = some (.cells cs t (0, 0))) (i : Nat) : w.cell? ⟨b, i, none⟩ = cs[i]? := by simp [World.cell?, h]
theorem frozen_at {w : World} {b : Nat} {cs : Array Value} {t : TypeId} (h : w.heap[b]? = some (.cells cs t (0, 0))) (i : Nat) : w.frozen? ⟨b, i, none⟩ = false := by simp [World.frozen?, h]
end Go.Proofs.Ytpahjllcomejbaa

/- The coder: what a memory must hold for it, and its smaller methods; condition: the coder lies in memory. -/
set_option linter.unusedVariables false
set_option linter.unusedSimpArgs false
namespace Go.Proofs.Ytpahjllcomejbaa
open Go.RowKit Go.MapKept

def u8s (l : List Int) : List Value := l.map (Value.int .u8)
/-- A coder at block x: its bytes, whether it is bad; F: its blocks. -/
structure Cod (w : World) (x : Nat) (F : List Nat) (bs : List Int) (bad : Bool) : Prop where
  ex : ∃ v, w.heap[x]? = some (.cells #[v, .bool bad] 41 (0, 0)) ∧ w.ownsRow 0 5 1 v bs.length (u8s bs) ∧ v.ownBlock ≠ some x ∧ F = x :: v.ownBlock.toList
def CodPost (w : World) (x : Nat) (F : List Nat) (bs : List Int) (bad : Bool) (e : Ending) (w' : World) : Prop := e = .returned (.tuple #[]) ∧ ∃ F', Cod w' x F' bs bad ∧ Fr F F' w w'
theorem Cod.lt {w : World} {x : Nat} {F : List Nat} {bs : List Int} {bad : Bool} (h : Cod w x F bs bad) : ∀ k ∈ F, k < w.heap.size := by
  obtain ⟨v, h1, h2, h3, rfl⟩ := h.ex
  intro k hk
  rcases List.mem_cons.1 hk with rfl | hk
  · exact lt_of_heap h1
  · rcases h2.2 with ⟨rfl, _⟩ | ⟨g, cap, cur, rfl, _, hg, _⟩
    · simp [Value.ownBlock] at hk
    · simp [Value.ownBlock] at hk
      subst hk
      exact lt_of_heap hg
theorem u8s_one (l : List Int) : ∀ u ∈ u8s l, u.oneCell' = true := by
  intro u hu
  obtain ⟨a, _, rfl⟩ := List.mem_map.1 hu
  rfl
theorem u8s_append (a b : List Int) : u8s (a ++ b) = u8s a ++ u8s b := by simp [u8s]
theorem own_form {w : World} {base e size n : Nat} {v : Value} {xs : List Value} (h : w.ownsRow base e size v n xs) : ∃ A m c, v = .slice A m c := by
  rcases h.2 with ⟨rfl, _⟩ | ⟨g, cap, cur, rfl, _⟩ <;> exact ⟨_, _, _, rfl⟩
theorem own_set {w : World} {base e size n : Nat} {v : Value} {xs : List Value} (h : w.ownsRow base e size v n xs) {x i : Nat} (hne : v.ownBlock ≠ some x) {u : Value} : (w.setCell ⟨x, i, none⟩ u).ownsRow base e size v n xs := by
  obtain ⟨h1, h2⟩ := h
  refine ⟨h1, ?_⟩
  rcases h2 with h2 | ⟨g, cap, cur, rfl, hg, hh, r⟩
  · exact .inl h2
  · exact .inr ⟨g, cap, cur, rfl, hg, heap_setCell_some (fun e => hne (by simp [Value.ownBlock]; exact e.symm)) hh, r⟩
theorem u8_info : (Try.prog.info? 5).map (fun i => (i.zero, i.size, i.bytes)) = some (some (.int .u8 0), 1, 1) := by kernel_rfl
theorem cod_appended {W w1 : World} {x : Nat} {v v1 : Value} {bs' : List Int} {bad : Bool} {n : Nat} (h1 : W.heap[x]? = some (.cells #[v, .bool bad] 41 (0, 0))) (h3 : v.ownBlock ≠ some x) (hg : W.grownBy w1 v.ownBlock)
    (hown : w1.ownsRow 0 5 1 v1 n (u8s bs')) (hn : n = bs'.length) (hat : v1.ownBlock = v.ownBlock ∨ v1.ownBlock = some W.heap.size) :
    Cod (w1.setCell ⟨x, 0, none⟩ v1) x (x :: v1.ownBlock.toList) bs' bad ∧ Fr (x :: v.ownBlock.toList) (x :: v1.ownBlock.toList) W (w1.setCell ⟨x, 0, none⟩ v1) := by
  subst hn
  have hlt := lt_of_heap h1
  have hx1 := (hg.block x hlt (fun e => h3 e.symm)).trans h1
  have hne : v1.ownBlock ≠ some x := by
    intro e
    rcases hat with h | h
    · rw [h] at e; exact h3 e
    · rw [h] at e; have := Option.some.inj e; omega
  refine ⟨⟨v1, by simpa using heap_setCell_same (b := x) (i := 0) (v := v1) hx1, own_set hown hne, hne, rfl⟩, ?_⟩
  refine Fr.setCell' (Fr.sub (Fr.grown' (Fr.refl _ W) hg (fun k hk => .inl (by rw [hk]; simp))) ?_) (.inl (by simp)) _
  intro k hk
  rcases List.mem_cons.1 hk with rfl | hk
  · exact .inl (by simp)
  · rcases hat with h | h
    · rw [h] at hk; exact .inl (by simp [hk])
    · rw [h] at hk; simp at hk; exact .inr (by omega)
set_option maxRecDepth 100000 in
set_option maxHeartbeats 800000 in
theorem op_calls (w : World) (x : Nat) (F : List Nat) (bs : List Int) (bad : Bool) (h : Cod w x F bs bad) (ad : Addr) (m c : Nat) (news : List Int) (hm : news.length = m) (hn : ∀ j u, (u8s news)[j]? = some u → w.cell? (ad.add j) = some u) (hl : bs.length + m ≤ 100000000000000) :
    Calls Try.prog 24 #[.pointer (some ⟨x, 0, none⟩), .slice (some ad) m c] w (CodPost w x F (bs ++ news) bad) := by
  obtain ⟨v, h1, h2, h3, rfl⟩ := h.ex
  have hu := Try.underlying39
  have hu2 := Try.underlying41
  obtain ⟨i0, hi, hz0, hz1, hz2⟩ := info_parts u8_info
  have c0 := cell_at h1 0
  have c1 := cell_at h1 1
  simp only [List.getElem?_toArray, List.getElem?_cons_zero, List.getElem?_cons_succ] at c0 c1
  have hlt := lt_of_heap h1
  have H1 := hide h1
  have HM := hide hm
  have H2 := hide h2
  have HN := hide hn
  have H3 := hide h3
  have HL := hide hl
  clear h1 h2 h3 hn hl hm
  go_enter Try.func24, Try.ntmps24
  go_wp2_with (at_builtin; refine wpList_append_own_at _ rfl _ _ 39 rfl 0 5 i0 _ 1 1 hu hi hz0 hz1 hz2 rfl (by decide) v bs.length (u8s bs) rfl H2.out ad m c (u8s news) rfl (by rw [u8s, List.length_map, HM.out]; omega) HN.out (u8s_one news) (by have := HL.out; unfold maxLen; omega) (by have := HL.out; omega) (Nat.zero_le _) ?_; intro v1 w1 hown1 hg1 _ hat1; have hx1 := (hg1.block x hlt (fun e => H3.out e.symm)).trans H1.out; have d0 := cell_at hx1 0; have f0 := frozen_at hx1 0; simp only [List.getElem?_toArray, List.getElem?_cons_zero, List.getElem?_cons_succ] at d0; have HX1 := hide hx1; obtain ⟨A1, n1, c1', rfl⟩ := own_form hown1; have HO := hide hown1; have HG := hide hg1; have HT := hide hat1; clear hx1 hown1 hg1 hat1)
  go_end0
  obtain ⟨a1, a2⟩ := cod_appended (bs' := bs ++ news) H1.out H3.out HG.out (by rw [u8s_append]; exact HO.out) (by simp [HM.out]) HT.out
  exact ⟨rfl, _, a1, a2⟩
end Go.Proofs.Ytpahjllcomejbaa

/- Bytes out of fields; no condition beyond each lemma's own. -/
set_option linter.unusedVariables false
set_option linter.unusedSimpArgs false
namespace Go.Proofs.Ytpahjllcomejbaa
open Go.RowKit Go.MapKept
theorem and_mask (n : Int) (i : Nat) (hi : i ≤ 62) : bits BinOp.and IntKind.i64 n (2 ^ i - 1) = n % 2 ^ i := by
  have e0 : ∀ x y : Int, bits BinOp.and IntKind.i64 x y = IntKind.i64.wrap (((BitVec.ofInt 64 x) &&& (BitVec.ofInt 64 y)).toNat : Int) := fun _ _ => rfl
  have hp : (2 : Nat) ^ i ≤ 2 ^ 62 := Nat.pow_le_pow_right (by omega) hi
  have hpos : 0 < 2 ^ i := Nat.two_pow_pos i
  have hc : ((2 : Int) ^ i - 1) = ((2 ^ i - 1 : Nat) : Int) := by rw [Int.natCast_sub hpos]; simp
  have e1 : (BitVec.ofInt 64 ((2 ^ i - 1 : Nat) : Int)).toNat = 2 ^ i - 1 := by rw [BitVec.toNat_ofInt]; omega
  have e2 : (BitVec.ofInt 64 n).toNat = (n % 18446744073709551616).toNat := by rw [BitVec.toNat_ofInt]; rfl
  rw [e0, BitVec.toNat_and, hc, e1, e2, Nat.and_two_pow_sub_one_eq_mod]
  have hd : ((2 : Int) ^ i) ∣ 18446744073709551616 := ⟨2 ^ (64 - i), by rw [← Int.pow_add, show i + (64 - i) = 64 by omega]; rfl⟩
  have h3 : (((n % 18446744073709551616).toNat % 2 ^ i : Nat) : Int) = n % 2 ^ i := by
    rw [Int.natCast_emod, Int.toNat_of_nonneg (by omega)]
    have : ((2 ^ i : Nat) : Int) = 2 ^ i := by simp
    rw [this, Int.emod_emod_of_dvd _ hd]
  have h4 : (n % 18446744073709551616).toNat % 2 ^ i < 2 ^ i := Nat.mod_lt _ hpos
  rw [IntKind.wrap_i64, h3]
  have h5 : (2 ^ i : Nat) ≤ 4611686018427387904 := hp
  have : 0 ≤ n % 2 ^ i ∧ n % 2 ^ i < 4611686018427387904 := by rw [← h3]; omega
  omega
theorem and7 (n : Int) : bits BinOp.and IntKind.i64 n 7 = n % 8 := by simpa using and_mask n 3 (by omega)
theorem and1 (n : Int) : bits BinOp.and IntKind.i64 n 1 = n % 2 := by simpa using and_mask n 1 (by omega)
theorem and15 (n : Int) : bits BinOp.and IntKind.i64 n 15 = n % 16 := by simpa using and_mask n 4 (by omega)
theorem or_u8 (x y : Int) (i : Nat) (hi : i ≤ 8) (hx0 : 0 ≤ x) (hx1 : x < 256) (hz : x % 2 ^ i = 0) (hy0 : 0 ≤ y) (hy1 : y < 2 ^ i) : bits BinOp.or IntKind.u8 x y = x + y := by
  have hp : (2 : Int) ^ i ≤ 256 := by
    have h : i = 0 ∨ i = 1 ∨ i = 2 ∨ i = 3 ∨ i = 4 ∨ i = 5 ∨ i = 6 ∨ i = 7 ∨ i = 8 := by omega
    rcases h with rfl | rfl | rfl | rfl | rfl | rfl | rfl | rfl | rfl <;> decide
  exact bits_join .u8 8 (by decide) wraps_u8 i x y hx0 hz (by simp; omega) hy0 hy1 (by simp; omega)
theorem fieldsByte (b reg rm : Int) (h : b = 128 ∨ b = 192) : bits BinOp.or IntKind.u8 (bits BinOp.or IntKind.u8 b (bits BinOp.and IntKind.i64 reg 7 % 256 * 8 % 256)) (bits BinOp.and IntKind.i64 rm 7 % 256) = b + reg % 8 * 8 + rm % 8 := by
  rw [and7, and7, or_u8 b _ 6 (by omega) (by omega) (by omega) (by rcases h with rfl | rfl <;> decide) (by omega) (by simp; omega), or_u8 _ _ 3 (by omega) (by omega) (by omega) (by simp; omega) (by omega) (by simp; omega)]
  omega
theorem rexByte (b reg rm : Int) (h : b = 64 ∨ b = 72) : bits BinOp.or IntKind.u8 (bits BinOp.or IntKind.u8 b (bits BinOp.and IntKind.i64 (reg / 8) 1 % 256 * 4 % 256)) (bits BinOp.and IntKind.i64 (rm / 8) 1 % 256) = b + reg / 8 % 2 * 4 + rm / 8 % 2 := by
  rw [and1, and1, or_u8 b _ 3 (by omega) (by omega) (by omega) (by rcases h with rfl | rfl <;> decide) (by omega) (by simp; omega), or_u8 _ _ 1 (by omega) (by omega) (by omega) (by simp; omega) (by omega) (by simp; omega)]
  omega
end Go.Proofs.Ytpahjllcomejbaa
