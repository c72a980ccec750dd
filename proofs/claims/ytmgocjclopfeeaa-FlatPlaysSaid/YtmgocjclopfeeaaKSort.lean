/- slices.SortFunc at a row of regions: the row is the one ascending list of them; condition: the row is held, and the numbers are apart. -/
import Derived.Test.YtmgocjclopfeeaaRK11
import Derived.Test.YtmgocjclopfeeaaSort
set_option linter.unusedVariables false
set_option linter.unusedSimpArgs false
namespace Go.Proofs.Ytmgocjclopfeeaa
open Go.RowKit Go.MapKept Go.Sort

/-- A region to be sorted. -/
structure RegA where
  n : Nat
  a : RA
  h : n < 4294967296
instance : Inhabited RegA := ⟨⟨0, ⟨[], 0, false⟩, by decide⟩⟩
def encA (y : RegA) : List Value := [.int .i64 (y.n : Nat), .int .i64 (y.a.perm : Nat), .string (bstr y.a.bytes)]
def cfA (x y : RegA) : Int := (x.n : Int) - y.n
def pairA (y : RegA) : Nat × RA := (y.n, y.a)
set_option maxRecDepth 100000 in
theorem closure_A (x0 y0 x1 y1 : Nat) (s t : ByteArray) (hx : x0 < 4294967296) (hy : y0 < 4294967296) (W : World) : Calls Try.prog 42 #[.agg #[.int .i64 x0, .int .i64 x1, .string s], .agg #[.int .i64 y0, .int .i64 y1, .string t]] W fun e w' => e = .returned (.int .i64 ((x0 : Int) - y0)) ∧ ∃ q os', w' = grow (W.drewN q) os' := by
  have hw : IntKind.i64.wrap ((x0 : Int) - y0) = (x0 : Int) - y0 := by rw [IntKind.wrap_i64]; omega
  go_enter Try.func42, Try.ntmps42
  go_wp2
  go_ret
  exact ⟨by first | rfl | (rw [← hw]; rfl), 0, _, by rw [alloc_eq_grow, alloc_eq_grow, grow_grow]; rfl⟩
theorem cmp_A (blk off size : Nat) (w : World) : CmpLays Try.prog 42 #[] encA 3 cfA blk off size w :=
  fun _ _ _ _ x y => closure_A _ _ _ _ _ _ x.h y.h _
theorem lt_A (x y : RegA) : ltOf cfA x y = decide (x.n < y.n) := by
  unfold ltOf cfA
  rw [Bool.eq_iff_iff]
  simp
  omega
theorem swo_A : SWO (ltOf cfA) where
  irrefl x := by rw [lt_A]; simp
  trans x y z h1 h2 := by rw [lt_A] at *; simp at *; omega
  ntrans x y z h1 h2 := by rw [lt_A] at *; simp at *; omega
/-- What a row of regions is, by its cells. -/
def RowIs (w : World) (v : Value) (l : List (Nat × RA)) : Prop :=
  ∃ A c, v = .slice A l.length c ∧ (0 < l.length → ∃ g, A = some ⟨g, 0, none⟩ ∧ g < w.heap.size ∧ ∀ i y, l[i]? = some y →
    w.cell? ⟨g, i * 3, none⟩ = some (.int .i64 (y.1 : Nat)) ∧ w.cell? ⟨g, i * 3 + 1, none⟩ = some (.int .i64 (y.2.perm : Nat)) ∧ w.cell? ⟨g, i * 3 + 2, none⟩ = some (.string (bstr y.2.bytes)))
theorem RowIs.of_own {w : World} {base n : Nat} {v : Value} {l : List (Nat × RA)} (h : w.ownsRow base 97 3 v n (rcells l)) (hl : l.length = n) : RowIs w v l := by
  subst hl
  obtain ⟨A, c, rfl, hg⟩ := own_form3 h
  refine ⟨A, c, rfl, fun h0 => ?_⟩
  obtain ⟨g, rfl⟩ := hg h0
  exact ⟨g, rfl, ownsRow_lt h g rfl, fun i y hy => own_reg h i y hy⟩
theorem RowIs.keep {w w' : World} {v : Value} {l : List (Nat × RA)} (h : RowIs w v l) (hf : ∀ b, b < w.heap.size → w'.heap[b]? = w.heap[b]?) (hs : w.heap.size ≤ w'.heap.size) : RowIs w' v l := by
  obtain ⟨A, c, rfl, hg⟩ := h
  refine ⟨A, c, rfl, fun h0 => ?_⟩
  obtain ⟨g, rfl, h1, h2⟩ := hg h0
  refine ⟨g, rfl, by omega, fun i y hy => ?_⟩
  obtain ⟨a, b, d⟩ := h2 i y hy
  have e : ∀ j, w'.cell? ⟨g, j, none⟩ = w.cell? ⟨g, j, none⟩ := fun j => by simp only [World.cell?]; rw [hf g h1]
  rw [e, e, e]
  exact ⟨a, b, d⟩
theorem arr_of : ∀ (l : List (Nat × RA)), (∀ y ∈ l, y.1 < 4294967296) → ∃ d : List RegA, d.map pairA = l
  | [], _ => ⟨[], rfl⟩
  | y :: l, h => by
    obtain ⟨d, hd⟩ := arr_of l (fun z hz => h z (List.mem_cons_of_mem _ hz))
    exact ⟨⟨y.1, y.2, h y List.mem_cons_self⟩ :: d, by simp [pairA, hd]⟩
theorem holds_A {w : World} {base g m c n : Nat} {d : List RegA} (h : w.ownsRow base 97 3 (.slice (some ⟨g, 0, none⟩) m c) n (rcells (d.map pairA))) : HoldsK encA 3 w g 0 d.toArray := by
  intro t ht
  rw [size_flatK] at ht
  rw [get_flatK _ _ _ _ ht]
  have htd : t / 3 < d.length := by
    have : t < d.length * 3 := by simpa using ht
    omega
  have hfz : ∀ j, w.frozen? ⟨g, j, none⟩ = false := fun j => by
    rcases h.2 with ⟨h1, _⟩ | ⟨g', cap, cur, hv, _, hh, _⟩
    · cases h1
    · cases hv
      exact rk_frozen hh j
  obtain ⟨c1, c2, c3⟩ := own_reg h (t / 3) (pairA d[t / 3]) (by simp [htd])
  have e : d.toArray[t / 3]! = d[t / 3] := by simp [htd]
  rw [e]
  refine ⟨?_, hfz _⟩
  rcases (show t % 3 = 0 ∨ t % 3 = 1 ∨ t % 3 = 2 by omega) with hr | hr | hr
  · rw [hr, show 0 + t = t / 3 * 3 by omega]; exact c1
  · rw [hr, show 0 + t = t / 3 * 3 + 1 by omega]; exact c2
  · rw [hr, show 0 + t = t / 3 * 3 + 2 by omega]; exact c3
theorem sortW_heap (w : World) (g n : Nat) (d : Array RegA) (os : Array Obj) : (∀ b, b < w.heap.size → b ≠ g → (sortWorldK encA 3 w g 0 n d os).heap[b]? = w.heap[b]?) ∧ w.heap.size ≤ (sortWorldK encA 3 w g 0 n d os).heap.size ∧
    (sortWorldK encA 3 w g 0 n d os).os = w.os ∧ (sortWorldK encA 3 w g 0 n d os).tape = w.tape ∧ (sortWorldK encA 3 w g 0 n d os).output = w.output := by
  refine ⟨fun b hb hne => ?_, ?_, rfl, rfl, rfl⟩
  · unfold sortWorldK putRowK putRow mapBlock grow Sort.ahead
    simp only
    rw [Array.getElem?_append_left (by simpa using hb), Array.getElem?_modify, if_neg (fun e => hne e.symm)]
  · unfold sortWorldK putRowK putRow mapBlock grow Sort.ahead
    simp
theorem perm_asc {A B : List (Nat × RA)} (h : A.Perm B) (hA : A.Pairwise fun x y => x.1 < y.1) (hB : B.Pairwise fun x y => x.1 ≤ y.1) : A = B := by
  refine List.Perm.eq_of_pairwise (le := fun x y => x.1 ≤ y.1) (fun a b ha hb h1 h2 => ?_) (hA.imp fun h => Nat.le_of_lt h) hB h
  have hb' := h.mem_iff.2 hb
  have key : ∀ (l : List (Nat × RA)), l.Pairwise (fun x y => x.1 < y.1) → ∀ a ∈ l, ∀ b ∈ l, a.1 = b.1 → a = b := by
    intro l
    induction l with
    | nil => intro _ a ha; simp at ha
    | cons x l ih =>
      intro hp a ha b hb e
      rw [List.pairwise_cons] at hp
      rcases List.mem_cons.1 ha with e1 | e1 <;> rcases List.mem_cons.1 hb with e2 | e2
      · rw [e1, e2]
      · have := hp.1 b e2; rw [← e1] at this; omega
      · have := hp.1 a e1; rw [← e2] at this; omega
      · exact ih hp.2 a e1 b e2 e
  exact key A hA a ha b hb' (by omega)
theorem liveOf_asc : ∀ (ls : List RE) (s : Nat), (liveOf s ls).Pairwise fun x y => x.1 < y.1
  | [], s => by simp [liveOf]
  | e :: l, s => by
    rw [liveOf]
    have ih := liveOf_asc l (s + 1)
    cases e.a with
    | none => simpa using ih
    | some a =>
      rw [List.singleton_append, List.pairwise_cons]
      refine ⟨fun y hy => ?_, ih⟩
      have := (mem_liveOf l (s + 1) y hy).1
      show s < y.1
      omega
def SortPost (w : World) (v : Value) (L : List (Nat × RA)) (g : Nat) (e : Ending) (W : World) : Prop := e = .returned (.tuple #[]) ∧ RowIs W v L ∧ (∀ b, b < w.heap.size → b ≠ g → W.heap[b]? = w.heap[b]?) ∧ w.heap.size ≤ W.heap.size ∧ W.os = w.os ∧ W.tape = w.tape ∧ W.output = w.output
theorem sort_calls {w : World} {base g c : Nat} {l L : List (Nat × RA)} (h : w.ownsRow base 97 3 (.slice (some ⟨g, 0, none⟩) l.length c) l.length (rcells l)) (hb : ∀ y ∈ l, y.1 < 4294967296) (hp : L.Perm l) (hL : L.Pairwise fun x y => x.1 < y.1) (hn : l.length < 4294967296) :
    Calls Try.prog 41 #[.slice (some ⟨g, 0, none⟩) l.length c, .func (.func 42) #[] #[]] w (SortPost w (.slice (some ⟨g, 0, none⟩) l.length c) L g) := by
  obtain ⟨d, rfl⟩ := arr_of l hb
  have eg : ∀ args w, (callFunc 42 args).run Try.prog w = .ok (.enter 42 args) w := enters_of Try.func42 (by kernel_rfl) rfl
  have hg := ownsRow_lt h g rfl
  have hcon := AnyQ.slices_SortFunc Try.sortReg 3 Try.isAgg97 Try.sizeOf97 encA (fun _ => rfl) (fun x v hv => by simp [encA] at hv; rcases hv with rfl | rfl | rfl <;> rfl) cfA swo_A 42 #[] g 0 c d.toArray w eg (cmp_A g 0 _ w) (holds_A h) hg (by simp at hn ⊢; omega)
  change Calls Try.prog 41 _ _ _ at hcon
  rw [List.length_map] at *
  rw [List.size_toArray] at hcon
  refine hcon.mono ?_
  rintro e W ⟨rfl, d', q, os, ⟨hs1, -, hs3⟩, hso, rfl⟩
  obtain ⟨f1, f2, f3, f4, f5⟩ := sortW_heap w g q d' os
  refine ⟨rfl, ?_, f1, f2, f3, f4, f5⟩
  replace hs1 : d'.size = d.length := by simpa using hs1
  have hH := holdsK_sortWorldK_c encA 3 w g 0 d.toArray d' q os (holds_A h) hg (by rw [hs1, List.size_toArray])
  have hd' : d'.toList.Perm d := by
    have e1 : (d'.extract 0 d.length).toList = d'.toList := by rw [← hs1]; simp
    have e2 : (d.toArray.extract 0 d.length).toList = d := by simp
    rw [e1, e2] at hs3
    exact hs3
  have hL' : L = d'.toList.map pairA := by
    refine perm_asc (hp.trans (hd'.map pairA).symm) hL ?_
    rw [List.pairwise_map, List.pairwise_iff_getElem]
    intro i j hi hj hij
    have := hso i j (Nat.zero_le _) hij (by rw [← hs1]; simpa using hj)
    rw [lt_A] at this
    simp only [decide_eq_false_iff_not, Nat.not_lt] at this
    have e1 : d'[i]! = d'.toList[i] := by simp at hi ⊢; simp [hi]
    have e2 : d'[j]! = d'.toList[j] := by simp at hj ⊢; simp [hj]
    rw [e1, e2] at this
    exact this
  have hlen : L.length = d.length := by rw [hL']; simp [hs1]
  refine ⟨_, c, by rw [hlen], fun h0 => ⟨g, rfl, by omega, fun i y hy => ?_⟩⟩
  have hi : i < d'.size := by rw [hs1, ← hlen]; exact (List.getElem?_eq_some_iff.1 hy).1
  have hy' : y = pairA d'[i]! := by
    rw [hL'] at hy
    rw [List.getElem?_map, List.getElem?_eq_getElem (by simpa using hi)] at hy
    simp [hi] at hy ⊢
    exact hy.symm
  subst hy'
  obtain ⟨a0, -⟩ := hH.cell (i := i) (c := 0) hi (by decide)
  obtain ⟨a1, -⟩ := hH.cell (i := i) (c := 1) hi (by decide)
  obtain ⟨a2, -⟩ := hH.cell (i := i) (c := 2) hi (by decide)
  rw [Nat.zero_add] at a0 a1 a2
  exact ⟨a0, a1, a2⟩
end Go.Proofs.Ytmgocjclopfeeaa
