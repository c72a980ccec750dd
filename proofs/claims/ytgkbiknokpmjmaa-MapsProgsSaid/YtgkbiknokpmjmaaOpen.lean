/- What a law's walk is told of its arguments: numbers, strings, slices of numbers, structs of plain fields, slices of these; no condition. -/
import Derived.Deep.Slices
import Derived.Deep.Fields
import Derived.ChangeSame
import Derived.ProofKit
import Derived.OpenShut
set_option linter.unusedVariables false
set_option linter.unusedSimpArgs false
namespace Go.Proofs.Ytgkbiknokpmjmaa
open Go.ChangeShapes Go.WideShapes Go.ChangeAt Go.RowKit Go.Deep

/-- A plain field's kind. -/
inductive FK where
  | int (k : IntKind)
  | str
  | bool
def FK.fits : FK → Value → Prop
  | .int k, v => ∃ n, v = .int k n ∧ (Lit.int k n).wf = true
  | .str, v => ∃ s : ByteArray, v = .string s ∧ s.size ≤ maxLen
  | .bool, v => ∃ b, v = .bool b
def FK.desc : FK → TypeDesc → Prop
  | .int k, d => d = .int k
  | .str, d => d = .string
  | .bool, d => d = .bool
section
variable {H : Type} {enc : TypeId × Value → H} {P : Program} {w : World} {base : Nat} {spare : Nat → Bool} {held : Bool}
theorem FK.of_trod {k : FK} {t : TypeId} {d : TypeDesc} (ht : P.underlying t = some d) (hd : k.desc d) {n : Nat} {v : Value} {y : DataW H × List MemPlace} (h : DataW.trod enc P w base spare held n t [v] = some y) : k.fits v := by
  cases k with
  | int k =>
    obtain ⟨a, ha, -, hw⟩ := DataW.trod_int (by rw [ht]; exact congrArg some hd) h
    exact ⟨a, by simpa using ha, hw⟩
  | str =>
    obtain ⟨a, ha, -, hw⟩ := DataW.trod_string (by rw [ht]; exact congrArg some hd) h
    exact ⟨a, by simpa using ha, hw⟩
  | bool =>
    obtain ⟨a, ha, -⟩ := DataW.trod_bool (by rw [ht]; exact congrArg some hd) h
    exact ⟨a, by simpa using ha⟩
theorem one_cell {fs : Array Field} (hone : oneCellFields P fs = true) {cs : List Value} {n : Nat} {ys : List (DataW H × List MemPlace)} (hcl : cs.length = fs.size) (hyl : ys.length = fs.size)
    (hf : ∀ (i : Nat) (f : Field), fs[i]? = some f → DataW.trod enc P w base spare held n f.type ((cs.drop f.offset).take (P.cellsOf f.type)) = ys[i]?) (j : Nat) (f : Field) (hj : fs[j]? = some f) :
    ∃ c y, cs[j]? = some c ∧ DataW.trod enc P w base spare held n f.type [c] = some y := by
  obtain ⟨ho, hk⟩ := hone_of hone j f hj
  have hlt : j < fs.size := (Array.getElem?_eq_some_iff.1 hj).1
  have h1 := hf j f hj
  rw [ho, hk, List.drop_eq_getElem_cons (by omega)] at h1
  refine ⟨cs[j]'(by omega), ys[j]'(by omega), List.getElem?_eq_getElem (by omega), ?_⟩
  rw [← List.getElem?_eq_getElem (by omega), ← h1]
  rfl
/-- A struct by value. -/
theorem open_struct {r : Reach} {b0 : Nat} {t : TypeId} {fs : Array Field} {v : Value} {d : DataW H} {p : List MemPlace} (hs : P.underlying t = some (.struct fs)) (hone : oneCellFields P fs = true) (hC : P.cellsOf t = fs.size)
    (hv : Value.okWide P w r b0 t v) (h : DataW.Trod enc P w base spare held t v d p) (ks : List FK) (hks : ∀ (j : Nat) (f : Field) (k : FK), fs[j]? = some f → ks[j]? = some k → ∃ d, P.underlying f.type = some d ∧ k.desc d) :
    ∃ cs : List Value, v = .agg cs.toArray ∧ cs.length = fs.size ∧ ∀ (j : Nat) (f : Field) (k : FK), fs[j]? = some f → ks[j]? = some k → ∃ c, cs[j]? = some c ∧ k.fits c := by
  obtain ⟨cs, rfl, hsz⟩ := okWide_struct hs hv
  obtain ⟨l⟩ := cs
  have hl : l.length = fs.size := by simpa using hsz.trans hC
  refine ⟨l, rfl, hl, fun j f k hj hk => ?_⟩
  obtain ⟨fuel, hf⟩ := h
  obtain ⟨ys, n, _, _, _, hyl, hg⟩ := DataW.trod_struct hs hf
  obtain ⟨c, y, hc, hy⟩ := one_cell hone (by simpa [Value.cells] using hl) hyl hg j f hj
  obtain ⟨dd, h1, h2⟩ := hks j f k hj hk
  exact ⟨c, hc, FK.of_trod h1 h2 hy⟩
theorem mapM_at {α β : Type} {f : α → Option β} : ∀ {L : List α} {xs : List β}, L.mapM f = some xs → ∀ (j : Nat) (a : α), L[j]? = some a → ∃ y, f a = some y
  | [], xs, h, j, a, hj => by simp at hj
  | b :: L, xs, h, j, a, hj => by
    rw [List.mapM_cons] at h
    simp only [bind, Option.bind_eq_some_iff, pure, Option.some.injEq] at h
    obtain ⟨y, hy, ys, hys, rfl⟩ := h
    cases j with
    | zero => simp at hj; subst hj; exact ⟨y, hy⟩
    | succ j => exact mapM_at hys j a (by simpa using hj)
/-- An array of whole numbers by value. -/
theorem open_array {r : Reach} {b0 : Nat} {t e : TypeId} {n : Nat} {q : IntKind} {v : Value} {d : DataW H} {p : List MemPlace} (hs : P.underlying t = some (.array n e)) (he : P.underlying e = some (.int q)) (hE : P.cellsOf e = 1) (hC : P.cellsOf t = n)
    (hv : Value.okWide P w r b0 t v) (h : DataW.Trod enc P w base spare held t v d p) :
    ∃ cs : List Value, v = .agg cs.toArray ∧ cs.length = n ∧ ∀ j, j < n → ∃ c, cs[j]? = some c ∧ (FK.int q).fits c := by
  simp only [Value.okWide, hs] at hv
  obtain ⟨cs, rfl, h2, _⟩ := hv
  obtain ⟨l⟩ := cs
  have hl : l.length = n := by simpa using h2.trans hC
  refine ⟨l, rfl, hl, fun j hj => ?_⟩
  obtain ⟨fuel, hf⟩ := h
  cases fuel with
  | zero => simp [DataW.trod] at hf
  | succ m =>
    rw [DataW.trod_step] at hf
    unfold DataW.trodStep at hf
    simp only [hs, Value.cells] at hf
    rw [if_pos (by rw [hC]; simpa using hl)] at hf
    simp only [Option.map_eq_some_iff] at hf
    obtain ⟨ys, hy, _⟩ := hf
    obtain ⟨y, hy2⟩ := mapM_at hy j j (by simp [hj])
    rw [hE, Nat.mul_one, List.drop_eq_getElem_cons (by omega)] at hy2
    exact ⟨l[j]'(by omega), List.getElem?_eq_getElem (by omega), FK.of_trod (k := FK.int q) he rfl hy2⟩
/-- A slice of structs of plain fields that came in. -/
def RowF (w : World) (a : Option Addr) (len cap : Nat) (ks : List FK) : Prop :=
  len = 0 ∨
  ∃ b o, a = some ⟨b, o, none⟩ ∧ len ≤ cap ∧ cap ≤ maxLen ∧ ∀ i, i < len → ∀ (j : Nat) (k : FK), ks[j]? = some k → ∃ v, w.cell? ⟨b, o + (i * ks.length + j), none⟩ = some v ∧ k.fits v
theorem addr_add (b o n : Nat) : (⟨b, o, none⟩ : Addr).add n = ⟨b, o + n, none⟩ := by unfold Addr.add; split <;> simp_all
theorem open_structs {t e : TypeId} {fs : Array Field} {a : Option Addr} {len cap : Nat} {d : DataW H} {p : List MemPlace} (ht : P.underlying t = some (.slice e)) (he : P.underlying e = some (.struct fs))
    (hone : oneCellFields P fs = true) (hC : P.cellsOf e = fs.size) (h : DataW.Trod enc P w base spare held t (.slice a len cap) d p) (ks : List FK) (hlen : ks.length = fs.size) (hpos : 0 < ks.length)
    (hks : ∀ (j : Nat) (f : Field) (k : FK), fs[j]? = some f → ks[j]? = some k → ∃ d, P.underlying f.type = some d ∧ k.desc d) : RowF w a len cap ks := by
  obtain ⟨fuel, hf⟩ := h
  rcases open_slice ht hf with ⟨h0, _⟩ | ⟨x, l, c, m, n, D, Pl, hcs, hb, hl, hm, hmm, hx, hi⟩
  · simp [Value.cells] at h0
    exact .inl h0.2.1
  · simp [Value.cells] at hcs
    obtain ⟨rfl, rfl, rfl⟩ := hcs
    have hml : len ≤ m := by rw [hmm]; split <;> omega
    by_cases hz : len = 0
    · exact .inl hz
    · right
      have cellAt : ∀ i, i < len → ∀ (j : Nat) (k : FK), ks[j]? = some k → ∃ v, w.cell? ((x.add (i * P.cellsOf e)).add j) = some v ∧ k.fits v := by
        intro i hi' j k hk
        obtain ⟨cs', hc, ht'⟩ := hi i (by omega)
        obtain ⟨ys, n', _, _, _, hyl, hg⟩ := DataW.trod_struct he ht'
        obtain ⟨_, hcl, hat⟩ := World.cells?_some hc
        have hjl : j < fs.size := by
          have := (List.getElem?_eq_some_iff.1 hk).1
          omega
        have hjf : fs[j]? = some (fs[j]'hjl) := Array.getElem?_eq_getElem hjl
        obtain ⟨c, y, hcc, hy⟩ := one_cell hone (by rw [hcl, hC]) hyl hg j _ hjf
        obtain ⟨dd, h1, h2⟩ := hks j _ k hjf hk
        exact ⟨c, by rw [hat j (by omega)]; exact hcc, FK.of_trod h1 h2 hy⟩
      obtain ⟨b, o, sp⟩ := x
      have hsp : sp = none := by
        obtain ⟨v, hv, _⟩ := cellAt 0 (by omega) 0 (ks[0]'hpos) (List.getElem?_eq_getElem hpos)
        simpa [Addr.add] using World.cell?_spot hv
      subst hsp
      refine ⟨b, o, rfl, hl, hm, fun i hi' j k hk => ?_⟩
      obtain ⟨v, hv, hf⟩ := cellAt i hi' j k hk
      refine ⟨v, ?_, hf⟩
      rw [addr_add, addr_add, hC, ← hlen, Nat.add_assoc] at hv
      exact hv
/-- A slice of integers that came in. -/
def RowI (k : IntKind) (w : World) (a : Option Addr) (len cap : Nat) (zs : List Int) : Prop :=
  (a = none ∧ len = 0 ∧ cap = 0 ∧ zs = []) ∨
  ∃ x, a = some x ∧ len ≤ cap ∧ cap ≤ maxLen ∧ zs.length = cap ∧ (∀ i, i < zs.length → w.cell? (x.add i) = some (.int k (zs.getD i 0))) ∧ ∀ n ∈ zs, (Lit.int k n).wf = true

theorem open_rowi {t e : TypeId} {k : IntKind} {a : Option Addr} {len cap : Nat} {d : DataW H} {p : List MemPlace} (ht : P.underlying t = some (.slice e)) (he : P.underlying e = some (.int k)) (hC : P.cellsOf e = 1)
    (h : DataW.Trod enc P w 0 (fun _ => true) held t (.slice a len cap) d p) : ∃ zs, RowI k w a len cap zs := by
  obtain ⟨fuel, hf⟩ := h
  rcases open_ints ht he hC hf with ⟨hcs, _⟩ | ⟨x, l, c, zs, hcs, _, hl, hm, hz, _, hcell, hwz⟩
  · simp [Value.cells] at hcs
    obtain ⟨rfl, rfl, rfl⟩ := hcs
    exact ⟨[], .inl ⟨rfl, rfl, rfl, rfl⟩⟩
  · simp [Value.cells] at hcs
    obtain ⟨rfl, rfl, rfl⟩ := hcs
    exact ⟨zs, .inr ⟨_, rfl, hl, hm, by simpa using hz, hcell, hwz⟩⟩
/-- A slice of strings that came in. -/
def RowStr (w : World) (a : Option Addr) (len cap : Nat) : Prop :=
  len = 0 ∨ ∃ b o, a = some ⟨b, o, none⟩ ∧ len ≤ cap ∧ cap ≤ maxLen ∧ ∀ i, i < len → ∃ s : ByteArray, w.cell? ⟨b, o + i, none⟩ = some (.string s) ∧ s.size ≤ maxLen
theorem open_strs {t e : TypeId} {a : Option Addr} {len cap : Nat} {d : DataW H} {p : List MemPlace} (ht : P.underlying t = some (.slice e)) (he : P.underlying e = some .string) (hC : P.cellsOf e = 1)
    (h : DataW.Trod enc P w base spare held t (.slice a len cap) d p) : RowStr w a len cap := by
  obtain ⟨fuel, hf⟩ := h
  rcases open_slice ht hf with ⟨h0, _⟩ | ⟨x, l, c, m, n, D, Pl, hcs, hb, hl, hm, hmm, hx, hi⟩
  · simp [Value.cells] at h0
    exact .inl h0.2.1
  · simp [Value.cells] at hcs
    obtain ⟨rfl, rfl, rfl⟩ := hcs
    have hml : len ≤ m := by rw [hmm]; split <;> omega
    by_cases hz : len = 0
    · exact .inl hz
    · right
      have cellAt : ∀ i, i < len → ∃ s : ByteArray, w.cell? (x.add i) = some (.string s) ∧ s.size ≤ maxLen := by
        intro i hi'
        obtain ⟨cs', hc, ht'⟩ := hi i (by omega)
        obtain ⟨s, hs, -, hsz⟩ := DataW.trod_string he ht'
        obtain ⟨_, hcl, hat⟩ := World.cells?_some hc
        rw [hC, Nat.mul_one] at hat
        have := hat 0 (by omega)
        rw [hs] at this
        refine ⟨s, ?_, hsz⟩
        have e0 : (x.add i).add 0 = x.add i := by simp [Addr.add]
        rw [e0] at this
        exact this
      obtain ⟨b, o, sp⟩ := x
      have hsp : sp = none := by
        obtain ⟨v, hv, _⟩ := cellAt 0 (by omega)
        simpa [Addr.add] using World.cell?_spot hv
      subst hsp
      refine ⟨b, o, rfl, hl, hm, fun i hi' => ?_⟩
      obtain ⟨s, hv, hsz⟩ := cellAt i hi'
      rw [addr_add] at hv
      exact ⟨s, hv, hsz⟩
end
theorem list_1 {α : Type} {l : List α} (h : l.length = 1) : ∃ c0, l = [c0] := by
  match l, h with
  | [c0], _ => exact ⟨c0, rfl⟩
theorem list_2 {α : Type} {l : List α} (h : l.length = 2) : ∃ c0 c1, l = [c0, c1] := by
  match l, h with
  | [c0, c1], _ => exact ⟨c0, c1, rfl⟩
theorem list_3 {α : Type} {l : List α} (h : l.length = 3) : ∃ c0 c1 c2, l = [c0, c1, c2] := by
  match l, h with
  | [c0, c1, c2], _ => exact ⟨c0, c1, c2, rfl⟩
theorem list_4 {α : Type} {l : List α} (h : l.length = 4) : ∃ c0 c1 c2 c3, l = [c0, c1, c2, c3] := by
  match l, h with
  | [c0, c1, c2, c3], _ => exact ⟨c0, c1, c2, c3, rfl⟩
theorem list_5 {α : Type} {l : List α} (h : l.length = 5) : ∃ c0 c1 c2 c3 c4, l = [c0, c1, c2, c3, c4] := by
  match l, h with
  | [c0, c1, c2, c3, c4], _ => exact ⟨c0, c1, c2, c3, c4, rfl⟩
theorem list_6 {α : Type} {l : List α} (h : l.length = 6) : ∃ c0 c1 c2 c3 c4 c5, l = [c0, c1, c2, c3, c4, c5] := by
  match l, h with
  | [c0, c1, c2, c3, c4, c5], _ => exact ⟨c0, c1, c2, c3, c4, c5, rfl⟩
theorem list_7 {α : Type} {l : List α} (h : l.length = 7) : ∃ c0 c1 c2 c3 c4 c5 c6, l = [c0, c1, c2, c3, c4, c5, c6] := by
  match l, h with
  | [c0, c1, c2, c3, c4, c5, c6], _ => exact ⟨c0, c1, c2, c3, c4, c5, c6, rfl⟩
theorem list_8 {α : Type} {l : List α} (h : l.length = 8) : ∃ c0 c1 c2 c3 c4 c5 c6 c7, l = [c0, c1, c2, c3, c4, c5, c6, c7] := by
  match l, h with
  | [c0, c1, c2, c3, c4, c5, c6, c7], _ => exact ⟨c0, c1, c2, c3, c4, c5, c6, c7, rfl⟩
end Go.Proofs.Ytgkbiknokpmjmaa
