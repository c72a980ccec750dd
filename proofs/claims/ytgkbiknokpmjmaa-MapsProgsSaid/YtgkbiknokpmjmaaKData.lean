/- kmem's memory as plain data (KA), and how a world holds it (KM); conditions: none. -/
import Derived.Test.YtgkbiknokpmjmaaMapRaw
set_option linter.unusedVariables false
set_option linter.unusedSimpArgs false
namespace Go.Proofs.Ytgkbiknokpmjmaa
open Go.RowKit Go.MapKept
open Go.ChangeMaps (setBlock)

/-! ## Plain data -/
/-- A live region. -/
structure RA where
  bytes : List Nat
  perm : Nat
  ret : Bool
deriving DecidableEq
/-- A memory: how many regions were made, until which allocation one fails, the live ones by number. -/
structure KA where
  made : Nat
  til : Nat
  live : List (Nat × RA)
deriving DecidableEq

def hi32 (a : Nat) : Nat := a / 4294967296
def lo32 (a : Nat) : Nat := a % 4294967296
def KA.get (k : KA) (n : Nat) : Option RA := (k.live.find? (fun x => x.1 == n)).map (·.2)
def KA.upd (k : KA) (n : Nat) (f : RA → RA) : KA := { k with live := k.live.map fun x => if x.1 = n then (x.1, f x.2) else x }
def leNum : List Nat → Nat
  | [] => 0
  | b :: l => b + 256 * leNum l
def leBytes (n : Nat) : Nat → List Nat
  | 0 => []
  | k + 1 => n % 256 :: leBytes (n / 256) k
def splice (l : List Nat) (off : Nat) (s : List Nat) : List Nat := l.take off ++ s ++ l.drop (off + s.length)
def sizedB (n : Int) : Bool := n == 1 || n == 2 || n == 4 || n == 8

def KA.allocOk (s p : Int) (k : KA) : KA := ⟨k.made + 1, k.til - 1, k.live ++ [(k.made + 1, ⟨List.replicate s.toNat 0, p.toNat, false⟩)]⟩
def KA.alloc (s p : Int) (k : KA) : Nat × Int × KA :=
  if s < 1 ∨ 1048576 < s ∨ p < 1 ∨ 3 < p then (0, 1, k)
  else if k.til = 1 then (0, 2, { k with til := 0 })
  else if 4096 ≤ k.live.length then (0, 2, { k with til := k.til - 1 })
  else ((k.made + 1) * 4294967296, 0, k.allocOk s p)
def KA.first (k : KA) (a : Nat) : Option RA := if lo32 a = 0 then k.get (hi32 a) else none
def KA.free (a : Nat) (k : KA) : Int × KA :=
  match k.first a with
  | none => (1, k)
  | some _ => (0, { k with live := k.live.filter fun x => x.1 != hi32 a })
def KA.retire (a : Nat) (k : KA) : Int × KA :=
  match k.first a with
  | none => (1, k)
  | some r => if r.ret then (1, k) else (0, k.upd (hi32 a) fun r => { r with ret := true })
def KA.grace (k : KA) : KA := { k with live := k.live.filter fun x => !x.2.ret }
/-- What an address tells: a fault, or the region, in which n bytes lie from the offset on. -/
def KA.span (k : KA) (a : Nat) (n : Int) (perm : Nat) : Except Int RA :=
  if hi32 a = 0 ∨ k.made < hi32 a then .error 20 else
  match k.get (hi32 a) with
  | none => .error 21
  | some r => if r.perm &&& perm ≠ perm then .error 23 else if (r.bytes.length : Int) - n < lo32 a then .error 22 else .ok r
def KA.read (k : KA) (a : Nat) (n : Int) : Nat × Int :=
  if sizedB n then
    match k.span a n 1 with
    | .error e => (0, e)
    | .ok r => (leNum ((r.bytes.drop (lo32 a)).take n.toNat), 0)
  else (0, 1)
def KA.write (a : Nat) (n : Int) (u : Nat) (k : KA) : Int × KA :=
  if sizedB n then
    match k.span a n 2 with
    | .error e => (e, k)
    | .ok _ => (0, k.upd (hi32 a) fun r => { r with bytes := splice r.bytes (lo32 a) (leBytes u n.toNat) })
  else (1, k)
def KA.bytes (k : KA) (a : Nat) (n : Int) : List Nat × Int :=
  if n < 0 ∨ 1048576 < n then ([], 1) else
  match k.span a n 0 with
  | .error e => ([], e)
  | .ok r => ((r.bytes.drop (lo32 a)).take n.toNat, 0)
def KA.put (a : Nat) (s : List Nat) (k : KA) : Int × KA :=
  if 1048576 < s.length then (1, k) else
  match k.span a s.length 0 with
  | .error e => (e, k)
  | .ok _ => (0, k.upd (hi32 a) fun r => { r with bytes := splice r.bytes (lo32 a) s })
def KA.size (k : KA) (a : Nat) : Int × Int :=
  match k.span a 1 0 with
  | .error e => (0, e)
  | .ok r => (r.bytes.length, 0)
def KA.fail (n : Int) (k : KA) : Int × KA := if n < 0 ∨ 1048576 < n then (1, k) else (0, { k with til := n.toNat })

/-! ## In a world -/
/-- A live region and the blocks in which it lies. -/
structure RC where
  n : Nat
  b : Nat
  d : Nat
  born : Nat
  a : RA
deriving DecidableEq
def RC.entry (r : RC) : MapEntry := { key := .int .i64 r.n, val := .pointer (some ⟨r.b, 0, none⟩), born := r.born }
def RC.cells (r : RC) : Obj := .cells #[.slice (some ⟨r.d, 0, none⟩) r.a.bytes.length r.a.bytes.length, .int .i64 r.a.perm, .bool r.a.ret] 147 (0, 0)
def byteCells (l : List Nat) : Obj := .cells ((l.map fun (x : Nat) => Value.int .u8 x).toArray) 5 (0, 0)
structure KC where
  mb : Nat
  clk : Nat
  made : Nat
  til : Nat
  cs : List RC
def KC.abs (c : KC) : KA := ⟨c.made, c.til, c.cs.map fun r => (r.n, r.a)⟩
def KC.foot (m : Nat) (c : KC) : List Nat := m :: c.mb :: c.cs.flatMap fun r => [r.b, r.d]
def KC.entries (c : KC) : Array MapEntry := (c.cs.map RC.entry).toArray

structure KM (w : World) (m : Nat) (c : KC) : Prop where
  hm : w.heap[m]? = some (.cells #[.map (some c.mb), .int .i64 c.made, .int .i64 c.til] 57 (0, 0))
  hmb : w.heap[c.mb]? = some (.map c.entries c.clk)
  hb : ∀ r ∈ c.cs, w.heap[r.b]? = some r.cells
  hd : ∀ r ∈ c.cs, w.heap[r.d]? = some (byteCells r.a.bytes)
  nd : (c.foot m).Nodup
  nn : (c.cs.map (·.n)).Nodup
  bn : (c.cs.map (·.born)).Nodup
  bc : ∀ r ∈ c.cs, r.born < c.clk
  nb : ∀ r ∈ c.cs, 1 ≤ r.n ∧ r.n ≤ c.made
  by_ : ∀ r ∈ c.cs, ∀ x ∈ r.a.bytes, x < 256
  ln : ∀ r ∈ c.cs, 1 ≤ r.a.bytes.length ∧ r.a.bytes.length ≤ 1048576
  pm : ∀ r ∈ c.cs, 1 ≤ r.a.perm ∧ r.a.perm ≤ 3
  lv : c.cs.length ≤ 4096
  tl : c.til ≤ 1048576
  mx : c.made < 4294967296

/-- What a call of kmem leaves alone: all blocks but those of F; the new blocks are F'. -/
structure Fr (F F' : List Nat) (w w' : World) : Prop where
  os : w'.os = w.os
  tape : w'.tape = w.tape
  output : w'.output = w.output
  size : w.heap.size ≤ w'.heap.size
  block : ∀ k, k < w.heap.size → k ∉ F → w'.heap[k]? = w.heap[k]?
  foot : ∀ k ∈ F', k ∈ F ∨ w.heap.size ≤ k

theorem Fr.refl (F : List Nat) (w : World) : Fr F F w w := ⟨rfl, rfl, rfl, Nat.le_refl _, fun _ _ _ => rfl, fun _ h => .inl h⟩
theorem Fr.trans {F F1 F2 : List Nat} {w w1 w2 : World} (h : Fr F F1 w w1) (g : Fr F1 F2 w1 w2) : Fr F F2 w w2 where
  os := g.os.trans h.os
  tape := g.tape.trans h.tape
  output := g.output.trans h.output
  size := Nat.le_trans h.size g.size
  block k hk hn := by
    rw [g.block k (Nat.lt_of_lt_of_le hk h.size) (fun hf => by rcases h.foot k hf with h1 | h1; exact hn h1; omega), h.block k hk hn]
  foot k hk := by
    rcases g.foot k hk with h1 | h1
    · exact h.foot k h1
    · exact .inr (Nat.le_trans h.size h1)
theorem Fr.below {F F' : List Nat} {w w' : World} (h : Fr F F' w w') {B : Nat} (hB : B ≤ w.heap.size) (hF : ∀ k ∈ F, B ≤ k) : Below B w w' :=
  ⟨h.os, h.tape, h.output, h.size, fun k hk => h.block k (by omega) (fun hf => by have := hF k hf; omega)⟩
theorem Fr.from_ {F F' : List Nat} {w w' : World} (h : Fr F F' w w') {B : Nat} (hB : B ≤ w.heap.size) (hF : ∀ k ∈ F, B ≤ k) : ∀ k ∈ F', B ≤ k := fun k hk => by
  rcases h.foot k hk with h1 | h1
  · exact hF k h1
  · omega
theorem Fr.keep {F F' : List Nat} {w w' : World} (h : Fr F F' w w') {b : Nat} {o : Obj} (hb : w.heap[b]? = some o) (hn : b ∉ F) : w'.heap[b]? = some o := by
  rw [h.block b (lt_of_heap hb) hn]; exact hb
theorem Fr.notin {F F' : List Nat} {w w' : World} (h : Fr F F' w w') {b : Nat} (hb : b < w.heap.size) (hn : b ∉ F) : b ∉ F' := fun hf => by
  rcases h.foot b hf with h1 | h1
  · exact hn h1
  · omega

/-- What a call of kmem tells and leaves. -/
def KPost (m : Nat) (c : KC) (w : World) (v : Value) (k : KA) (e : Ending) (w' : World) : Prop := ∃ c', e = .returned v ∧ KM w' m c' ∧ c'.abs = k ∧ Fr (c.foot m) (c'.foot m) w w'
theorem KM.lt {w : World} {m : Nat} {c : KC} (h : KM w m c) : ∀ k ∈ c.foot m, k < w.heap.size := by
  intro k hk
  simp only [KC.foot, List.mem_cons, List.mem_flatMap, List.not_mem_nil, or_false] at hk
  rcases hk with rfl | rfl | ⟨r, hr, rfl | rfl⟩
  · exact lt_of_heap h.hm
  · exact lt_of_heap h.hmb
  · exact lt_of_heap (h.hb r hr)
  · exact lt_of_heap (h.hd r hr)
theorem KC.mem_m (m : Nat) (c : KC) : m ∈ c.foot m := by simp [KC.foot]
theorem KC.mem_mb (m : Nat) (c : KC) : c.mb ∈ c.foot m := by simp [KC.foot]
theorem KC.mem_b (m : Nat) {c : KC} {r : RC} (h : r ∈ c.cs) : r.b ∈ c.foot m := by
  simp only [KC.foot, List.mem_cons, List.mem_flatMap]; exact .inr (.inr ⟨r, h, by simp⟩)
theorem KC.mem_d (m : Nat) {c : KC} {r : RC} (h : r ∈ c.cs) : r.d ∈ c.foot m := by
  simp only [KC.foot, List.mem_cons, List.mem_flatMap]; exact .inr (.inr ⟨r, h, by simp⟩)
/-- The memory stays where its own blocks do. -/
theorem KM.frame {w w' : World} {m : Nat} {c : KC} (h : KM w m c) (hf : ∀ k ∈ c.foot m, w'.heap[k]? = w.heap[k]?) : KM w' m c :=
  { h with
    hm := by rw [hf _ (KC.mem_m m c)]; exact h.hm
    hmb := by rw [hf _ (KC.mem_mb m c)]; exact h.hmb
    hb := fun r hr => by rw [hf _ (KC.mem_b m hr)]; exact h.hb r hr
    hd := fun r hr => by rw [hf _ (KC.mem_d m hr)]; exact h.hd r hr }
theorem KM.alloc {w : World} {m : Nat} {c : KC} (h : KM w m c) (o : Obj) : KM (w.alloc o) m c :=
  h.frame fun k hk => Below.heap_alloc _ _ _ (h.lt k hk)
theorem KM.drew {w : World} {m : Nat} {c : KC} (h : KM w m c) : KM w.drew m c := h.frame fun _ _ => rfl
theorem KM.setCell {w : World} {m : Nat} {c : KC} (h : KM w m c) {a : Addr} (ha : a.block ∉ c.foot m) (v : Value) : KM (w.setCell a v) m c :=
  h.frame fun k hk => Below.heap_setCell _ _ _ _ (fun e => ha (e ▸ hk))
theorem KM.setBlock {w : World} {m : Nat} {c : KC} (h : KM w m c) {b : Nat} (ha : b ∉ c.foot m) (o : Obj) : KM (setBlock w b o) m c :=
  h.frame fun k hk => by
    have : b ≠ k := fun e => ha (e ▸ hk)
    simp [ChangeMaps.setBlock, Array.getElem?_setIfInBounds, this]

theorem KM.keys {w : World} {m : Nat} {c : KC} (h : KM w m c) : Keys (.int .i64) c.entries := by
  refine ⟨fun e he => ?_, ?_⟩
  · simp only [KC.entries, List.mem_map] at he
    obtain ⟨r, _, rfl⟩ := he
    rfl
  · simp only [KC.entries, List.pairwise_map]
    have := h.nn
    simp only [List.Nodup, List.pairwise_map] at this
    exact this.imp fun hne e => by
      simp only [RC.entry, Value.int.injEq] at e
      omega
theorem KC.get_none {c : KC} {n : Nat} : c.abs.get n = none ↔ ∀ r ∈ c.cs, r.n ≠ n := by
  simp only [KA.get, KC.abs, Option.map_eq_none_iff, List.find?_eq_none, List.mem_map, forall_exists_index, and_imp, forall_apply_eq_imp_iff₂, beq_iff_eq]
theorem KC.get_some {c : KC} {n : Nat} {a : RA} (h : c.abs.get n = some a) : ∃ (j : Nat) (r : RC), c.cs[j]? = some r ∧ r.n = n ∧ r.a = a := by
  simp only [KA.get, KC.abs, Option.map_eq_some_iff] at h
  obtain ⟨⟨x, y⟩, hx, rfl⟩ := h
  have h1 := List.find?_some hx
  have h2 := List.mem_of_find?_eq_some hx
  simp only [beq_iff_eq] at h1
  obtain ⟨r, hr, e⟩ := List.mem_map.1 h2
  simp only [Prod.mk.injEq] at e
  obtain ⟨j, hj, e2⟩ := List.getElem_of_mem hr
  exact ⟨j, r, by rw [List.getElem?_eq_getElem hj, e2], by rw [e.1]; exact h1, e.2⟩
theorem KM.get_of {w : World} {m : Nat} {c : KC} (h : KM w m c) {r : RC} (hr : r ∈ c.cs) : c.abs.get r.n = some r.a := by
  cases hg : c.abs.get r.n with
  | none => exact absurd rfl (KC.get_none.1 hg r hr)
  | some a =>
    obtain ⟨j, r', hj, hn, rfl⟩ := KC.get_some hg
    obtain ⟨i, hi, e2⟩ := List.getElem_of_mem hr
    obtain ⟨hj1, hj2⟩ := List.getElem?_eq_some_iff.1 hj
    have : i = j := by
      have hp : c.cs.Pairwise (fun x y => x.n ≠ y.n) := by simpa [List.Nodup, List.pairwise_map] using h.nn
      have hp := List.pairwise_iff_getElem.1 hp
      rcases Nat.lt_trichotomy i j with hl | hl | hl
      · exact absurd (by rw [e2, hj2]; exact hn.symm) (hp i j hi hj1 hl)
      · exact hl
      · exact absurd (by rw [e2, hj2]; exact hn) (hp j i hj1 hi hl)
    subst this
    rw [← e2, hj2]
theorem entries_at {c : KC} {j : Nat} {r : RC} (h : c.cs[j]? = some r) : c.entries.toList[j]? = some r.entry := by
  simp [KC.entries, h]
/-- A live region's pieces. -/
theorem RC.reads {w : World} {r : RC} (hb : w.heap[r.b]? = some r.cells) :
    w.cell? ⟨r.b, 0, none⟩ = some (.slice (some ⟨r.d, 0, none⟩) r.a.bytes.length r.a.bytes.length) ∧ w.cell? ⟨r.b, 1, none⟩ = some (.int .i64 r.a.perm) ∧ w.cell? ⟨r.b, 2, none⟩ = some (.bool r.a.ret) ∧
    w.frozen? ⟨r.b, 0, none⟩ = false ∧ w.frozen? ⟨r.b, 1, none⟩ = false ∧ w.frozen? ⟨r.b, 2, none⟩ = false := by
  simp [World.cell?, World.frozen?, hb, RC.cells]
theorem byte_reads {w : World} {d : Nat} {l : List Nat} (hd : w.heap[d]? = some (byteCells l)) (i : Nat) (hi : i < l.length) :
    w.cell? ⟨d, i, none⟩ = some (.int .u8 (l.getD i 0 : Nat)) := by
  simp [World.cell?, hd, byteCells, hi]
theorem byte_free {w : World} {d : Nat} {l : List Nat} (hd : w.heap[d]? = some (byteCells l)) (i : Nat) :
    w.frozen? ⟨d, i, none⟩ = false := by
  simp [World.frozen?, hd, byteCells]
end Go.Proofs.Ytgkbiknokpmjmaa
