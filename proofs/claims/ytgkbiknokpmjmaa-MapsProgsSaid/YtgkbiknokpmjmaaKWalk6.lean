/- Contracts of kmem's functions Write, Put: each answers as the plain data (KA) say; condition: the world holds the memory (KM). -/
import Derived.Test.YtgkbiknokpmjmaaKWalk5
set_option linter.unusedVariables false
set_option linter.unusedSimpArgs false
namespace Go.Proofs.Ytgkbiknokpmjmaa
open Go.RowKit Go.MapKept
open Go.ChangeMaps (setBlock)

/-- One block is another, no other is. -/
structure Only (d : Nat) (w w' : World) : Prop where
  os : w'.os = w.os
  tape : w'.tape = w.tape
  output : w'.output = w.output
  size : w'.heap.size = w.heap.size
  block : ∀ k, k ≠ d → w'.heap[k]? = w.heap[k]?
theorem Only.refl (d : Nat) (w : World) : Only d w w := ⟨rfl, rfl, rfl, rfl, fun _ _ => rfl⟩
theorem Only.setCell {d : Nat} {w w' : World} (h : Only d w w') (i : Nat) (v : Value) : Only d w (w'.setCell ⟨d, i, none⟩ v) :=
  ⟨h.os, h.tape, h.output, by simp [h.size], fun k hk => by rw [Below.heap_setCell _ _ _ _ hk, h.block k hk]⟩
theorem Only.drew {d : Nat} {w w' : World} (h : Only d w w') : Only d w w'.drew := ⟨h.os, h.tape, h.output, h.size, h.block⟩
theorem Only.trans {d : Nat} {w w1 w2 : World} (h : Only d w w1) (g : Only d w1 w2) : Only d w w2 :=
  ⟨g.os.trans h.os, g.tape.trans h.tape, g.output.trans h.output, g.size.trans h.size, fun k hk => (g.block k hk).trans (h.block k hk)⟩
theorem Only.fr {d : Nat} {w w' : World} (h : Only d w w') {F : List Nat} (hd : d ∈ F) : Fr F F w w' :=
  ⟨h.os, h.tape, h.output, by rw [h.size]; exact Nat.le_refl _, fun k _ hn => h.block k (fun e => hn (e ▸ hd)), fun k hk => .inl hk⟩

theorem set_splice (l : List Nat) (o k x : Nat) (s : List Nat) (hs : s.length = k) (h : o + k < l.length) : (splice l o s).set (o + k) x = splice l o (s ++ [x]) := by
  subst hs
  unfold splice
  have e1 : (l.take o).length = o := by rw [List.length_take]; omega
  rw [List.append_assoc, List.append_assoc, List.set_append_right _ _ (by omega), e1, show o + s.length - o = s.length by omega, List.append_assoc, List.set_append_right _ _ (Nat.le_refl _), Nat.sub_self]
  rw [show o + (s ++ [x]).length = o + s.length + 1 by simp; omega]
  rw [List.drop_eq_getElem_cons h, List.set_cons_zero]
  simp only [List.append_assoc, List.cons_append, List.nil_append]
theorem byteCells_set {l : List Nat} {i x : Nat} : (Obj.cells (((l.map fun (x : Nat) => Value.int .u8 x).toArray).setIfInBounds i (.int .u8 x)) 5 (0, 0)) = byteCells (l.set i x) := by
  simp [byteCells, List.map_set]
theorem heap_store_byte {w : World} {d i x : Nat} {l : List Nat} (h : w.heap[d]? = some (byteCells l)) : (w.setCell ⟨d, i, none⟩ (.int .u8 x)).heap[d]? = some (byteCells (l.set i x)) := by
  rw [heap_setCell_same (c := (l.map fun (x : Nat) => Value.int .u8 x).toArray) (t := 5) (f := (0, 0)) h, byteCells_set]

theorem shr_byte (u k : Nat) : (u : Int) / 2 ^ (8 * k) % 256 = ((u / 256 ^ k % 256 : Nat) : Int) := by
  have e256 : (256 : Nat) ^ k = 2 ^ (8 * k) := by rw [Nat.pow_mul]
  rw [e256, show ((2 : Int) ^ (8 * k)) = ((2 ^ (8 * k) : Nat) : Int) by simp]
  omega
theorem KM.splice {w w' : World} {m : Nat} {c : KC} (h : KM w m c) {j : Nat} {r : RC} (hj : c.cs[j]? = some r) {o : Nat} {s : List Nat} (hl : o + s.length ≤ r.a.bytes.length) (hs : ∀ x ∈ s, x < 256)
    (ho : Only r.d w w') (hh : w'.heap[r.d]? = some (byteCells (splice r.a.bytes o s))) : KM w' m (c.put j r { r.a with bytes := splice r.a.bytes o s }) := by
  have hr := List.mem_of_getElem? hj
  have hb : w'.heap[r.b]? = some ({ r with a := { r.a with bytes := Go.Proofs.Ytgkbiknokpmjmaa.splice r.a.bytes o s } } : RC).cells := by
    rw [ho.block _ (h.apart hj).1, h.hb r hr]
    simp only [RC.cells, length_splice _ _ _ hl]
  exact h.put hj _ (fun x hx => (mem_splice hx).elim (h.by_ r hr x) (hs x)) (by rw [length_splice _ _ _ hl]; exact h.ln r hr) (h.pm r hr) hb hh (fun k _ _ hk => ho.block k hk)

/-! ### Put -/
theorem K.infoU8 : (Try.prog.info? 5).map (·.size) = some 1 := by kernel_rfl
theorem splice_cons (l : List Nat) (o x : Nat) (s : List Nat) (h : o < l.length) : splice (l.set o x) (o + 1) s = splice l o (x :: s) := by
  simp only [splice, List.length_cons]
  rw [List.take_succ_eq_append_getElem (by simpa using h), List.take_set_of_le (Nat.le_refl _), List.getElem_set_self, List.drop_set_of_lt (by omega), show o + 1 + s.length = o + (s.length + 1) by omega]
  simp
theorem run_storeCells_bytes {P : Program} {d o : Nat} : ∀ (s : List Nat) (i : Nat) (l : List Nat) (w : World), w.heap[d]? = some (byteCells l) → o + i + s.length ≤ l.length →
    ∃ w', (storeCells ⟨d, o, none⟩ (s.map fun (x : Nat) => Value.int .u8 x) i).run P w = .ok () w' ∧ Only d w w' ∧ w'.heap[d]? = some (byteCells (splice l (o + i) s))
  | [], i, l, w, hd, _ => ⟨w, by simp [storeCells, Sem.run], Only.refl _ _, by rw [hd]; simp [splice]⟩
  | x :: s, i, l, w, hd, hl => by
    simp only [List.length_cons] at hl
    have hadd : (⟨d, o, none⟩ : Addr).add i = ⟨d, o + i, none⟩ := by unfold Addr.add; split <;> simp_all
    have hc := byte_reads (l := l) hd (o + i) (by omega)
    have hf := byte_free hd (o + i)
    obtain ⟨w', hrun, ho, hh⟩ := run_storeCells_bytes (P := P) (o := o) s (i + 1) (l.set (o + i) x) (w.setCell ⟨d, o + i, none⟩ (.int .u8 x)) (heap_store_byte hd) (by rw [List.length_set]; omega)
    refine ⟨w', ?_, ((Only.refl d w).setCell _ _).trans ho, ?_⟩
    · simp only [List.map_cons, storeCells, hadd, Sem.run_bind, store, Sem.run, hc, hf, Bool.false_eq_true, if_false, Result.andThen]
      exact hrun
    · rw [hh]
      congr 2
      exact splice_cons l (o + i) x s (by omega)
theorem run_copy_bytes {w : World} {d o : Nat} {l : List Nat} (hd : w.heap[d]? = some (byteCells l)) (s : ByteArray) (hl : o + s.size ≤ l.length) (ty : TypeId) :
    ∃ w', (Builtin.copy_ #[70, 9] ty #[.slice (some ⟨d, o, none⟩) s.size s.size, .string s]).run Try.prog w = .ok (.int .i64 s.size) w' ∧ Only d w w' ∧ w'.heap[d]? = some (byteCells (splice l o (nats s))) := by
  obtain ⟨w', h1, h2, h3⟩ := run_storeCells_bytes (P := Try.prog) (o := o) (nats s) 0 l w hd (by rw [length_nats]; omega)
  refine ⟨w', ?_, h2, h3⟩
  obtain ⟨i0, hi, hz⟩ := Option.map_eq_some_iff.1 K.infoU8
  have hcells : List.take s.size (List.map (fun b : UInt8 => Value.int IntKind.u8 (b.toNat : Int)) s.data.toList) = (nats s).map fun (x : Nat) => Value.int .u8 x := by
    rw [List.take_of_length_le (by simp)]
    simp [nats, Function.comp_def]
  simp [Builtin.copy_, run_underlying K.undBytes, Builtin.lenOf, Builtin.firstCells, sizeOf, typeInfo, hi, Sem.run, Result.andThen, goInt, hcells, h1]

set_option maxRecDepth 100000 in
theorem put_arg (x : Int) (s : ByteArray) (m : Nat) (w : World) (hn : 1048576 < s.size) :
    Calls Try.prog 60 #[.pointer (some ⟨m, 0, none⟩), .int .u64 x, .string s] w fun e w' => e = .returned (.int .i64 1) ∧ w = w' := by
  have hn' : (1048576 : Int) < s.size := by omega
  go_enter Try.func60, Try.ntmps60
  go_wp2
  go_ret
  exact ⟨rfl, rfl⟩
set_option maxRecDepth 100000 in
theorem put_go (a e0 : Int) (s : ByteArray) (v u : Value) (m : Nat) (w w1 : World) (hn : ¬ 1048576 < s.size)
    (hs : Calls Try.prog 80 #[.pointer (some ⟨m, 0, none⟩), .int .u64 a, .int .i64 s.size, .int .i64 0] w fun e w' => e = .returned (.tuple #[v, .int .i64 e0]) ∧ w = w')
    (hc : (Builtin.copy_ #[70, 9] 3 #[v, .string s]).run Try.prog w = .ok u w1) :
    Calls Try.prog 60 #[.pointer (some ⟨m, 0, none⟩), .int .u64 a, .string s] w fun e w' => e = .returned (.int .i64 e0) ∧ w1 = w' := by
  have HS := hide hs
  clear hs
  have hn' : ¬ (1048576 : Int) < s.size := by omega
  clear hn
  go_enter Try.func60, Try.ntmps60
  go_wp2_with (go_at_call 80; refine HS.out.mono ?_; rintro e w' ⟨rfl, rfl⟩)
  go_ret
  exact ⟨rfl, rfl⟩
theorem run_copy_nil_bytes (w : World) (s : ByteArray) (ty : TypeId) : (Builtin.copy_ #[70, 9] ty #[.slice none 0 0, .string s]).run Try.prog w = .ok (.int .i64 0) w := by
  obtain ⟨i0, hi, hz⟩ := Option.map_eq_some_iff.1 K.infoU8
  simp [Builtin.copy_, run_underlying K.undBytes, Builtin.lenOf, Builtin.firstCells, sizeOf, typeInfo, hi, Sem.run, Result.andThen, goInt]
/-- Put answers as the plain data say. -/
theorem put_calls (a : Nat) (s : ByteArray) (m : Nat) (c : KC) (w : World) (h : KM w m c) (h1 : a < 18446744073709551616) :
    Calls Try.prog 60 #[.pointer (some ⟨m, 0, none⟩), .int .u64 a, .string s] w (KPost m c w (.int .i64 (c.abs.put a (nats s)).1) (c.abs.put a (nats s)).2) := by
  unfold KA.put
  rw [length_nats]
  by_cases hn : 1048576 < s.size
  · rw [if_pos hn]
    exact (put_arg a s m w hn).mono fun e w' ⟨he, hw⟩ => ⟨c, he, hw ▸ h, rfl, hw ▸ Fr.refl _ _⟩
  rw [if_neg hn]
  have hsp := span_calls a s.size 0 m c w h h1 (by omega) (by omega)
  cases hq : c.abs.span a s.size 0 with
  | error e =>
    rw [span_err_of hq] at hsp
    exact (put_go a e s _ _ m w w hn hsp (run_copy_nil_bytes w s _)).mono fun e w' ⟨he, hw⟩ => ⟨c, he, hw ▸ h, rfl, hw ▸ Fr.refl _ _⟩
  | ok q =>
    obtain ⟨j, r, hj, hn2, rfl, hlen, _, _, hv⟩ := span_ok_of h hq
    rw [hv] at hsp
    have hr := List.mem_of_getElem? hj
    by_cases hz : s.size = 0
    · rw [if_pos hz] at hsp
      obtain ⟨w1, hc, ho, hh⟩ := run_copy_bytes (o := 0) (h.hd r hr) s (by omega) 3
      have hnil : nats s = [] := by rw [← List.length_eq_zero_iff, length_nats]; exact hz
      have e1 : splice r.a.bytes 0 (nats s) = splice r.a.bytes (lo32 a) (nats s) := by rw [hnil]; simp [splice]
      rw [e1] at hh
      refine (put_go a 0 s _ _ m w w1 hn hsp hc).mono fun e w' ⟨he, hw⟩ => ?_
      subst hw
      refine ⟨c.put j r { r.a with bytes := splice r.a.bytes (lo32 a) (nats s) }, he, h.splice hj (by rw [length_nats]; exact hlen) (nats_lt s) ho hh, abs_put h.nn hj hn2 (f := fun r => { r with bytes := splice r.bytes (lo32 a) (nats s) }) rfl, ?_⟩
      rw [foot_put m hj]
      exact ho.fr (KC.mem_d m hr)
    · rw [if_neg hz] at hsp
      obtain ⟨w1, hc, ho, hh⟩ := run_copy_bytes (o := lo32 a) (h.hd r hr) s hlen 3
      refine (put_go a 0 s _ _ m w w1 hn hsp hc).mono fun e w' ⟨he, hw⟩ => ?_
      subst hw
      refine ⟨c.put j r { r.a with bytes := splice r.a.bytes (lo32 a) (nats s) }, he, h.splice hj (by rw [length_nats]; exact hlen) (nats_lt s) ho hh, abs_put h.nn hj hn2 (f := fun r => { r with bytes := splice r.bytes (lo32 a) (nats s) }) rfl, ?_⟩
      rw [foot_put m hj]
      exact ho.fr (KC.mem_d m hr)
end Go.Proofs.Ytgkbiknokpmjmaa
