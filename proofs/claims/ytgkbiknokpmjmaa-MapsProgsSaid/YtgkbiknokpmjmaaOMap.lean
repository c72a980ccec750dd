/- Maps to whole numbers as plain functions of the key as it reads; laws at the operations; conditions at each. -/
import Derived.Maps.OwnSet
import Derived.Lib.SlKeysI
set_option linter.unusedVariables false
set_option linter.unusedSimpArgs false
namespace Go.Proofs.Ytgkbiknokpmjmaa
open Go.MapKept Go.Maps

/-- What a map tells at a key. -/
def mget (D : DataW Unit) (k : Lit) : Option Int := if has D k = true then (match D.atKey k (.lit (.int .i64 0)) with | .lit (.int _ c) => some c | _ => none) else none
open Classical in
/-- f with another value at a key. -/
noncomputable def upd (f : Lit → Option Int) (k : Lit) (v : Option Int) : Lit → Option Int := fun x => if x = k then v else f x
theorem upd_same (f : Lit → Option Int) (k : Lit) (v : Option Int) : upd f k v k = v := if_pos rfl
theorem upd_other (f : Lit → Option Int) {k x : Lit} (v : Option Int) (h : x ≠ k) : upd f k v x = f x := if_neg h
/-- Block b of w is a map of at most n entries, that tells f. -/
def MI (P : Program) (kt et : TypeId) (w : World) (b n : Nat) (f : Lit → Option Int) : Prop := ∃ D : DataW Unit, w.ownsMap P kt (plainElem P et) b n D ∧ ∀ k, mget D k = f k
section
variable {P : Program} {kt et t : TypeId} {w : World} {b n : Nat} {f : Lit → Option Int}
theorem mget_empty (k : Lit) : mget (.map []) k = none := by simp [mget, has]
theorem MI.made (w : World) (P : Program) (kt et : TypeId) : MI P kt et (w.alloc (.map #[] 0)) w.heap.size 0 fun _ => none :=
  ⟨.map [], World.ownsMap_made w P kt _, mget_empty⟩
theorem MI.lt (h : MI P kt et w b n f) : b < w.heap.size := by obtain ⟨D, h1, _⟩ := h; exact h1.lt
theorem MI.frame {w' : World} (h : MI P kt et w b n f) (hf : w'.heap[b]? = w.heap[b]?) : MI P kt et w' b n f := by
  obtain ⟨D, ⟨es, clk, hb, r⟩, h2⟩ := h
  exact ⟨D, ⟨es, clk, hf.trans hb, r⟩, h2⟩
theorem MI.mono {n' : Nat} (h : MI P kt et w b n f) (hn : n ≤ n') : MI P kt et w b n' f := by
  obtain ⟨D, h1, h2⟩ := h
  exact ⟨D, h1.mono hn, h2⟩
theorem MI.look (h : MI P kt et w b n f) (K : Keyed P kt) (ht : P.underlying t = some (.map kt et)) (he : P.underlying et = some (.int .i64)) (hz : (zeroValue et).run P w = .ok (.int .i64 0) w) {key : Value} {kl : Lit} (hkey : keyOf P kt key = some kl) :
    (Instr.lookup t (.map (some b)) key false).run P w = .ok (.int .i64 ((f kl).getD 0)) w ∧ (Instr.lookup t (.map (some b)) key true).run P w = .ok (.tuple #[.int .i64 ((f kl).getD 0), .bool (f kl).isSome]) w ∧ (Lit.int .i64 ((f kl).getD 0)).wf = true := by
  obtain ⟨D, h1, h2⟩ := h
  obtain ⟨c, r1, r2, r3⟩ := h1.lookup_int K ht he hz hkey
  obtain ⟨v, ps, q1, q2⟩ := h1.look_ok K ht hz (plainElem_int he (by decide)) hkey
  obtain ⟨c', rfl, q3, q4⟩ := plainElem_int_inv he q2
  simp only [Prod.mk.injEq] at q3
  have hc : c' = c := by have := q3.1.symm.trans r2; simpa using this
  subst hc
  have e : f kl = if has D kl = true then some c' else none := by
    rw [← h2]
    unfold mget
    rw [r2]
  by_cases hh : has D kl = true
  · rw [if_pos hh] at e
    rw [e]
    rw [hh] at q1
    exact ⟨r1, q1, r3⟩
  · rw [if_neg hh] at e
    have hh2 : has D kl = false := by simpa using hh
    have hz0 : c' = 0 := by
      have := atKey_of_not_has hh2 (.lit (.int .i64 0) : DataW Unit)
      rw [r2] at this
      simpa using this
    subst hz0
    rw [e]
    rw [hh2] at q1
    exact ⟨r1, q1, r3⟩
theorem MI.put {w' : World} {kl : Lit} {c : Int} {D : DataW Unit} (h2 : ∀ k, mget D k = f k) (hi : IsMap D) (hk : WideAt.IsKeyLit kl) : ∀ k, mget (D.put kl (.lit (.int .i64 c))) k = upd f kl (some c) k := by
  intro k
  by_cases e : k = kl
  · subst e
    rw [upd_same]
    unfold mget
    rw [has_put_same hi hk, atKey_put_same hi hk]
    rfl
  · rw [upd_other _ _ e, ← h2]
    unfold mget
    rw [has_put_other e, atKey_put_other e]
theorem MI.del {kl : Lit} {D : DataW Unit} (h2 : ∀ k, mget D k = f k) : ∀ k, mget (D.del kl) k = upd f kl none k := by
  intro k
  by_cases e : k = kl
  · subst e
    rw [upd_same]
    unfold mget
    rw [has_del_same]
    rfl
  · rw [upd_other _ _ e, ← h2]
    unfold mget
    rw [has_del_other e, atKey_del_other e]
theorem MI.store (h : MI P kt et w b n f) (K : Keyed P kt) (ht : P.underlying t = some (.map kt et)) (he : P.underlying et = some (.int .i64)) (hn : n < maxLen) {key : Value} {kl : Lit} {c : Int} (hkey : keyOf P kt key = some kl) (hc : (Lit.int .i64 c).wf = true) :
    ∃ w', (Instr.mapUpdate t (.map (some b)) key (.int .i64 c)).run P w = .ok () w' ∧ MI P kt et w' b (n + 1) (upd f kl (some c)) ∧ w.mapTurned w' b := by
  obtain ⟨D, h1, h2⟩ := h
  obtain ⟨w', q0, q1, q2⟩ := h1.store K ht hn hkey (plainElem_int he hc)
  exact ⟨w', q0, ⟨_, q1, MI.put (w' := w') h2 h1.isMap (K.key hkey)⟩, q2⟩
/-- The keys: those at which the map tells something. -/
theorem mem_keys {D : DataW Unit} (h : w.ownsMap P kt (plainElem P et) b n D) (K : Keyed P kt) (hk : P.underlying kt = some (.int .i64)) (ht : P.underlying t = some (.map kt et)) (he : P.underlying et = some (.int .i64)) (hz : (zeroValue et).run P w = .ok (.int .i64 0) w) (x : Int) : x ∈ intKeys D ↔ (mget D (.int .i64 x)).isSome = true := by
  obtain ⟨es, hD, hpw, hkl⟩ := h.entries K
  obtain ⟨es', hD', hko⟩ := h.keysOf
  obtain rfl : es = es' := by rw [hD] at hD'; simpa using hD'
  subst hD
  have hlit : ∀ p ∈ es, ∃ y, p.1 = .int .i64 y := fun p hp => by obtain ⟨v, hv⟩ := hko p hp; obtain ⟨y, _, hy, _⟩ := Maps.keyOf_i64 hk hv; exact ⟨y, hy⟩
  have hhas : has (.map es) (.int .i64 x) = true ↔ x ∈ intKeys (.map es) := by
    rw [has_eq, List.any_eq_true]
    constructor
    · rintro ⟨p, hp, hs⟩
      obtain ⟨y, hy⟩ := hlit p hp
      have e := WideAt.sameKey_eq hs
      rw [hy] at e
      simp only [Lit.int.injEq, true_and] at e
      subst e
      exact List.mem_map.2 ⟨p, hp, by rw [hy]; rfl⟩
    · intro hx
      obtain ⟨p, hp, e⟩ := List.mem_map.1 hx
      obtain ⟨y, hy⟩ := hlit p hp
      rw [hy] at e
      have e2 : y = x := e
      subst e2
      exact ⟨p, hp, by rw [hy]; exact WideAt.sameKey_self (by simp [WideAt.IsKeyLit])⟩
  rw [← hhas]
  unfold mget
  by_cases hh : has (.map es) (.int .i64 x) = true
  · rw [if_pos hh]
    obtain ⟨c, _, r2, _⟩ := h.lookup_int K ht he hz (keyOf_int_mk hk (intKeys_wf h hk x (hhas.1 hh)))
    rw [r2]
    exact ⟨fun _ => rfl, fun _ => hh⟩
  · rw [if_neg hh]
    exact ⟨fun e => absurd e hh, fun e => by simp at e⟩
end
section
variable {P : Program} {kt et : TypeId} (w : World) {ops : Array Oper} {rest : List Oper} {o : Oper} {a : Act} {Q : Exit → Act → World → Prop} {b n : Nat} {f : Lit → Option Int}
theorem wpList_store_MI (hg : o.guard = none) (m x v : Operand) (t : TypeId) (hop : o.op = Op.mapUpdate t m x v) (K : Keyed P kt) (ht : P.underlying t = some (.map kt et)) (he : P.underlying et = some (.int .i64)) (hown : MI P kt et w b n f) (hn : n < maxLen)
    (hm : a.eval m = .map (some b)) (key : Value) (kl : Lit) (c : Int) (hx : a.eval x = key) (hv : a.eval v = .int .i64 c) (hkey : keyOf P kt key = some kl) (hc : (Lit.int .i64 c).wf = true)
    (hK : ∀ w', MI P kt et w' b (n + 1) (upd f kl (some c)) → w.mapTurned w' b → wpList P ops Q rest (a.put o.dst undef) w') : wpList P ops Q (o :: rest) a w := by
  obtain ⟨D, h1, h2⟩ := hown
  exact wpList_mapUpdate_in w hg m x v t hop kt et K ht (plainElem P et) b n D hm h1 hn key _ kl hx hv hkey _ [] (plainElem_int he hc) fun w' q1 q2 => hK w' ⟨_, q1, MI.put (w' := w') h2 h1.isMap (K.key hkey)⟩ q2
theorem wpList_drop_MI (hg : o.guard = none) (m x : Operand) (t : TypeId) (hop : o.op = Op.call { callee := Callee.builtin Builtin.delete, args := #[m, x], argTypes := #[t, kt] }) (K : Keyed P kt) (ht : P.underlying t = some (.map kt et)) (hown : MI P kt et w b n f)
    (hm : a.eval m = .map (some b)) (key : Value) (kl : Lit) (hx : a.eval x = key) (hkey : keyOf P kt key = some kl)
    (hK : ∀ w', MI P kt et w' b n (upd f kl none) → w.mapTurned w' b → wpList P ops Q rest (a.put o.dst (.tuple #[])) w') : wpList P ops Q (o :: rest) a w := by
  obtain ⟨D, h1, h2⟩ := hown
  exact wpList_delete_own w hg m x t kt hop et K ht (plainElem P et) b n D hm h1 key kl hx hkey fun w' q1 q2 => hK w' ⟨_, q1, MI.del h2⟩ q2
end
end Go.Proofs.Ytgkbiknokpmjmaa
