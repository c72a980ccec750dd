/- Several texts of this claim in one: each is told where it begins. -/
import Derived.Test.YtmgocjclopfeeaaKData
import Derived.Test.YtmgocjclopfeeaaKWalk4
/- Plain laws on little-endian numbers and spliced lists; no conditions but bounds. -/
set_option linter.unusedVariables false
set_option linter.unusedSimpArgs false
namespace Go.Proofs.Ytmgocjclopfeeaa

theorem leNum_lt (l : List Nat) (h : ∀ x ∈ l, x < 256) : leNum l < 256 ^ l.length := by
  induction l with
  | nil => simp [leNum]
  | cons x l ih =>
    have h1 := ih (fun y hy => h y (List.mem_cons_of_mem _ hy))
    have h2 := h x (List.mem_cons_self)
    simp only [leNum, List.length_cons, Nat.pow_succ]
    omega
theorem length_leBytes (n k : Nat) : (leBytes n k).length = k := by
  induction k generalizing n with
  | zero => rfl
  | succ k ih => simp [leBytes, ih]
theorem leBytes_lt (n k : Nat) : ∀ x ∈ leBytes n k, x < 256 := by
  induction k generalizing n with
  | zero => simp [leBytes]
  | succ k ih =>
    intro x hx
    simp only [leBytes, List.mem_cons] at hx
    rcases hx with rfl | hx
    · omega
    · exact ih _ x hx
theorem getD_leBytes (n k i : Nat) (h : i < k) : (leBytes n k).getD i 0 = n / 256 ^ i % 256 := by
  induction k generalizing n i with
  | zero => omega
  | succ k ih =>
    cases i with
    | zero => simp [leBytes]
    | succ i =>
      simp only [leBytes, List.getD_cons_succ]
      rw [ih _ _ (by omega), Nat.div_div_eq_div_mul, Nat.pow_succ, Nat.mul_comm]
theorem length_splice (l : List Nat) (o : Nat) (s : List Nat) (h : o + s.length ≤ l.length) : (splice l o s).length = l.length := by
  simp [splice]; omega
theorem mem_splice {l : List Nat} {o : Nat} {s : List Nat} {x : Nat} (h : x ∈ splice l o s) : x ∈ l ∨ x ∈ s := by
  simp only [splice, List.mem_append] at h
  rcases h with (h | h) | h
  · exact .inl (List.mem_of_mem_take h)
  · exact .inr h
  · exact .inl (List.mem_of_mem_drop h)

/-- A string of bytes that are told as numbers. -/
def bstr (l : List Nat) : ByteArray := strOfNums (l.map fun (x : Nat) => (x : Int))
def nats (s : ByteArray) : List Nat := s.data.toList.map (·.toNat)
theorem nats_lt (s : ByteArray) : ∀ x ∈ nats s, x < 256 := by
  intro x hx
  obtain ⟨b, _, rfl⟩ := List.mem_map.1 hx
  exact b.toNat_lt
theorem length_nats (s : ByteArray) : (nats s).length = s.size := by simp [nats]
theorem getD_nats (s : ByteArray) (i : Nat) (h : i < s.size) : (nats s).getD i 0 = (s[i]'h).toNat := by
  have hd : i < s.data.toList.length := by simpa using h
  have : (nats s)[i]? = some ((s[i]'h).toNat) := by
    unfold nats
    rw [List.getElem?_map, List.getElem?_eq_getElem hd]
    rfl
  simp [List.getD_eq_getElem?_getD, this]
end Go.Proofs.Ytmgocjclopfeeaa

/- Contracts of kmem's functions Read, Bytes, Size: each answers as the plain data (KA) say; condition: the world holds the memory (KM). -/
set_option linter.unusedVariables false
set_option linter.unusedSimpArgs false
namespace Go.Proofs.Ytmgocjclopfeeaa
open Go.RowKit Go.MapKept
open Go.ChangeMaps (setBlock)

theorem span_err_of {c : KC} {a n p : Nat} {e : Int} (h : c.abs.span a n p = .error e) : kspan c a n p = .tuple #[.slice none 0 0, .int .i64 e] := by
  unfold kspan; rw [h]
theorem span_ok_of {w : World} {m : Nat} {c : KC} (h : KM w m c) {a n p : Nat} {q : RA} (hq : c.abs.span a n p = .ok q) :
    ∃ (j : Nat) (r : RC), c.cs[j]? = some r ∧ r.n = hi32 a ∧ r.a = q ∧ lo32 a + n ≤ q.bytes.length ∧ q.perm &&& p = p ∧ c.abs.get (hi32 a) = some q ∧ kspan c a n p = .tuple #[.slice (some ⟨r.d, if n = 0 then 0 else lo32 a, none⟩) n n, .int .i64 0] := by
  have hq0 := hq
  unfold KA.span at hq
  split at hq
  · cases hq
  · cases hg : c.abs.get (hi32 a) with
    | none => rw [hg] at hq; cases hq
    | some q' =>
      rw [hg] at hq
      simp only at hq
      split at hq
      · cases hq
      · split at hq
        · cases hq
        · cases hq
          rename_i _ h2 h3
          obtain ⟨j, r, hj, hn, ha⟩ := KC.get_some hg
          have hr := List.mem_of_getElem? hj
          refine ⟨j, r, hj, hn, ha, by omega, by simpa using h2, rfl, ?_⟩
          unfold kspan
          rw [hq0]
          have hf : c.cs.find? (fun r => r.n == hi32 a) = some r := by
            cases hf : c.cs.find? (fun r => r.n == hi32 a) with
            | none =>
              have := List.find?_eq_none.1 hf r hr
              simp [hn] at this
            | some q =>
              have hq1 := List.find?_some hf
              obtain ⟨i, hi, e2⟩ := List.getElem_of_mem (List.mem_of_find?_eq_some hf)
              have := h.keys.at_unique (entries_at (by rw [List.getElem?_eq_getElem hi, e2] : c.cs[i]? = some q)) (entries_at hj) (by simp only [RC.entry, Value.int.injEq, true_and]; simp at hq1; omega)
              subst this
              rw [List.getElem?_eq_getElem hi, e2] at hj
              exact hj
          simp only [hf]
theorem sizedB_pos {n : Int} (h : sizedB n = true) : 1 ≤ n ∧ n ≤ 8 := by
  simp only [sizedB, Bool.or_eq_true, beq_iff_eq] at h; omega
/-! ### Bytes -/
def strOf (l : List Nat) : Value := .string (bstr l)
theorem K.undString : Try.prog.underlying 9 = some .string := by kernel_rfl
theorem K.undU8 : Try.prog.underlying 5 = some (.int .u8) := by kernel_rfl
theorem run_bytes {w : World} {d o n cap : Nat} (l : List Nat) (hl : l.length = n) (hc : ∀ i, i < n → w.cell? ⟨d, o + i, none⟩ = some (.int .u8 (l.getD i 0 : Nat))) :
    (convert 39 9 (.slice (some ⟨d, o, none⟩) n cap)).run Try.prog w = .ok (.string (bstr l)) w :=
  run_convert_bytes_arg w _ _ K.undBytes K.undU8 d o n cap (l.map fun (x : Nat) => (x : Int)) (by simpa using hl) (fun i hi => by
    rw [hc i hi]
    simp [List.getD_eq_getElem?_getD, List.getElem?_eq_getElem (show i < l.length by omega)]) _ K.undString
/-! ### Size -/
end Go.Proofs.Ytmgocjclopfeeaa
