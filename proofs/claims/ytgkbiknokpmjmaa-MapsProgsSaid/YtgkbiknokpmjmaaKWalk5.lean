/- Contracts of kmem's functions Read, Bytes, Size: each answers as the plain data (KA) say; condition: the world holds the memory (KM). -/
import Derived.Test.YtgkbiknokpmjmaaKWalk4
import Derived.Test.YtgkbiknokpmjmaaKPure
set_option linter.unusedVariables false
set_option linter.unusedSimpArgs false
namespace Go.Proofs.Ytgkbiknokpmjmaa
open Go.RowKit Go.MapKept
open Go.ChangeMaps (setBlock)

theorem span_err_of {c : KC} {a n p : Nat} {e : Int} (h : c.abs.span a n p = .error e) : kspan c a n p = .tuple #[.slice none 0 0, .int .i64 e] := by
  unfold kspan; rw [h]
theorem span_ok_of {w : World} {m : Nat} {c : KC} (h : KM w m c) {a n p : Nat} {q : RA} (hq : c.abs.span a n p = .ok q) :
    ∃ (j : Nat) (r : RC), c.cs[j]? = some r ∧ r.n = hi32 a ∧ r.a = q ∧ lo32 a + n ≤ q.bytes.length ∧ q.perm &&& p = p ∧ c.abs.get (hi32 a) = some q ∧ kspan c a n p = .tuple #[.slice (some ⟨r.d, if n = 0 then 0 else lo32 a, none⟩) n n, .int .i64 0] := by
  have hq0 := hq
  unfold KA.span at hq
  split at hq
  · cases hq
  · cases hg : c.abs.get (hi32 a) with
    | none => rw [hg] at hq; cases hq
    | some q' =>
      rw [hg] at hq
      simp only at hq
      split at hq
      · cases hq
      · split at hq
        · cases hq
        · cases hq
          rename_i _ h2 h3
          obtain ⟨j, r, hj, hn, ha⟩ := KC.get_some hg
          have hr := List.mem_of_getElem? hj
          refine ⟨j, r, hj, hn, ha, by omega, by simpa using h2, rfl, ?_⟩
          unfold kspan
          rw [hq0]
          have hf : c.cs.find? (fun r => r.n == hi32 a) = some r := by
            cases hf : c.cs.find? (fun r => r.n == hi32 a) with
            | none =>
              have := List.find?_eq_none.1 hf r hr
              simp [hn] at this
            | some q =>
              have hq1 := List.find?_some hf
              obtain ⟨i, hi, e2⟩ := List.getElem_of_mem (List.mem_of_find?_eq_some hf)
              have := h.keys.at_unique (entries_at (by rw [List.getElem?_eq_getElem hi, e2] : c.cs[i]? = some q)) (entries_at hj) (by simp only [RC.entry, Value.int.injEq, true_and]; simp at hq1; omega)
              subst this
              rw [List.getElem?_eq_getElem hi, e2] at hj
              exact hj
          simp only [hf]
theorem sizedB_pos {n : Int} (h : sizedB n = true) : 1 ≤ n ∧ n ≤ 8 := by
  simp only [sizedB, Bool.or_eq_true, beq_iff_eq] at h; omega
theorem getD_take_drop (l : List Nat) (o n k : Nat) (hk : k < n) (h : o + n ≤ l.length) : ((l.drop o).take n).getD k 0 = l.getD (o + k) 0 := by
  simp only [List.getD_eq_getElem?_getD, List.getElem?_take, List.getElem?_drop, hk, if_true]
/-! ### Bytes -/
def strOf (l : List Nat) : Value := .string (bstr l)
theorem K.undString : Try.prog.underlying 9 = some .string := by kernel_rfl
theorem K.undU8 : Try.prog.underlying 5 = some (.int .u8) := by kernel_rfl
set_option maxRecDepth 100000 in
theorem bytes_arg (x n : Int) (m : Nat) (w : World) (hn : n < 0 ∨ 1048576 < n) :
    Calls Try.prog 83 #[.pointer (some ⟨m, 0, none⟩), .int .u64 x, .int .i64 n] w fun e w' => e = .returned (.tuple #[strOf [], .int .i64 1]) ∧ w = w' := by
  rcases hn with hn | hn
  · go_enter Try.func83, Try.ntmps83
    go_wp2
    go_ret2
    exact ⟨rfl, rfl⟩
  · have hp : ¬ n < 0 := by omega
    go_enter Try.func83, Try.ntmps83
    go_wp2
    go_ret2
    exact ⟨rfl, rfl⟩
set_option maxRecDepth 100000 in
theorem bytes_go (a n e0 : Int) (s : Value) (v : ByteArray) (m : Nat) (w : World) (h0 : ¬ n < 0) (h1 : ¬ 1048576 < n)
    (hs : Calls Try.prog 80 #[.pointer (some ⟨m, 0, none⟩), .int .u64 a, .int .i64 n, .int .i64 0] w fun e w' => e = .returned (.tuple #[s, .int .i64 e0]) ∧ w = w')
    (hv : (convert 70 9 s).run Try.prog w = .ok (.string v) w) :
    Calls Try.prog 83 #[.pointer (some ⟨m, 0, none⟩), .int .u64 a, .int .i64 n] w fun e w' => e = .returned (.tuple #[.string v, .int .i64 e0]) ∧ w = w' := by
  have HS := hide hs
  clear hs
  go_enter Try.func83, Try.ntmps83
  go_wp2_with (go_at_call 80; refine HS.out.mono ?_; rintro e w' ⟨rfl, rfl⟩)
  go_ret2
  exact ⟨rfl, rfl⟩
theorem run_bytes {w : World} {d o n cap : Nat} (l : List Nat) (hl : l.length = n) (hc : ∀ i, i < n → w.cell? ⟨d, o + i, none⟩ = some (.int .u8 (l.getD i 0 : Nat))) :
    (convert 70 9 (.slice (some ⟨d, o, none⟩) n cap)).run Try.prog w = .ok (.string (bstr l)) w :=
  run_convert_bytes_arg w _ _ K.undBytes K.undU8 d o n cap (l.map fun (x : Nat) => (x : Int)) (by simpa using hl) (fun i hi => by
    rw [hc i hi]
    simp [List.getD_eq_getElem?_getD, List.getElem?_eq_getElem (show i < l.length by omega)]) _ K.undString
/-- Bytes answers as the plain data say. -/
theorem bytes_calls (a : Nat) (n : Int) (m : Nat) (c : KC) (w : World) (h : KM w m c) (h1 : a < 18446744073709551616) :
    Calls Try.prog 83 #[.pointer (some ⟨m, 0, none⟩), .int .u64 a, .int .i64 n] w fun e w' => e = .returned (.tuple #[strOf (c.abs.bytes a n).1, .int .i64 (c.abs.bytes a n).2]) ∧ w = w' := by
  unfold KA.bytes
  by_cases hn : n < 0 ∨ 1048576 < n
  · rw [if_pos hn]; exact bytes_arg a n m w hn
  rw [if_neg hn]
  obtain ⟨k, rfl⟩ : ∃ k : Nat, n = k := ⟨n.toNat, by omega⟩
  have hsp := span_calls a k 0 m c w h h1 (by omega) (by omega)
  cases hq : c.abs.span a k 0 with
  | error e =>
    rw [span_err_of hq] at hsp
    exact bytes_go a k e _ _ m w (by omega) (by omega) hsp (run_convert_bytes_nil w _ _ K.undBytes K.undU8 _ _ _ K.undString)
  | ok q =>
    obtain ⟨j, r, hj, hn, rfl, hlen, _, _, hv⟩ := span_ok_of h hq
    rw [hv] at hsp
    have hr := List.mem_of_getElem? hj
    rw [Int.toNat_natCast]
    refine bytes_go a k 0 _ _ m w (by omega) (by omega) hsp (run_bytes ((r.a.bytes.drop (lo32 a)).take k) (by simp; omega) (fun i hi => ?_))
    rw [getD_take_drop _ _ _ _ hi hlen, if_neg (by omega)]
    exact byte_reads (h.hd r hr) _ (by omega)

/-! ### Size -/
theorem kptr_of {w : World} {m : Nat} {c : KC} (h : KM w m c) {j : Nat} {r : RC} (hj : c.cs[j]? = some r) : kptr c r.n = .pointer (some ⟨r.b, 0, none⟩) := by
  have h1 := h.lookup r.n
  rw [run_lookup_hit (k := .int .i64 r.n) K.und K.undInt rfl h.keys h.hmb (entries_at hj) rfl] at h1
  simp only [Result.ok.injEq, and_true] at h1
  exact h1.symm
theorem span_err_ne {c : KC} {a p : Nat} {n : Int} {e : Int} (h : c.abs.span a n p = .error e) : e ≠ 0 := by
  unfold KA.span at h
  split at h
  · cases h; decide
  · split at h
    · cases h; decide
    · split at h
      · cases h; decide
      · split at h <;> cases h; decide
end Go.Proofs.Ytgkbiknokpmjmaa
