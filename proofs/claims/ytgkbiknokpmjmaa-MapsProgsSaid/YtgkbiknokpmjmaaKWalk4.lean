/- Contract of kmem's function span: it answers as the plain data (KA) say; condition: the world holds the memory (KM). -/
import Derived.Test.YtgkbiknokpmjmaaKWalk3
set_option linter.unusedVariables false
set_option linter.unusedSimpArgs false
namespace Go.Proofs.Ytgkbiknokpmjmaa
open Go.RowKit Go.MapKept
open Go.ChangeMaps (setBlock)

set_option maxRecDepth 100000 in
theorem span_null (x n p : Int) (m : Nat) (c : KC) (w : World) (h : KM w m c) (h0 : 0 ≤ x) (h1 : x < 18446744073709551616) (hn : x / 4294967296 = 0 ∨ (c.made : Int) < x / 4294967296) (v : Value)
    (hl : (Instr.lookup 55 (.map (some c.mb)) (.int .i64 (wrap64 (x / 4294967296))) false).run Try.prog w = .ok v w) :
    Calls Try.prog 80 #[.pointer (some ⟨m, 0, none⟩), .int .u64 x, .int .i64 n, .int .i64 p] w fun e w' => e = .returned (.tuple #[.slice none 0 0, .int .i64 20]) ∧ w = w' := by
  have hw : wrap64 (x / 4294967296) = x / 4294967296 := by unfold wrap64; omega
  obtain ⟨c0, c1, -⟩ := h.cells
  obtain ⟨q, hq⟩ : ∃ q, q = wrap64 (x / 4294967296) := ⟨_, rfl⟩
  by_cases hz : wrap64 (x / 4294967296) = 0
  · have b0 : (wrap64 (x / 4294967296) == 0) = true := by simp [hz]
    clear h h1 hn hw hq hz
    go_enter Try.func80, Try.ntmps80
    go_wp2
    go_ret2
    exact ⟨rfl, rfl⟩
  · have b0 : (wrap64 (x / 4294967296) == 0) = false := by simp [hz]
    have b1 : (c.made : Int) < wrap64 (x / 4294967296) := by omega
    clear h h1 hn hw hq hz
    go_enter Try.func80, Try.ntmps80
    go_wp2
    go_ret2
    exact ⟨rfl, rfl⟩
set_option maxRecDepth 100000 in
theorem span_freed (x n p : Int) (m : Nat) (c : KC) (w : World) (h : KM w m c) (h0 : 0 ≤ x) (h1 : x < 18446744073709551616) (hn : ¬ (x / 4294967296 = 0 ∨ (c.made : Int) < x / 4294967296))
    (hl : (Instr.lookup 55 (.map (some c.mb)) (.int .i64 (wrap64 (x / 4294967296))) false).run Try.prog w = .ok (.pointer none) w) :
    Calls Try.prog 80 #[.pointer (some ⟨m, 0, none⟩), .int .u64 x, .int .i64 n, .int .i64 p] w fun e w' => e = .returned (.tuple #[.slice none 0 0, .int .i64 21]) ∧ w = w' := by
  have hw : wrap64 (x / 4294967296) = x / 4294967296 := by unfold wrap64; omega
  obtain ⟨c0, c1, -⟩ := h.cells
  have b0 : (wrap64 (x / 4294967296) == 0) = false := by simp; omega
  have b1 : ¬ (c.made : Int) < wrap64 (x / 4294967296) := by omega
  clear h h1 hn hw
  go_enter Try.func80, Try.ntmps80
  go_wp2
  go_ret2
  exact ⟨rfl, rfl⟩
theorem and_lo32 (x : Int) (h0 : 0 ≤ x) (h1 : x < 18446744073709551616) : wrap64 (bits BinOp.and IntKind.u64 x 4294967295) = x % 4294967296 := by
  have e0 : bits BinOp.and IntKind.u64 x 4294967295 = IntKind.u64.wrap (((BitVec.ofInt 64 x) &&& (BitVec.ofInt 64 4294967295)).toNat : Int) := rfl
  rw [e0, BitVec.toNat_and]
  have e1 : (BitVec.ofInt 64 x).toNat = x.toNat := by rw [BitVec.toNat_ofInt]; omega
  have e2 : (BitVec.ofInt 64 4294967295).toNat = 2 ^ 32 - 1 := by decide
  rw [e1, e2, Nat.and_two_pow_sub_one_eq_mod, IntKind.wrap_u64]
  unfold wrap64
  omega
theorem and_perm (q p : Nat) (hq : 1 ≤ q ∧ q ≤ 3) (hp : p ≤ 2) : bits BinOp.and IntKind.i64 (q : Int) (p : Int) = ((q &&& p : Nat) : Int) := by
  obtain rfl | rfl | rfl : q = 1 ∨ q = 2 ∨ q = 3 := by omega
  all_goals obtain rfl | rfl | rfl : p = 0 ∨ p = 1 ∨ p = 2 := by omega
  all_goals decide

set_option maxRecDepth 100000 in
theorem span_perm (x n p : Int) (m : Nat) (c : KC) (r : RC) (w : World) (h : KM w m c) (h0 : 0 ≤ x) (h1 : x < 18446744073709551616) (hn : ¬ (x / 4294967296 = 0 ∨ (c.made : Int) < x / 4294967296)) (hr : r ∈ c.cs)
    (hl : (Instr.lookup 55 (.map (some c.mb)) (.int .i64 (wrap64 (x / 4294967296))) false).run Try.prog w = .ok (.pointer (some ⟨r.b, 0, none⟩)) w)
    (hp : (bits BinOp.and IntKind.i64 (r.a.perm : Int) p != p) = true) :
    Calls Try.prog 80 #[.pointer (some ⟨m, 0, none⟩), .int .u64 x, .int .i64 n, .int .i64 p] w fun e w' => e = .returned (.tuple #[.slice none 0 0, .int .i64 23]) ∧ w = w' := by
  have hw : wrap64 (x / 4294967296) = x / 4294967296 := by unfold wrap64; omega
  obtain ⟨c0, c1, -⟩ := h.cells
  obtain ⟨d0, d1, d2, -⟩ := RC.reads (h.hb r hr)
  have b0 : (wrap64 (x / 4294967296) == 0) = false := by simp; omega
  have b1 : ¬ (c.made : Int) < wrap64 (x / 4294967296) := by omega
  clear h h1 hn hw
  go_enter Try.func80, Try.ntmps80
  go_wp2
  go_ret2
  exact ⟨rfl, rfl⟩
set_option maxRecDepth 100000 in
theorem span_out (x n p o : Int) (m : Nat) (c : KC) (r : RC) (w : World) (h : KM w m c) (h0 : 0 ≤ x) (h1 : x < 18446744073709551616) (hn : ¬ (x / 4294967296 = 0 ∨ (c.made : Int) < x / 4294967296)) (hr : r ∈ c.cs)
    (hl : (Instr.lookup 55 (.map (some c.mb)) (.int .i64 (wrap64 (x / 4294967296))) false).run Try.prog w = .ok (.pointer (some ⟨r.b, 0, none⟩)) w)
    (hp : (bits BinOp.and IntKind.i64 (r.a.perm : Int) p != p) = false) (hn0 : 0 ≤ n) (hn1 : n ≤ 1048576) (ho : wrap64 (bits BinOp.and IntKind.u64 x 4294967295) = o) (hb : (r.a.bytes.length : Int) - n < o) :
    Calls Try.prog 80 #[.pointer (some ⟨m, 0, none⟩), .int .u64 x, .int .i64 n, .int .i64 p] w fun e w' => e = .returned (.tuple #[.slice none 0 0, .int .i64 22]) ∧ w = w' := by
  have hw : wrap64 (x / 4294967296) = x / 4294967296 := by unfold wrap64; omega
  obtain ⟨c0, c1, -⟩ := h.cells
  obtain ⟨d0, d1, d2, -⟩ := RC.reads (h.hb r hr)
  have b0 : (wrap64 (x / 4294967296) == 0) = false := by simp; omega
  have b1 : ¬ (c.made : Int) < wrap64 (x / 4294967296) := by omega
  have hlen := (h.ln r hr).2
  clear h h1 hn hw
  go_enter Try.func80, Try.ntmps80
  go_wp2
  go_ret2
  exact ⟨rfl, rfl⟩
set_option maxRecDepth 100000 in
theorem span_ok (x p : Int) (n o : Nat) (m : Nat) (c : KC) (r : RC) (w : World) (h : KM w m c) (h0 : 0 ≤ x) (h1 : x < 18446744073709551616) (hn : ¬ (x / 4294967296 = 0 ∨ (c.made : Int) < x / 4294967296)) (hr : r ∈ c.cs)
    (hl : (Instr.lookup 55 (.map (some c.mb)) (.int .i64 (wrap64 (x / 4294967296))) false).run Try.prog w = .ok (.pointer (some ⟨r.b, 0, none⟩)) w)
    (hp : (bits BinOp.and IntKind.i64 (r.a.perm : Int) p != p) = false) (hn1 : n ≤ 1048576) (ho : wrap64 (bits BinOp.and IntKind.u64 x 4294967295) = o) (hb : o + n ≤ r.a.bytes.length) :
    Calls Try.prog 80 #[.pointer (some ⟨m, 0, none⟩), .int .u64 x, .int .i64 n, .int .i64 p] w fun e w' => e = .returned (.tuple #[.slice (some ⟨r.d, if n = 0 then 0 else o, none⟩) n n, .int .i64 0]) ∧ w = w' := by
  have hw : wrap64 (x / 4294967296) = x / 4294967296 := by unfold wrap64; omega
  obtain ⟨c0, c1, -⟩ := h.cells
  obtain ⟨d0, d1, d2, -⟩ := RC.reads (h.hb r hr)
  have b0 : (wrap64 (x / 4294967296) == 0) = false := by simp; omega
  have b1 : ¬ (c.made : Int) < wrap64 (x / 4294967296) := by omega
  have hlen := (h.ln r hr).2
  have hbi : (o : Int) + n ≤ r.a.bytes.length := by omega
  have hb2 : ¬ ((r.a.bytes.length : Int) - n < o) := by omega
  clear h h1 hn hw
  by_cases hz : n = 0
  · subst hz
    go_enter Try.func80, Try.ntmps80
    go_wp2
    go_ret2
    exact ⟨rfl, rfl⟩
  · go_enter Try.func80, Try.ntmps80
    go_wp2
    go_ret2
    exact ⟨rfl, rfl⟩

/-- What span answers. -/
def kspan (c : KC) (a n perm : Nat) : Value :=
  match c.abs.span a n perm with
  | .error e => .tuple #[.slice none 0 0, .int .i64 e]
  | .ok _ => match c.cs.find? (fun r => r.n == hi32 a) with
    | some r => .tuple #[.slice (some ⟨r.d, if n = 0 then 0 else lo32 a, none⟩) n n, .int .i64 0]
    | none => .tuple #[]
theorem span_calls (a n p : Nat) (m : Nat) (c : KC) (w : World) (h : KM w m c) (h1 : a < 18446744073709551616) (hn : n ≤ 1048576) (hp : p ≤ 2) :
    Calls Try.prog 80 #[.pointer (some ⟨m, 0, none⟩), .int .u64 a, .int .i64 n, .int .i64 p] w fun e w' => e = .returned (kspan c a n p) ∧ w = w' := by
  have hl := h.lookup (hi32 a)
  have hw : ((hi32 a : Nat) : Int) = wrap64 ((a : Int) / 4294967296) := by unfold wrap64 hi32; omega
  rw [hw] at hl
  have e3 : c.abs.made = c.made := rfl
  unfold kspan KA.span
  rw [e3]
  by_cases h0 : hi32 a = 0 ∨ c.made < hi32 a
  · rw [if_pos h0]
    exact span_null a n p m c w h (by omega) (by omega) (by unfold hi32 at h0; omega) _ hl
  rw [if_neg h0]
  have h0' : ¬ ((a : Int) / 4294967296 = 0 ∨ (c.made : Int) < (a : Int) / 4294967296) := by unfold hi32 at h0; omega
  rcases kptr_cases c (hi32 a) with ⟨hv, hg⟩ | ⟨j, r, hj, hrn, hv, hg⟩
  · rw [hg]
    rw [hv] at hl
    exact span_freed a n p m c w h (by omega) (by omega) h0' hl
  · rw [hg]
    rw [hv] at hl
    have hr := List.mem_of_getElem? hj
    have hand := and_perm r.a.perm p (h.pm r hr) hp
    have hlo := and_lo32 a (by omega) (by omega)
    rw [show (a : Int) % 4294967296 = ((lo32 a : Nat) : Int) by unfold lo32; omega] at hlo
    simp only []
    by_cases hq : r.a.perm &&& p = p
    · rw [if_neg (fun e => e hq)]
      have hq' : (bits BinOp.and IntKind.i64 (r.a.perm : Int) (p : Int) != (p : Int)) = false := by rw [hand, hq]; simp
      by_cases hb : (r.a.bytes.length : Int) - n < lo32 a
      · rw [if_pos hb]
        exact span_out a n p _ m c r w h (by omega) (by omega) h0' hr hl hq' (by omega) (by omega) hlo hb
      · rw [if_neg hb]
        have hf : c.cs.find? (fun r => r.n == hi32 a) = some r := by
          cases hf : c.cs.find? (fun r => r.n == hi32 a) with
          | none => simp [kptr, hf] at hv
          | some q =>
            have hq1 := List.find?_some hf
            obtain ⟨i, hi, e2⟩ := List.getElem_of_mem (List.mem_of_find?_eq_some hf)
            have := h.keys.at_unique (entries_at (by rw [List.getElem?_eq_getElem hi, e2] : c.cs[i]? = some q)) (entries_at hj) (by simp only [RC.entry, Value.int.injEq, true_and]; simp at hq1; omega)
            subst this
            rw [List.getElem?_eq_getElem hi, e2] at hj
            exact hj
        simp only [hf]
        exact span_ok a p n _ m c r w h (by omega) (by omega) h0' hr hl hq' hn hlo (by omega)
    · rw [if_pos hq]
      exact span_perm a n p m c r w h (by omega) (by omega) h0' hr hl (by rw [hand, bne_iff_ne]; omega)
end Go.Proofs.Ytgkbiknokpmjmaa
