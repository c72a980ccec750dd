/- Plain laws on little-endian numbers and spliced lists; no conditions but bounds. -/
import Derived.Test.YtgkbiknokpmjmaaKData
set_option linter.unusedVariables false
set_option linter.unusedSimpArgs false
namespace Go.Proofs.Ytgkbiknokpmjmaa

theorem leNum_append (l r : List Nat) : leNum (l ++ r) = leNum l + 256 ^ l.length * leNum r := by
  induction l with
  | nil => simp [leNum]
  | cons x l ih =>
    simp only [List.cons_append, leNum, ih, List.length_cons, Nat.pow_succ]
    rw [Nat.mul_add, Nat.mul_comm (256 ^ l.length) 256, Nat.mul_assoc, Nat.add_assoc]
theorem leNum_lt (l : List Nat) (h : ∀ x ∈ l, x < 256) : leNum l < 256 ^ l.length := by
  induction l with
  | nil => simp [leNum]
  | cons x l ih =>
    have h1 := ih (fun y hy => h y (List.mem_cons_of_mem _ hy))
    have h2 := h x (List.mem_cons_self)
    simp only [leNum, List.length_cons, Nat.pow_succ]
    omega
theorem leNum_take_succ (l : List Nat) (k : Nat) (h : k < l.length) : leNum (l.take (k + 1)) = leNum (l.take k) + l.getD k 0 * 256 ^ k := by
  rw [List.take_succ_eq_append_getElem h, leNum_append]
  simp [leNum, h, Nat.min_eq_left (Nat.le_of_lt h), Nat.mul_comm]
theorem or_byte (v b k : Nat) (hv : v < 256 ^ k) (hb : b < 256) (hk : k < 8) :
    bits BinOp.or IntKind.u64 (v : Int) (IntKind.u64.wrap ((b : Int) * 2 ^ (8 * k))) = ((v + b * 256 ^ k : Nat) : Int) := by
  have e256 : (256 : Nat) ^ k = 2 ^ (8 * k) := by rw [Nat.pow_mul]
  have hp : (256 : Nat) ^ k * 256 ≤ 18446744073709551616 := by
    have : (256 : Nat) ^ (k + 1) ≤ 256 ^ 8 := Nat.pow_le_pow_right (by omega) (by omega)
    rw [Nat.pow_succ] at this
    exact Nat.le_trans this (by decide)
  rw [e256] at hv hp ⊢
  have hP : 1 ≤ 2 ^ (8 * k) := Nat.one_le_two_pow
  have hbb : b * 2 ^ (8 * k) + 2 ^ (8 * k) ≤ 18446744073709551616 := by
    have := Nat.mul_le_mul_right (2 ^ (8 * k)) (show b + 1 ≤ 256 by omega)
    rw [Nat.add_mul, Nat.one_mul] at this
    omega
  have ew : IntKind.u64.wrap ((b : Int) * 2 ^ (8 * k)) = ((b * 2 ^ (8 * k) : Nat) : Int) := by
    rw [show ((b : Int) * 2 ^ (8 * k)) = ((b * 2 ^ (8 * k) : Nat) : Int) by simp, IntKind.wrap_u64]
    omega
  rw [ew]
  have e0 : ∀ x y : Int, bits BinOp.or IntKind.u64 x y = IntKind.u64.wrap (((BitVec.ofInt 64 x) ||| (BitVec.ofInt 64 y)).toNat : Int) := fun _ _ => rfl
  have e1 : ∀ y : Nat, y < 18446744073709551616 → (BitVec.ofInt 64 (y : Int)).toNat = y := fun y hy => by rw [BitVec.toNat_ofInt]; omega
  rw [e0, BitVec.toNat_or, e1 v (by omega), e1 _ (by omega), Nat.or_comm, Nat.mul_comm b, ← Nat.two_pow_add_eq_or_of_lt hv, IntKind.wrap_u64, Nat.mul_comm]
  omega
theorem length_leBytes (n k : Nat) : (leBytes n k).length = k := by
  induction k generalizing n with
  | zero => rfl
  | succ k ih => simp [leBytes, ih]
theorem leBytes_lt (n k : Nat) : ∀ x ∈ leBytes n k, x < 256 := by
  induction k generalizing n with
  | zero => simp [leBytes]
  | succ k ih =>
    intro x hx
    simp only [leBytes, List.mem_cons] at hx
    rcases hx with rfl | hx
    · omega
    · exact ih _ x hx
theorem getD_leBytes (n k i : Nat) (h : i < k) : (leBytes n k).getD i 0 = n / 256 ^ i % 256 := by
  induction k generalizing n i with
  | zero => omega
  | succ k ih =>
    cases i with
    | zero => simp [leBytes]
    | succ i =>
      simp only [leBytes, List.getD_cons_succ]
      rw [ih _ _ (by omega), Nat.div_div_eq_div_mul, Nat.pow_succ, Nat.mul_comm]
theorem leNum_leBytes (n k : Nat) : leNum (leBytes n k) = n % 256 ^ k := by
  induction k generalizing n with
  | zero => simp [leNum, leBytes, Nat.mod_one]
  | succ k ih =>
    simp only [leNum, leBytes, ih, Nat.pow_succ]
    rw [Nat.mul_comm (256 ^ k) 256, Nat.mod_mul]
theorem length_splice (l : List Nat) (o : Nat) (s : List Nat) (h : o + s.length ≤ l.length) : (splice l o s).length = l.length := by
  simp [splice]; omega
theorem mem_splice {l : List Nat} {o : Nat} {s : List Nat} {x : Nat} (h : x ∈ splice l o s) : x ∈ l ∨ x ∈ s := by
  simp only [splice, List.mem_append] at h
  rcases h with (h | h) | h
  · exact .inl (List.mem_of_mem_take h)
  · exact .inr h
  · exact .inl (List.mem_of_mem_drop h)

/-- A string of bytes that are told as numbers. -/
def bstr (l : List Nat) : ByteArray := strOfNums (l.map fun (x : Nat) => (x : Int))
def nats (s : ByteArray) : List Nat := s.data.toList.map (·.toNat)
theorem nats_lt (s : ByteArray) : ∀ x ∈ nats s, x < 256 := by
  intro x hx
  obtain ⟨b, _, rfl⟩ := List.mem_map.1 hx
  exact b.toNat_lt
theorem bstr_eq (l : List Nat) : bstr l = ⟨(l.map UInt8.ofNat).toArray⟩ := by
  simp [bstr, strOfNums, Function.comp_def]
theorem bstr_nats (s : ByteArray) : bstr (nats s) = s := by
  rw [bstr_eq]
  simp [nats, Function.comp_def]
theorem nats_bstr (l : List Nat) (h : ∀ x ∈ l, x < 256) : nats (bstr l) = l := by
  rw [bstr_eq]
  simp only [nats, List.map_map]
  conv => rhs; rw [← List.map_id l]
  apply List.map_congr_left
  intro x hx
  simp [Nat.mod_eq_of_lt (h x hx)]
theorem length_nats (s : ByteArray) : (nats s).length = s.size := by simp [nats]
theorem size_bstr (l : List Nat) : (bstr l).size = l.length := by rw [bstr_eq]; simp [ByteArray.size]
theorem bstr_inj {l r : List Nat} (hl : ∀ x ∈ l, x < 256) (hr : ∀ x ∈ r, x < 256) (h : bstr l = bstr r) : l = r := by
  rw [← nats_bstr l hl, ← nats_bstr r hr, h]
theorem getD_nats (s : ByteArray) (i : Nat) (h : i < s.size) : (nats s).getD i 0 = (s[i]'h).toNat := by
  have hd : i < s.data.toList.length := by simpa using h
  have : (nats s)[i]? = some ((s[i]'h).toNat) := by
    unfold nats
    rw [List.getElem?_map, List.getElem?_eq_getElem hd]
    rfl
  simp [List.getD_eq_getElem?_getD, this]
end Go.Proofs.Ytgkbiknokpmjmaa
