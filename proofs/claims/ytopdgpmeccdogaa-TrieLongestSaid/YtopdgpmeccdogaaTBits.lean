/- Contract of the trie's bits: it tells a key's prefix, bit by bit, in new memory; condition: the table lies in the world. -/
import Derived.Test.YtopdgpmeccdogaaTData
import Derived.Test.YtopdgpmeccdogaaOr4
import Derived.Deep.DeepCutAuto
import Derived.Laws.BitsAllLaws
set_option linter.unusedVariables false
set_option linter.unusedSimpArgs false
namespace Go.Proofs.Ytopdgpmeccdogaa
open Go.RowKit Go.MapKept
open Go.ChangeMaps (setBlock)

structure TSpec where
  key : Nat
  value : Nat
  max : Nat
structure TM (w : World) (x m : Nat) (s : TSpec) (t : CT) (n : Nat) : Prop where
  hx : w.heap[x]? = some (.cells #[.pointer (some ⟨m, 0, none⟩), .int .i64 11, .int .i64 s.key, .int .i64 s.value, .int .i64 s.max, .pointer t.ptr, .int .i64 n] 81 (0, 0))
  ht : t.holds w
  nd : (x :: t.foot).Nodup
  nn : ∃ b l r a f, t = .node b l r a f
  ab : ∀ p, t.F p < 18446744073709551616
theorem TM.cells {w : World} {x m : Nat} {s : TSpec} {t : CT} {n : Nat} (h : TM w x m s t n) :
    w.cell? ⟨x, 0, none⟩ = some (.pointer (some ⟨m, 0, none⟩)) ∧ w.cell? ⟨x, 2, none⟩ = some (.int .i64 s.key) ∧ w.cell? ⟨x, 3, none⟩ = some (.int .i64 s.value) ∧ w.cell? ⟨x, 4, none⟩ = some (.int .i64 s.max) ∧ w.cell? ⟨x, 5, none⟩ = some (.pointer t.ptr) ∧ w.cell? ⟨x, 6, none⟩ = some (.int .i64 n) ∧ w.frozen? ⟨x, 6, none⟩ = false := by
  simp [World.cell?, World.frozen?, h.hx]
theorem TM.frame {w w' : World} {x m : Nat} {s : TSpec} {t : CT} {n : Nat} (h : TM w x m s t n) (hf : ∀ k ∈ x :: t.foot, w'.heap[k]? = w.heap[k]?) : TM w' x m s t n :=
  { h with
    hx := by rw [hf x (by simp)]; exact h.hx
    ht := CT.holds_frame t h.ht fun k hk => hf k (by simp [hk]) }
theorem TM.lt {w : World} {x m : Nat} {s : TSpec} {t : CT} {n : Nat} (h : TM w x m s t n) : ∀ k ∈ x :: t.foot, k < w.heap.size := by
  intro k hk
  rcases List.mem_cons.1 hk with rfl | hk
  · exact lt_of_heap h.hx
  · exact CT.holds_lt t h.ht k hk

/-! ### bits -/
def tbit (key : ByteArray) (i : Nat) : Nat := (nats key).getD (4 + i / 8) 0 / 2 ^ (7 - i % 8) % 2
def bitsN (key : ByteArray) (n : Nat) : List Nat := (List.range n).map (tbit key)
def tlen (key : ByteArray) : Nat := leNum ((nats key).take 4)
def BitsPost (key : ByteArray) (w : World) (e : Ending) (w' : World) : Prop := ∃ d, e = .returned (.tuple #[.slice (some ⟨d, 0, none⟩) (tlen key) (tlen key), .bool true]) ∧ w.heap.size ≤ d ∧ w'.heap[d]? = some (byteCells (bitsN key (tlen key))) ∧ Fr [] [] w w'
set_option maxRecDepth 100000 in
theorem bits_size {w : World} {x m : Nat} {s : TSpec} {t : CT} {n : Nat} (h : TM w x m s t n) (key : ByteArray) (hk : key.size ≠ s.key) :
    Calls Try.prog 32 #[.pointer (some ⟨x, 0, none⟩), .string key] w (Tells w (.tuple #[.slice none 0 0, .bool false])) := by
  have hb : ((key.size : Int) != (s.key : Int)) = true := by rw [bne_iff_ne]; omega
  obtain ⟨c0, c2, c3, c4, c5, c6, -⟩ := h.cells
  clear h hk
  go_enter Try.func32, Try.ntmps32
  go_wp2
  go_ret2
  exact ⟨rfl, rfl⟩
theorem tlen_lt (key : ByteArray) (h : 4 ≤ key.size) : tlen key < 4294967296 := by
  have := leNum_lt ((nats key).take 4) (fun x hx => nats_lt key x (List.mem_of_mem_take hx))
  rw [List.length_take, length_nats, Nat.min_eq_left h] at this
  exact this
theorem tlen_eq (key : ByteArray) (h : 4 ≤ key.size) : bits BinOp.or IntKind.i64 (bits BinOp.or IntKind.i64 (bits BinOp.or IntKind.i64 (wrap64 (key[0]'(by omega)).toNat) (wrap64 (wrap64 (key[1]'(by omega)).toNat * 256))) (wrap64 (wrap64 (key[2]'(by omega)).toNat * 65536))) (wrap64 (wrap64 (key[3]'(by omega)).toNat * 16777216)) = (tlen key : Nat) := by
  rw [or4 _ _ _ _ key[0].toNat_lt key[1].toNat_lt key[2].toNat_lt key[3].toNat_lt]
  unfold tlen
  rw [leNum4 _ (by rw [List.length_take, length_nats]; omega)]
  simp only [List.getD_eq_getElem?_getD, List.getElem?_take]
  have g := fun i hi => getD_nats key i hi
  simp only [List.getD_eq_getElem?_getD] at g
  simp [g 0 (by omega), g 1 (by omega), g 2 (by omega), g 3 (by omega)]
def BitCut (key : ByteArray) (w : World) (v : Value) (wx : World) : Prop := v = .int .i64 (tlen key : Nat) ∧ Same w wx
set_option maxRecDepth 100000 in
theorem bits_long {w : World} {x m : Nat} {s : TSpec} {t : CT} {n : Nat} (h : TM w x m s t n) (key : ByteArray) (hk : key.size = s.key) (h4 : 4 ≤ key.size) (h5 : key.size ≤ 260) (hl : 8 * (key.size - 4) < tlen key) :
    Calls Try.prog 32 #[.pointer (some ⟨x, 0, none⟩), .string key] w (TellsS w (.tuple #[.slice none 0 0, .bool false])) := by
  have hb : ((key.size : Int) != (s.key : Int)) = false := by rw [bne_eq_false_iff_eq]; omega
  have b4 : (4 : Int) ≤ key.size := by omega
  have b5 : (key.size : Int) ≤ 260 := by omega
  have b6 : 8 * ((key.size : Int) - 4) < (tlen key : Nat) := by omega
  have HT := hide (tlen_eq key h4)
  obtain ⟨c0, c2, c3, c4, c5, c6, -⟩ := h.cells
  have l0 : 0 < key.size := by omega
  have l1 : (1 : Int) < key.size := by omega
  have l2 : (2 : Int) < key.size := by omega
  have l3 : (3 : Int) < key.size := by omega
  clear h hk
  go_enter Try.func32, Try.ntmps32
  go_upto_region 3 with fail
  go_cut [6] (fun s6 wx => BitCut key w s6 wx)
  case first =>
    go_region
    all_goals
      go_wp2_with fail
      go_meet
      exact ⟨congrArg _ HT.out, by first | exact Same.refl _ | exact (Same.refl _).drew⟩
  case rest =>
    obtain ⟨rfl, hs⟩ := hcut
    go_wp2
    go_ret2
    exact ⟨rfl, hs⟩
theorem tbit_eq (key : ByteArray) (k : Nat) (h : 4 + k / 8 < key.size) : bits BinOp.and IntKind.u8 (((key[4 + k / 8]'h).toNat : Int) / 2 ^ (7 - k % 8)) 1 = ((tbit key k : Nat) : Int) := by
  have h1 : (((key[4 + k / 8]'h).toNat : Int) / 2 ^ (7 - k % 8)) = (((key[4 + k / 8]'h).toNat / 2 ^ (7 - k % 8) : Nat) : Int) := by
    rw [Int.natCast_ediv, Int.natCast_pow]; rfl
  have h2 := (key[4 + k / 8]'h).toNat_lt
  have h3 : (key[4 + k / 8]'h).toNat / 2 ^ (7 - k % 8) ≤ (key[4 + k / 8]'h).toNat := Nat.div_le_self _ _
  rw [h1]
  have := u8_and_nat ((key[4 + k / 8]'h).toNat / 2 ^ (7 - k % 8)) 1 (by omega) (by omega)
  rw [show ((1 : Nat) : Int) = 1 from rfl] at this
  rw [this, Nat.and_one_is_mod]
  unfold tbit
  rw [getD_nats key _ h]
theorem bitsN_succ (key : ByteArray) (k : Nat) : bitsN key (k + 1) = bitsN key k ++ [tbit key k] := by simp [bitsN, List.range_succ]
theorem bitsN_length (key : ByteArray) (k : Nat) : (bitsN key k).length = k := by simp [bitsN]
def bitsAt (key : ByteArray) (n k : Nat) : List Nat := bitsN key k ++ List.replicate (n - k) 0
theorem bitsAt_set (key : ByteArray) (n k : Nat) (h : k < n) : (bitsAt key n k).set k (tbit key k) = bitsAt key n (k + 1) := by
  unfold bitsAt
  rw [List.set_append_right _ _ (by rw [bitsN_length]; omega), bitsN_length, Nat.sub_self, bitsN_succ, List.append_assoc]
  congr 1
  obtain ⟨m, hm⟩ : ∃ m, n - k = m + 1 := ⟨n - k - 1, by omega⟩
  rw [hm, List.replicate_succ, show n - (k + 1) = m by omega]
  rfl
theorem bitsAt_length (key : ByteArray) (n k : Nat) (h : k ≤ n) : (bitsAt key n k).length = n := by simp [bitsAt, bitsN_length]; omega
set_option maxRecDepth 100000 in
set_option maxHeartbeats 800000 in
theorem bits_ok {w : World} {x m : Nat} {s : TSpec} {t : CT} {n : Nat} (h : TM w x m s t n) (key : ByteArray) (hk : key.size = s.key) (h4 : 4 ≤ key.size) (h5 : key.size ≤ 260) (hl : tlen key ≤ 8 * (key.size - 4)) :
    Calls Try.prog 32 #[.pointer (some ⟨x, 0, none⟩), .string key] w (BitsPost key w) := by
  have hb : ((key.size : Int) != (s.key : Int)) = false := by rw [bne_eq_false_iff_eq]; omega
  have b4 : (4 : Int) ≤ key.size := by omega
  have b5 : (key.size : Int) ≤ 260 := by omega
  have b6 : (tlen key : Nat) ≤ 8 * ((key.size : Int) - 4) := by omega
  have HT := hide (tlen_eq key h4)
  obtain ⟨c0, c2, c3, c4, c5, c6, -⟩ := h.cells
  have l0 : 0 < key.size := by omega
  have l1 : (1 : Int) < key.size := by omega
  have l2 : (2 : Int) < key.size := by omega
  have l3 : (3 : Int) < key.size := by omega
  have hmk := run_mk (tlen key : Nat) (by omega) (by omega)
  simp only [Int.toNat_natCast] at hmk
  have hn0 : (0 : Int) ≤ (tlen key : Nat) := by omega
  have HLE := hide hl
  clear h hk hl
  go_enter Try.func32, Try.ntmps32
  go_upto_region 3 with fail
  go_cut [6] (fun s6 wx => BitCut key w s6 wx)
  case first =>
    clear hmk
    go_region
    all_goals
      go_wp2_with fail
      go_meet
      exact ⟨congrArg _ HT.out, by first | exact Same.refl _ | exact (Same.refl _).drew⟩
  case rest =>
    obtain ⟨rfl, hs⟩ := hcut
    clear HT c0 c2 c3 c4 c5 c6
    generalize hN : tlen key = N at *
    have HN := hide hN
    have HSM := hide hs
    clear hN hs
    go_wp2_with fail
    go_loopw [45] (fun i wr => ∃ k : Nat, k ≤ N ∧ i = .int .i64 k ∧ Only wc.heap.size (wc.alloc (byteCells (List.replicate N 0))) wr ∧ wr.heap[wc.heap.size]? = some (byteCells (bitsAt key N k))) (fun i _ => N - (intOf i).toNat)
    case atStart => exact ⟨0, Nat.zero_le _, rfl, Only.refl _ _, by rw [heap_alloc_new]; simp [bitsAt, bitsN]⟩
    case round =>
      obtain ⟨k, hk, rfl, ho, hh⟩ := hrel
      by_cases hlt : k < N
      · have hcell := byte_reads hh k (by rw [bitsAt_length _ _ _ hk]; exact hlt)
        have hfree := byte_free hh k
        have hi : 4 + k / 8 < key.size := by have := HLE.out; omega
        have hi2 : (4 : Int) + k / 8 < key.size := by omega
        have HB := hide (tbit_eq key k hi)
        have HR : Hid (Only wc.heap.size (wc.alloc (byteCells (List.replicate N 0))) (wr.setCell ⟨wc.heap.size, k, none⟩ (.int .u8 ((tbit key k : Nat) : Int))) ∧ (wr.setCell ⟨wc.heap.size, k, none⟩ (.int .u8 ((tbit key k : Nat) : Int))).heap[wc.heap.size]? = some (byteCells (bitsAt key N (k + 1)))) :=
          hide ⟨ho.setCell _ _, by rw [heap_store_byte hh, bitsAt_set key N k hlt]⟩
        clear ho hh HLE
        generalize (bitsAt key N k).getD k 0 = q at hcell
        go_wp2
        rw [HB.out]
        exact ⟨⟨k + 1, by omega, by go_num, HR.out.1, HR.out.2⟩, by simp [intOf]; omega⟩
      · obtain rfl : k = N := by omega
        have HP : Hid (BitsPost key w (.returned (.tuple #[.slice (some ⟨wc.heap.size, 0, none⟩) k k, .bool true])) wr) := by
          have e := HN.out
          unfold BitsPost
          rw [e]
          refine hide ⟨wc.heap.size, rfl, ?_, ?_, ?_⟩
          · rw [HSM.out.heap]; exact Nat.le_refl _
          · rw [hh]; simp [bitsAt]
          · exact (HSM.out.fr []).more (ho.fresh (Nat.le_refl _))
        clear ho hh
        go_wp2
        go_ret2
        exact HP.out
end Go.Proofs.Ytopdgpmeccdogaa
