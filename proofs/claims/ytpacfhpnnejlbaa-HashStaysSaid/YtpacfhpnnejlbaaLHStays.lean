/- The law HashStays computes true for every argument and leaves old memory alone; no condition. -/
import Derived.Test.YtpacfhpnnejlbaaHAwake
set_option linter.unusedVariables false
set_option linter.unusedSimpArgs false
namespace Go.Proofs.Ytpacfhpnnejlbaa
open Go.RowKit Go.MapKept
open Go.ChangeMaps (setBlock)

/-! ### Plain data: a memory of one region -/
def kv (b : List Nat) (d : Bool) : KA := ⟨1, 0, [(1, ⟨b, 3, d⟩)]⟩
theorem kv_hi : hi32 4294967296 = 1 := rfl
theorem kv_lo : lo32 4294967296 = 0 := rfl
theorem kv_get (b : List Nat) (d : Bool) : (kv b d).get 1 = some ⟨b, 3, d⟩ := rfl
theorem kv_span (b : List Nat) (d : Bool) (n : Int) : (kv b d).span 4294967296 n 0 = if (b.length : Int) - n < 0 then .error 22 else .ok ⟨b, 3, d⟩ := by
  unfold KA.span
  rw [kv_hi, kv_lo, kv_get]
  simp [kv]
theorem kv_alloc (n : Nat) (h1 : 1 ≤ n) (h2 : n ≤ 1048576) : KA.alloc (n : Int) 3 ⟨0, 0, []⟩ = (4294967296, 0, kv (List.replicate n 0) false) := by
  unfold KA.alloc
  rw [if_neg (by omega), if_neg (by decide), if_neg (by decide)]
  simp [KA.allocOk, kv]
theorem kv_put (b c : List Nat) (hl : c.length = b.length) (h : b.length ≤ 1048576) : (kv b false).put 4294967296 c = (0, kv c false) := by
  unfold KA.put
  rw [if_neg (by omega), kv_span, if_neg (by omega)]
  simp [KA.upd, kv, kv_hi, kv_lo, splice, hl]
theorem kv_bytes (b : List Nat) (d : Bool) (n : Nat) (hn : n = b.length) (h : n ≤ 1048576) : (kv b d).bytes 4294967296 n = (b, 0) := by
  unfold KA.bytes
  rw [if_neg (by omega), kv_span, if_neg (by omega)]
  simp [kv_lo, hn]
theorem kv_retire (b : List Nat) : (kv b false).retire 4294967296 = (0, kv b true) := by
  unfold KA.retire KA.first
  rw [kv_hi, kv_lo, kv_get]
  simp [KA.upd, kv]
def k0 : KA := ⟨1, 0, []⟩
theorem kv_grace (b : List Nat) : (kv b true).grace = k0 := by simp [KA.grace, kv, k0]
theorem k0_bytes : k0.bytes 4294967296 1 = ([], 21) := by decide +kernel
def hv (key : ByteArray) (c : Nat) : HA := ⟨[⟨key, 4294967296, c⟩], c⟩
def hvs (key value : ByteArray) : HSpec := ⟨1, key.size, value.size, 4⟩
theorem hv_find (key : ByteArray) (c : Nat) : (hv key c).find key = some ⟨key, 4294967296, c⟩ := by simp [HA.find, hv]
theorem hv_mark (key : ByteArray) (c : Nat) : (hv key c).mark key = hv key (c + 1) := by simp [HA.mark, hv, HE.mark]
section
variable (key value other : ByteArray) (h1 : 1 ≤ value.size) (h2 : value.size ≤ 64)
include h1 h2
theorem st1 : (HA.mk [] 0).update (hvs key value) ⟨0, 0, []⟩ key value 1 = (0, hv key 1, kv (nats value) false) := by
  have e := kv_alloc value.size h1 (by omega)
  have e2 := kv_put (List.replicate value.size 0) (nats value) (by rw [length_nats]; simp) (by simp; omega)
  have e3 : (HA.mk [] 0).room (hvs key value) (kv (List.replicate value.size 0) false) = (HA.mk [] 0, kv (List.replicate value.size 0) false) := by simp [HA.room, hvs]
  unfold HA.update
  rw [if_neg (by simp [hvs])]
  simp only [HA.find, List.find?_nil]
  rw [if_neg (by decide), if_neg (by simp [hvs])]
  unfold HA.insert
  rw [show (hvs key value).value = value.size from rfl, e]
  simp only [ne_eq, not_true_eq_false, if_false, e3, e2]
  simp [HA.put, HA.mark, hv, HE.mark]
theorem st2 (ho : other.size = value.size) : (hv key 2).update (hvs key value) (kv (nats value) false) key other 2 = (0, hv key 3, kv (nats other) false) := by
  have e2 := kv_put (nats value) (nats other) (by rw [length_nats, length_nats]; exact ho) (by rw [length_nats]; omega)
  unfold HA.update
  rw [if_neg (by simp [hvs]; omega), hv_find]
  simp only
  rw [if_neg (by decide), e2, hv_mark]
end
theorem st_look (key : ByteArray) (c : Nat) : (hv key c).lookup key = (4294967296, hv key (c + 1)) := by
  unfold HA.lookup
  rw [hv_find]
  simp only
  rw [hv_mark]
theorem st_del (key value : ByteArray) (c : Nat) (b : List Nat) : (hv key c).delete (hvs key value) (kv b false) key = (0, HA.mk [] c, kv b true) := by
  unfold HA.delete
  rw [if_neg (by simp [hvs]), hv_find]
  simp only [kv_retire]
  simp [HA.drop, hv]
theorem st_none (key : ByteArray) (c : Nat) : (HA.mk [] c).lookup key = (0, HA.mk [] c) := rfl
theorem hvs_may (key value : ByteArray) (h1 : 1 ≤ key.size ∧ key.size ≤ 64) (h2 : 1 ≤ value.size ∧ value.size ≤ 64) : (hvs key value).May := ⟨.inl rfl, ⟨h1.1, by show key.size ≤ 512; omega⟩, ⟨h2.1, by show value.size ≤ 4096; omega⟩, ⟨by show 1 ≤ 4; omega, by show 4 ≤ 4096; omega⟩⟩

set_option maxRecDepth 100000 in
set_option maxHeartbeats 800000 in
theorem law_hstays (key value other : ByteArray) (w : World) (hw0 : key.size ≤ 9223372036854775807) (hw1 : value.size ≤ 9223372036854775807) (hw2 : other.size ≤ 9223372036854775807) : Calls Try.prog 5 #[.string key, .string value, .string other] w fun e w' => e = .returned (.bool true) ∧ Below w.heap.size w w' := by
  by_cases hg : (1 ≤ value.size ∧ value.size ≤ 64) ∧ (1 ≤ key.size ∧ key.size ≤ 64) ∧ other.size = value.size
  · obtain ⟨⟨v1, v2⟩, ⟨y1, y2⟩, ho⟩ := hg
    have hne : ((other.size : Int) != (value.size : Int)) = false := by rw [bne_eq_false_iff_eq]; omega
    have hmay := hvs_may key value ⟨y1, y2⟩ ⟨v1, v2⟩
    have E1 := hide (st1 key value v1 v2)
    have E2 := hide (st2 key value other v1 v2 ho)
    have hvl : (value.size : Int) = ((value.size : Nat) : Int) := rfl
    have B1 := hide (kv_bytes (nats value) false value.size (length_nats value).symm (by omega))
    have B2 := hide (kv_bytes (nats other) true value.size (by rw [length_nats, ho]) (by omega))
    clear hvl ho
    go_enter Try.func5, Try.ntmps5
    go_wp2_with fail
    refine (new_S w).mono ?_
    rintro e w1 ⟨m, F, rfl, h0, f0⟩
    have hn := hide (hnew_S h0 (hvs key value) hmay)
    clear hmay
    go_wp2_with fail
    refine hn.out.mono ?_
    rintro e w2 ⟨x, G, rfl, H0, f2⟩
    have g2 : Fr [] (G ++ F) w w2 := Fr.beside f0 f2
    clear h0 hn f0 f2
    go_wp2_with fail
    refine (hupdate_K H0 _ _ _ (by show 0 + 1 < _; omega) (by show 0 + 1 < _; omega) (by exact List.nodup_nil) (by show 0 < 4; omega) E1.out).mono ?_
    rintro e w3 ⟨G3, F3, rfl, H3, f3⟩
    replace f3 := g2.trans f3
    clear H0 g2
    go_wp2_with fail
    refine (hlookup_K H3 _ (by show 1 + 1 < _; omega) (st_look key 1)).mono ?_
    rintro e w4 ⟨G4, F4, rfl, H4, f4⟩
    replace f4 := f3.trans f4
    clear H3 f3
    go_wp2_with fail
    refine (bytes_S H4.ks (by decide) (by decide) B1.out).mono ?_
    rintro e w' ⟨rfl, rfl⟩
    unfold strOf
    rw [bstr_nats]
    clear B1
    go_wp2_with fail
    refine (hupdate_K H4 _ _ _ (by show 2 + 1 < _; omega) (by show 1 + 1 < _; omega) (by simp [hv]) (by show 0 < 4; omega) E2.out).mono ?_
    rintro e w5 ⟨G5, F5, rfl, H5, f5⟩
    replace f5 := f4.trans f5
    clear H4 f4 E1 E2
    go_wp2_with fail
    refine (hlookup_K H5 _ (by show 3 + 1 < _; omega) (st_look key 3)).mono ?_
    rintro e w6 ⟨G6, F6, rfl, H6, f6⟩
    replace f6 := f5.trans f6
    clear H5 f5
    go_wp2_with fail
    refine (hdelete_K H6 _ (st_del key value 4 (nats other))).mono ?_
    rintro e w7 ⟨G7, F7, rfl, H7, f7⟩
    replace f7 := f6.trans f7
    clear H6 f6
    go_wp2_with fail
    refine (bytes_S H7.ks (by decide) (by decide) B2.out).mono ?_
    rintro e w' ⟨rfl, rfl⟩
    unfold strOf
    rw [bstr_nats]
    clear B2
    go_wp2_with fail
    refine (grace_S H7.ks (kv_grace (nats other))).mono ?_
    rintro e w8 ⟨F8, rfl, k8, f8⟩
    have H8 := H7.ofK k8 f8
    replace f8 := f7.trans (f8.right)
    clear H7 f7 k8
    go_wp2_with fail
    refine (bytes_S H8.ks (by decide) (by decide) k0_bytes).mono ?_
    rintro e w' ⟨rfl, rfl⟩
    go_wp2_with fail
    refine (hlookup_K H8 _ (by show 4 + 1 < _; omega) (st_none key 4)).mono ?_
    rintro e w9 ⟨G9, F9, rfl, H9, f9⟩
    replace f9 := f8.trans f9
    clear H8 f8
    go_wp2_with fail
    refine (hawake _).mono ?_
    rintro e w' ⟨rfl, hb5⟩
    go_wp2
    go_ret
    exact ⟨rfl, f9.below0.trans (hb5.mono f9.size)⟩
  by_cases c1 : value.size < 1
  · have c1' : (value.size : Int) < 1 := by omega
    clear hg c1
    go_enter Try.func5, Try.ntmps5
    go_wp2_with fail
    refine (hawake _).mono ?_
    rintro e w' ⟨rfl, hb5⟩
    go_wp2
    go_ret
    exact ⟨rfl, hb5⟩
  have c1' : (1 : Int) ≤ value.size := by omega
  by_cases c2 : 64 < value.size
  · have c2' : (64 : Int) < value.size := by omega
    clear hg c1 c2
    go_enter Try.func5, Try.ntmps5
    go_wp2_with fail
    refine (hawake _).mono ?_
    rintro e w' ⟨rfl, hb5⟩
    go_wp2
    go_ret
    exact ⟨rfl, hb5⟩
  have c2' : (value.size : Int) ≤ 64 := by omega
  by_cases c3 : key.size < 1
  · have c3' : (key.size : Int) < 1 := by omega
    clear hg c1 c2 c3
    go_enter Try.func5, Try.ntmps5
    go_wp2_with fail
    refine (hawake _).mono ?_
    rintro e w' ⟨rfl, hb5⟩
    go_wp2
    go_ret
    exact ⟨rfl, hb5⟩
  have c3' : (1 : Int) ≤ key.size := by omega
  by_cases c4 : 64 < key.size
  · have c4' : (64 : Int) < key.size := by omega
    clear hg c1 c2 c3 c4
    go_enter Try.func5, Try.ntmps5
    go_wp2_with fail
    refine (hawake _).mono ?_
    rintro e w' ⟨rfl, hb5⟩
    go_wp2
    go_ret
    exact ⟨rfl, hb5⟩
  have c4' : (key.size : Int) ≤ 64 := by omega
  have hne : ((other.size : Int) != (value.size : Int)) = true := by
    rw [bne_iff_ne]
    intro e
    exact hg ⟨⟨by omega, by omega⟩, ⟨by omega, by omega⟩, by omega⟩
  clear hg c1 c2 c3 c4
  go_enter Try.func5, Try.ntmps5
  go_wp2_with fail
  refine (hawake _).mono ?_
  rintro e w' ⟨rfl, hb5⟩
  go_wp2
  go_ret
  exact ⟨rfl, hb5⟩
end Go.Proofs.Ytpacfhpnnejlbaa
