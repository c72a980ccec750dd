/- Plain facts about a memory of N like regions; conditions at each. -/
import Derived.Test.YtmgocjclopfeeaaFPure2
set_option linter.unusedVariables false
set_option linter.unusedSimpArgs false
namespace Go.Proofs.Ytmgocjclopfeeaa

def cad (j : Nat) : Nat := (j + 1) * 4294967296
def KN (f : Nat → List Nat) (N : Nat) : KA := ⟨N, 0, (List.range N).map fun q => (q + 1, ⟨f q, 3, false⟩)⟩
theorem KN.get (f : Nat → List Nat) (N q : Nat) (h : q < N) : (KN f N).get (q + 1) = some ⟨f q, 3, false⟩ := by
  have key : ∀ M, (((List.range M).map fun q => (q + 1, (⟨f q, 3, false⟩ : RA))).find? (fun x => x.1 == q + 1)) = if q < M then some (q + 1, ⟨f q, 3, false⟩) else none := by
    intro M
    induction M with
    | zero => simp
    | succ M ih =>
      rw [List.range_succ, List.map_append, List.find?_append, ih]
      by_cases h1 : q < M
      · rw [if_pos h1, if_pos (by omega)]; rfl
      · rw [if_neg h1]
        by_cases h2 : q = M
        · subst h2; simp
        · rw [if_neg (by omega)]
          have : (M == q) = false := by rw [beq_eq_false_iff_ne]; omega
          simp [this]
  simp only [KA.get, KN, key, if_pos h]
  rfl
theorem KN.upd (f : Nat → List Nat) (N c : Nat) (g : List Nat → List Nat) : (KN f N).upd (c + 1) (fun R => { R with bytes := g R.bytes }) = KN (fun q => if q = c then g (f q) else f q) N := by
  simp only [KA.upd, KN, List.map_map, KA.mk.injEq, true_and]
  apply List.map_congr_left
  intro q hq
  simp only [Function.comp_apply, Nat.add_right_cancel_iff]
  split <;> rfl
theorem KN.alloc (sz : Nat) (h1 : 1 ≤ sz) (h2 : sz ≤ 1048576) (j : Nat) (hj : j < 8) : (KN (fun _ => List.replicate sz 0) j).alloc sz 3 = (cad j, 0, KN (fun _ => List.replicate sz 0) (j + 1)) := by
  unfold KA.alloc
  rw [if_neg (by omega), if_neg (by simp [KN]), if_neg (by simp [KN]; omega)]
  have e : (KN (fun _ => List.replicate sz 0) j).allocOk sz 3 = KN (fun _ => List.replicate sz 0) (j + 1) := by
    simp [KA.allocOk, KN, List.range_succ]
  rw [e]
  rfl
theorem KN.bytes (f : Nat → List Nat) (N c r n : Nat) (h : c < N) (hr : r < 4294967296) (hn : n ≤ 1048576) (hb : r + n ≤ (f c).length) : (KN f N).bytes (cad c + r) n = (((f c).drop r).take n, 0) :=
  bytes_ok (KN f N) (c + 1) r n ⟨f c, 3, false⟩ (KN.get f N c h) (by omega) (by show c + 1 ≤ N; omega) hr hn hb
theorem KN.put (f : Nat → List Nat) (N c r : Nat) (s : List Nat) (h : c < N) (hr : r < 4294967296) (hn : s.length ≤ 1048576) (hb : r + s.length ≤ (f c).length) : (KN f N).put (cad c + r) s = (0, KN (fun q => if q = c then splice (f q) r s else f q) N) := by
  rw [show (KN f N).put (cad c + r) s = _ from put_ok (KN f N) (c + 1) r s ⟨f c, 3, false⟩ (KN.get f N c h) (by omega) (by show c + 1 ≤ N; omega) hr hn hb]
  rw [KN.upd f N c fun l => splice l r s]
theorem KN.fputs (s : FSpec) (i : Nat) (v : List Nat) (f : Nat → List Nat) (N j : Nat) (hj : j ≤ N) (hr : i * fwide s.value < 4294967296) (hn : v.length ≤ 1048576) (hb : ∀ q, q < N → i * fwide s.value + v.length ≤ (f q).length) :
    fputs s i v ((List.range j).map cad) (KN f N) = KN (fun q => if q < j then splice (f q) (i * fwide s.value) v else f q) N := by
  induction j with
  | zero => simp [Go.Proofs.Ytmgocjclopfeeaa.fputs]
  | succ j ih =>
    have e : ∀ l a k, Go.Proofs.Ytmgocjclopfeeaa.fputs s i v (l ++ [a]) k = ((Go.Proofs.Ytmgocjclopfeeaa.fputs s i v l k).put (a + i * fwide s.value) v).2 := fun l a k => by simp [Go.Proofs.Ytmgocjclopfeeaa.fputs, List.foldl_append]
    rw [List.range_succ, List.map_append, List.map_cons, List.map_nil, e, ih (by omega)]
    rw [KN.put _ N j _ v (by omega) hr hn (by simp only [Nat.lt_irrefl, if_false]; exact hb j (by omega))]
    simp only
    congr 1
    funext q
    by_cases h1 : q = j
    · subst h1; simp
    · by_cases h2 : q < j
      · rw [if_neg h1, if_pos h2, if_pos (by omega)]
      · rw [if_neg h1, if_neg h2, if_neg (by omega)]
end Go.Proofs.Ytmgocjclopfeeaa
