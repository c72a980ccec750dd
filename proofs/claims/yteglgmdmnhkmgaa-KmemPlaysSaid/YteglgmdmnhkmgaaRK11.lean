/- The reference's Same at two equal rows; condition: both rows are held. -/
import Derived.Test.YteglgmdmnhkmgaaRK10
import Derived.Laws.StructEq
import Derived.BigQuiet
set_option linter.unusedVariables false
set_option linter.unusedSimpArgs false
namespace Go.Proofs.Yteglgmdmnhkmgaa
open Go.RowKit Go.MapKept

section
variable {P : Program} {d : Nat} {xs ys : Array Value} {f : Field} {fs : List Field} {a b : Value} {r s : Bool} {w : World}
theorem rk_flast (hn : (f.name == "_") = false) (ha : (part f.type xs f.offset).run P w = .ok a w) (hb : (part f.type ys f.offset).run P w = .ok b w) (he : (Op.equalIn d f.type a b).run P w = .ok r w) : (Op.eqFields d xs ys [f]).run P w = .ok r w := by
  have hn' : f.name ≠ "_" := by simpa using hn
  simp only [Op.eqFields, if_pos hn', Sem.run_bind, ha, hb, he, Result.andThen_ok]
  cases r <;> simp
theorem rk_fcons (hn : (f.name == "_") = false) (ha : (part f.type xs f.offset).run P w = .ok a w) (hb : (part f.type ys f.offset).run P w = .ok b w) (he : (Op.equalIn d f.type a b).run P w = .ok r w) (hr : (Op.eqFields d xs ys fs).run P w = .ok s w) : (Op.eqFields d xs ys (f :: fs)).run P w = .ok (r && s) w := by
  have hn' : f.name ≠ "_" := by simpa using hn
  rw [Op.eqFields]
  simp only [if_pos hn', Sem.run_bind, ha, hb, he, Result.andThen_ok]
  cases r
  · simp
  · simpa using hr
theorem rk_fagg {t : TypeId} {gs : Array Field} (hu : P.underlying t = some (.struct gs)) (hp : P.stoodInHeld t = false) (h : (Op.eqFields d xs ys gs.toList).run P w = .ok r w) : (Op.equalIn (d + 1) t (.agg xs) (.agg ys)).run P w = .ok r w := by
  have hf : P.fieldsOf t = gs := by simp [Program.fieldsOf, hu]
  rw [run_equalIn_struct (P := P) w d t xs ys (by rw [hf]; exact hu) hp, hf]
  exact h
end
theorem eqReg (d : Nat) (w : World) (x0 x1 : Int) (s : ByteArray) :
    (Op.equalIn (d + 2) 68 (.agg #[.int .i64 x0, .int .i64 x1, .string s]) (.agg #[.int .i64 x0, .int .i64 x1, .string s])).run Try.prog w = .ok true w := by
  refine (rk_fagg Try.underlying68 (by kernel_rfl) (r := true && (true && true)) ?_)
  refine rk_fcons (by rfl) (by go_simp; rfl) (by go_simp; rfl) (by go_simp) ?_
  refine rk_fcons (by rfl) (by go_simp; rfl) (by go_simp; rfl) (by go_simp) ?_
  exact rk_flast (by rfl) (by go_simp; rfl) (by go_simp; rfl) (by go_simp)
attribute [local go_sem high] eqReg
theorem rcells_at : ∀ (l : List (Nat × RA)) (i : Nat) (y : Nat × RA), l[i]? = some y → (rcells l)[i * 3]? = some (.int .i64 (y.1 : Nat)) ∧ (rcells l)[i * 3 + 1]? = some (.int .i64 (y.2.perm : Nat)) ∧ (rcells l)[i * 3 + 2]? = some (.string (bstr y.2.bytes))
  | [], i, p, h => by simp at h
  | q :: l, 0, p, h => by simp at h; subst h; exact ⟨rfl, rfl, rfl⟩
  | q :: l, i + 1, p, h => by
    have := rcells_at l i p (by simpa using h)
    have e : rcells (q :: l) = .int .i64 (q.1 : Nat) :: .int .i64 (q.2.perm : Nat) :: .string (bstr q.2.bytes) :: rcells l := rfl
    rw [e, show (i + 1) * 3 = i * 3 + 1 + 1 + 1 by omega]
    simpa using this
theorem own_reg {w : World} {base e n g m c : Nat} {l : List (Nat × RA)} (h : w.ownsRow base e 3 (.slice (some ⟨g, 0, none⟩) m c) n (rcells l)) (i : Nat) (y : Nat × RA) (hy : l[i]? = some y) :
    w.cell? ⟨g, i * 3, none⟩ = some (.int .i64 (y.1 : Nat)) ∧ w.cell? ⟨g, i * 3 + 1, none⟩ = some (.int .i64 (y.2.perm : Nat)) ∧ w.cell? ⟨g, i * 3 + 2, none⟩ = some (.string (bstr y.2.bytes)) := by
  have add : ∀ m, (⟨g, 0, none⟩ : Addr).add m = ⟨g, m, none⟩ := fun m => by unfold Addr.add; split <;> simp_all
  obtain ⟨h1, h2, h3⟩ := rcells_at l i y hy
  have a1 := h.cells (g := g) rfl _ _ h1
  have a2 := h.cells (g := g) rfl _ _ h2
  have a3 := h.cells (g := g) rfl _ _ h3
  rw [add] at a1 a2 a3
  exact ⟨a1, a2, a3⟩
theorem own_form3 {w : World} {base e n : Nat} {v : Value} {l : List (Nat × RA)} (h : w.ownsRow base e 3 v n (rcells l)) : ∃ A c, v = .slice A n c ∧ (0 < n → ∃ g, A = some ⟨g, 0, none⟩) := by
  rcases h.2 with ⟨h1, h2⟩ | ⟨g, cap, cur, hv, _⟩
  · exact ⟨none, 0, by rw [h1, h2], fun h0 => by omega⟩
  · exact ⟨_, cap, hv, fun _ => ⟨g, rfl⟩⟩
set_option maxRecDepth 100000 in
set_option maxHeartbeats 2000000 in
theorem same_R {w : World} {b1 b2 n : Nat} {v1 v2 : Value} {l : List (Nat × RA)} (h1 : w.ownsRow b1 68 3 v1 n (rcells l)) (h2 : w.ownsRow b2 68 3 v2 n (rcells l)) (hl : l.length = n) (hn : n < 4294967296) :
    Calls Try.prog 19 #[v1, v2] w fun e W => e = .returned (.bool true) ∧ Fr [] [] w W := by
  have hu := Try.underlying68
  obtain ⟨A1, k1, rfl, g1⟩ := own_form3 h1
  obtain ⟨A2, k2, rfl, g2⟩ := own_form3 h2
  have H1 := hide h1
  have H2 := hide h2
  have G1 := hide g1
  have G2 := hide g2
  have HL := hide hl
  clear h1 h2 g1 g2 hl
  go_enter Try.func19, Try.ntmps19
  go_wp2_with fail
  go_loopw [5] (fun v wr => ∃ i : Nat, i ≤ n ∧ v = .int .i64 i ∧ Fr [] [] w wr) (fun v _ => n - (intOf v).toNat)
  case atStart => exact ⟨0, by omega, rfl, Fr.refl _ _⟩
  case round =>
    obtain ⟨i, hi, rfl, hf⟩ := hrel
    have HF := hide hf
    by_cases hlt : i < n
    · obtain ⟨y, hy⟩ : ∃ y, l[i]? = some y := ⟨l[i]'(by rw [HL.out]; exact hlt), List.getElem?_eq_getElem _⟩
      obtain ⟨ga, rfl⟩ := G1.out (by omega)
      obtain ⟨gb, rfl⟩ := G2.out (by omega)
      have o1 := ownsRow_keep H1.out (w' := wr) (fun g hg => hf.block g (ownsRow_lt H1.out g hg) (by simp))
      have o2 := ownsRow_keep H2.out (w' := wr) (fun g hg => hf.block g (ownsRow_lt H2.out g hg) (by simp))
      obtain ⟨a0, a1, a2⟩ := own_reg o1 i y hy
      obtain ⟨d0, d1, d2⟩ := own_reg o2 i y hy
      have hi0 : (0 : Int) ≤ i := by omega
      have hi1 : (i : Int) < n := by omega
      clear o1 o2 hy hf
      go_wp2_with fail
      go_region
      go_wp2
      exact ⟨⟨i + 1, by omega, by simp, HF.out.trans ⟨rfl, rfl, rfl, Nat.le_refl _, fun _ _ _ => rfl, fun _ h => .inl h⟩⟩, by show n - ((i : Int) + 1).toNat < n - ((i : Int)).toNat; omega⟩
    · obtain rfl : i = n := by omega
      go_wp2
      go_ret
      exact ⟨rfl, HF.out⟩
end Go.Proofs.Yteglgmdmnhkmgaa
