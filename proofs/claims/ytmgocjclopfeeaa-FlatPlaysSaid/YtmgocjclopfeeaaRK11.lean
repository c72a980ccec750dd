/- The reference's Same at two equal rows; condition: both rows are held. -/
import Derived.Test.YtmgocjclopfeeaaRK10
import Derived.Laws.StructEq
import Derived.BigQuiet
set_option linter.unusedVariables false
set_option linter.unusedSimpArgs false
namespace Go.Proofs.Ytmgocjclopfeeaa
open Go.RowKit Go.MapKept

section
variable {P : Program} {d : Nat} {xs ys : Array Value} {f : Field} {fs : List Field} {a b : Value} {r s : Bool} {w : World}
theorem rk_flast (hn : (f.name == "_") = false) (ha : (part f.type xs f.offset).run P w = .ok a w) (hb : (part f.type ys f.offset).run P w = .ok b w) (he : (Op.equalIn d f.type a b).run P w = .ok r w) : (Op.eqFields d xs ys [f]).run P w = .ok r w := by
  have hn' : f.name ≠ "_" := by simpa using hn
  simp only [Op.eqFields, if_pos hn', Sem.run_bind, ha, hb, he, Result.andThen_ok]
  cases r <;> simp
theorem rk_fcons (hn : (f.name == "_") = false) (ha : (part f.type xs f.offset).run P w = .ok a w) (hb : (part f.type ys f.offset).run P w = .ok b w) (he : (Op.equalIn d f.type a b).run P w = .ok r w) (hr : (Op.eqFields d xs ys fs).run P w = .ok s w) : (Op.eqFields d xs ys (f :: fs)).run P w = .ok (r && s) w := by
  have hn' : f.name ≠ "_" := by simpa using hn
  rw [Op.eqFields]
  simp only [if_pos hn', Sem.run_bind, ha, hb, he, Result.andThen_ok]
  cases r
  · simp
  · simpa using hr
theorem rk_fagg {t : TypeId} {gs : Array Field} (hu : P.underlying t = some (.struct gs)) (hp : P.stoodInHeld t = false) (h : (Op.eqFields d xs ys gs.toList).run P w = .ok r w) : (Op.equalIn (d + 1) t (.agg xs) (.agg ys)).run P w = .ok r w := by
  have hf : P.fieldsOf t = gs := by simp [Program.fieldsOf, hu]
  rw [run_equalIn_struct (P := P) w d t xs ys (by rw [hf]; exact hu) hp, hf]
  exact h
end
theorem eqReg (d : Nat) (w : World) (x0 x1 : Int) (s : ByteArray) :
    (Op.equalIn (d + 2) 97 (.agg #[.int .i64 x0, .int .i64 x1, .string s]) (.agg #[.int .i64 x0, .int .i64 x1, .string s])).run Try.prog w = .ok true w := by
  refine (rk_fagg Try.underlying97 (by kernel_rfl) (r := true && (true && true)) ?_)
  refine rk_fcons (by rfl) (by go_simp; rfl) (by go_simp; rfl) (by go_simp) ?_
  refine rk_fcons (by rfl) (by go_simp; rfl) (by go_simp; rfl) (by go_simp) ?_
  exact rk_flast (by rfl) (by go_simp; rfl) (by go_simp; rfl) (by go_simp)
attribute [local go_sem high] eqReg
theorem rcells_at : ∀ (l : List (Nat × RA)) (i : Nat) (y : Nat × RA), l[i]? = some y → (rcells l)[i * 3]? = some (.int .i64 (y.1 : Nat)) ∧ (rcells l)[i * 3 + 1]? = some (.int .i64 (y.2.perm : Nat)) ∧ (rcells l)[i * 3 + 2]? = some (.string (bstr y.2.bytes))
  | [], i, p, h => by simp at h
  | q :: l, 0, p, h => by simp at h; subst h; exact ⟨rfl, rfl, rfl⟩
  | q :: l, i + 1, p, h => by
    have := rcells_at l i p (by simpa using h)
    have e : rcells (q :: l) = .int .i64 (q.1 : Nat) :: .int .i64 (q.2.perm : Nat) :: .string (bstr q.2.bytes) :: rcells l := rfl
    rw [e, show (i + 1) * 3 = i * 3 + 1 + 1 + 1 by omega]
    simpa using this
theorem own_reg {w : World} {base e n g m c : Nat} {l : List (Nat × RA)} (h : w.ownsRow base e 3 (.slice (some ⟨g, 0, none⟩) m c) n (rcells l)) (i : Nat) (y : Nat × RA) (hy : l[i]? = some y) :
    w.cell? ⟨g, i * 3, none⟩ = some (.int .i64 (y.1 : Nat)) ∧ w.cell? ⟨g, i * 3 + 1, none⟩ = some (.int .i64 (y.2.perm : Nat)) ∧ w.cell? ⟨g, i * 3 + 2, none⟩ = some (.string (bstr y.2.bytes)) := by
  have add : ∀ m, (⟨g, 0, none⟩ : Addr).add m = ⟨g, m, none⟩ := fun m => by unfold Addr.add; split <;> simp_all
  obtain ⟨h1, h2, h3⟩ := rcells_at l i y hy
  have a1 := h.cells (g := g) rfl _ _ h1
  have a2 := h.cells (g := g) rfl _ _ h2
  have a3 := h.cells (g := g) rfl _ _ h3
  rw [add] at a1 a2 a3
  exact ⟨a1, a2, a3⟩
theorem own_form3 {w : World} {base e n : Nat} {v : Value} {l : List (Nat × RA)} (h : w.ownsRow base e 3 v n (rcells l)) : ∃ A c, v = .slice A n c ∧ (0 < n → ∃ g, A = some ⟨g, 0, none⟩) := by
  rcases h.2 with ⟨h1, h2⟩ | ⟨g, cap, cur, hv, _⟩
  · exact ⟨none, 0, by rw [h1, h2], fun h0 => by omega⟩
  · exact ⟨_, cap, hv, fun _ => ⟨g, rfl⟩⟩
end Go.Proofs.Ytmgocjclopfeeaa
