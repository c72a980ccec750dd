/- A row of instructions that came in, as printed texts want it; no condition. -/
import Derived.Test.YthkbncoklgpobaaSized
import Derived.Test.YthkbncoklgpobaaABack
set_option linter.unusedVariables false
namespace Go.Proofs.Ythkbncoklgpobaa
open Go.RowKit
open Go.Proofs.YthkbncoklgpobaaW.PrintWords Go.Proofs.YthkbncoklgpobaaW.PrintLast Go.Proofs.YthkbncoklgpobaaW.PrintMore
open QArmDecodes (S32 k32 z32)
theorem row_arm {w : World} {a : Option Addr} {len cap : Nat} (h : RowF w a len cap [.int .i64, .int .i64, .int .i64, .int .i64, .int .i64]) (hl : len ≤ 9223372036854775807) :
    ∃ xs : List S32, xs.length = len ∧ Kd.C k32 w a len xs := by
  rcases h with rfl | ⟨b, o, rfl, h1, h2, h3⟩
  · exact ⟨[], rfl, rfl, by omega, fun h => by omega⟩
  · have key : ∀ i, i < len → ∃ x : S32, w.cell? ⟨b, o + (i * 5), none⟩ = some (.int .i64 x.f0) ∧ w.cell? ⟨b, o + (i * 5 + 1), none⟩ = some (.int .i64 x.f1) ∧ w.cell? ⟨b, o + (i * 5 + 2), none⟩ = some (.int .i64 x.f2) ∧
        w.cell? ⟨b, o + (i * 5 + 3), none⟩ = some (.int .i64 x.f3) ∧ w.cell? ⟨b, o + (i * 5 + 4), none⟩ = some (.int .i64 x.f4) := by
      intro i hi
      obtain ⟨v0, c0, n0, rfl, _⟩ := h3 i hi 0 _ rfl
      obtain ⟨v1, c1, n1, rfl, _⟩ := h3 i hi 1 _ rfl
      obtain ⟨v2, c2, n2, rfl, _⟩ := h3 i hi 2 _ rfl
      obtain ⟨v3, c3, n3, rfl, _⟩ := h3 i hi 3 _ rfl
      obtain ⟨v4, c4, n4, rfl, _⟩ := h3 i hi 4 _ rfl
      exact ⟨⟨n0, n1, n2, n3, n4⟩, c0, c1, c2, c3, c4⟩
    have list : ∀ n, n ≤ len → ∃ xs : List S32, xs.length = n ∧ ∀ (i : Nat) (hi : i < xs.length), w.cell? ⟨b, o + (i * 5), none⟩ = some (.int .i64 xs[i].f0) ∧ w.cell? ⟨b, o + (i * 5 + 1), none⟩ = some (.int .i64 xs[i].f1) ∧
        w.cell? ⟨b, o + (i * 5 + 2), none⟩ = some (.int .i64 xs[i].f2) ∧ w.cell? ⟨b, o + (i * 5 + 3), none⟩ = some (.int .i64 xs[i].f3) ∧ w.cell? ⟨b, o + (i * 5 + 4), none⟩ = some (.int .i64 xs[i].f4) := by
      intro n
      induction n with
      | zero => exact fun _ => ⟨[], rfl, fun i hi => by simp at hi⟩
      | succ n ih =>
        intro hn
        obtain ⟨xs, hxl, hx⟩ := ih (by omega)
        obtain ⟨x, hx'⟩ := key n (by omega)
        refine ⟨xs ++ [x], by simp [hxl], fun i hi => ?_⟩
        by_cases c : i < xs.length
        · rw [List.getElem_append_left c]; exact hx i c
        · obtain rfl : i = xs.length := by simp at hi; omega
          rw [List.getElem_append_right (Nat.le_refl _)]
          simp only [Nat.sub_self, List.getElem_cons_zero]
          rw [hxl]; exact hx'
    obtain ⟨xs, hxl, hx⟩ := list len (Nat.le_refl _)
    refine ⟨xs, hxl, hxl, hl, fun _ => ⟨_, rfl, fun j p hp => ?_⟩⟩
    obtain ⟨hj, rfl⟩ := List.getElem?_eq_some_iff.1 hp
    obtain ⟨c0, c1, c2, c3, c4⟩ := hx j hj
    have add : ∀ m, (⟨b, o, none⟩ : Addr).add m = ⟨b, o + m, none⟩ := fun m => addr_add b o m
    refine ⟨[.int .i64 xs[j].f0, .int .i64 xs[j].f1, .int .i64 xs[j].f2, .int .i64 xs[j].f3, .int .i64 xs[j].f4], rfl, ?_, fun i u hu => ?_⟩
    · exact ⟨[_], [_, _, _, _], rfl, rfl, [_], [_, _, _], rfl, rfl, [_], [_, _], rfl, rfl, [_], [_], rfl, rfl, rfl⟩
    · rw [add]
      match i, hu with
      | 0, hu => cases hu; exact c0
      | 1, hu => cases hu; exact c1
      | 2, hu => cases hu; exact c2
      | 3, hu => cases hu; exact c3
      | 4, hu => cases hu; exact c4
end Go.Proofs.Ythkbncoklgpobaa
