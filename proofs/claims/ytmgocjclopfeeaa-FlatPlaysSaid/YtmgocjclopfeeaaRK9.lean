/- The reference's memory: Alloc, whole; condition: the memory is held, and fewer than 2^32 - 1 regions were made. -/
import Derived.Test.YtmgocjclopfeeaaRK8
set_option linter.unusedVariables false
set_option linter.unusedSimpArgs false
namespace Go.Proofs.Ytmgocjclopfeeaa
open Go.RowKit Go.MapKept

set_option maxRecDepth 100000 in
theorem alloc_arg_R (s p : Int) (x : Nat) (w : World) (h : s < 1 ∨ 1048576 < s ∨ p < 1 ∨ 3 < p) :
    Calls Try.prog 33 #[.pointer (some ⟨x, 0, none⟩), .int .i64 s, .int .i64 p] w (Tells w (.tuple #[.int .u64 0, .int .i64 1])) := by
  by_cases h1 : s < 1
  · clear h
    go_enter Try.func33, Try.ntmps33
    go_wp2
    go_ret2
    exact ⟨rfl, rfl⟩
  by_cases h2 : 1048576 < s
  · clear h
    go_enter Try.func33, Try.ntmps33
    go_wp2
    go_ret2
    exact ⟨rfl, rfl⟩
  by_cases h3 : p < 1
  · clear h
    go_enter Try.func33, Try.ntmps33
    go_wp2
    go_ret2
    exact ⟨rfl, rfl⟩
  have h4 : 3 < p := by omega
  clear h
  go_enter Try.func33, Try.ntmps33
  go_wp2
  go_ret2
  exact ⟨rfl, rfl⟩
section
variable {w : World} {x : Nat} {ls : List RE} {sv : Value} {k : KA} (h : RM w x ls sv k) {s p : Int} (h1 : ¬ s < 1) (h2 : ¬ 1048576 < s) (h3 : ¬ p < 1) (h4 : ¬ 3 < p)
include h h1 h2 h3 h4
set_option maxRecDepth 100000 in
theorem alloc_fails_R (ht : k.til = 1) : Calls Try.prog 33 #[.pointer (some ⟨x, 0, none⟩), .int .i64 s, .int .i64 p] w (RPostS x (rfoot x sv ls) w (.tuple #[.int .u64 0, .int .i64 2]) { k with til := 0 }) := by
  obtain ⟨d0, d1, d2, dz⟩ := h.cells
  have dz2 := dz 2
  rw [ht] at d2
  have HP : Hid (RPostS x (rfoot x sv ls) w (.tuple #[.int .u64 0, .int .i64 2]) { k with til := 0 } (.returned (.tuple #[.int .u64 0, .int .i64 2])) (w.setCell ⟨x, 2, none⟩ (.int .i64 ((0 : Nat) : Int)))) :=
    hide ⟨_, rfl, ⟨ls, sv, h.own _ (memO_til h.hx 0) (fun b _ hb => setCell_other hb) (by simp [World.setCell]) rfl rfl, rfl⟩, Fr.setCell (by unfold rfoot; simp) _⟩
  clear dz h ht
  go_enter Try.func33, Try.ntmps33
  go_wp2
  go_ret2
  exact HP.out
set_option maxRecDepth 100000 in
theorem alloc_full0_R (ht : k.til = 0) (hf : k.live.length = 4096) : Calls Try.prog 33 #[.pointer (some ⟨x, 0, none⟩), .int .i64 s, .int .i64 p] w (RPostS x (rfoot x sv ls) w (.tuple #[.int .u64 0, .int .i64 2]) k) := by
  obtain ⟨d0, d1, d2, dz⟩ := h.cells
  rw [ht] at d2
  rw [hf] at d1
  have HP : Hid (RPostS x (rfoot x sv ls) w (.tuple #[.int .u64 0, .int .i64 2]) k (.returned (.tuple #[.int .u64 0, .int .i64 2])) w) := hide ⟨_, rfl, ⟨ls, sv, h, rfl⟩, Fr.refl _ _⟩
  clear dz h ht hf
  go_enter Try.func33, Try.ntmps33
  go_wp2
  go_ret2
  exact HP.out
set_option maxRecDepth 100000 in
theorem alloc_full1_R {T : Nat} (ht : k.til = T + 2) (htl : k.til ≤ 1048576) (hf : k.live.length = 4096) : Calls Try.prog 33 #[.pointer (some ⟨x, 0, none⟩), .int .i64 s, .int .i64 p] w (RPostS x (rfoot x sv ls) w (.tuple #[.int .u64 0, .int .i64 2]) { k with til := T + 1 }) := by
  obtain ⟨d0, d1, d2, dz⟩ := h.cells
  have dz2 := dz 2
  rw [hf] at d1
  have HP : Hid (RPostS x (rfoot x sv ls) w (.tuple #[.int .u64 0, .int .i64 2]) { k with til := T + 1 } (.returned (.tuple #[.int .u64 0, .int .i64 2])) (w.setCell ⟨x, 2, none⟩ (.int .i64 ((T + 1 : Nat) : Int)))) :=
    hide ⟨_, rfl, ⟨ls, sv, h.own _ (memO_til h.hx (T + 1)) (fun b _ hb => setCell_other hb) (by simp [World.setCell]) rfl rfl, rfl⟩, Fr.setCell (by unfold rfoot; simp) _⟩
  have hc1 : ((T + 1 : Nat) : Int) = (k.til : Int) - 1 := by omega
  have htq : ((k.til : Int) == 1) = false := by simp; omega
  have htp : (0 : Int) < k.til := by omega
  rw [hc1] at HP
  clear dz h ht hf hc1
  go_enter Try.func33, Try.ntmps33
  go_wp2
  go_ret2
  exact HP.out
end
theorem alloc_R {w : World} {x : Nat} {k k' : KA} {G : List Nat} (h : RS w x k G) (hw : WF k) (hm : k.made + 1 < 4294967296) {s p : Int} {a : Nat} {e : Int} (E : k.alloc s p = (a, e, k')) :
    Calls Try.prog 33 #[.pointer (some ⟨x, 0, none⟩), .int .i64 s, .int .i64 p] w (RPostS x G w (.tuple #[.int .u64 (a : Nat), .int .i64 e]) k') := by
  obtain ⟨ls, sv, h2, rfl⟩ := h
  unfold KA.alloc at E
  by_cases c : s < 1 ∨ 1048576 < s ∨ p < 1 ∨ 3 < p
  · rw [if_pos c] at E
    cases E
    exact (alloc_arg_R s p x w c).mono fun e w' ⟨e1, e2⟩ => ⟨_, e1, ⟨ls, sv, e2 ▸ h2, rfl⟩, e2 ▸ Fr.refl _ _⟩
  rw [if_neg c] at E
  have c1 : ¬ s < 1 := by omega
  have c2 : ¬ 1048576 < s := by omega
  have c3 : ¬ p < 1 := by omega
  have c4 : ¬ 3 < p := by omega
  by_cases c5 : k.til = 1
  · rw [if_pos c5] at E
    cases E
    exact alloc_fails_R h2 c1 c2 c3 c4 c5
  rw [if_neg c5] at E
  have hlv := hw.lv
  by_cases c6 : 4096 ≤ k.live.length
  · rw [if_pos c6] at E
    cases E
    by_cases c7 : k.til = 0
    · have e : ({ k with til := k.til - 1 } : KA) = k := by rw [c7]; obtain ⟨a, b, c⟩ := k; simp at c7; subst c7; rfl
      rw [e]
      exact alloc_full0_R h2 c1 c2 c3 c4 c7 (by omega)
    · obtain ⟨T, hT⟩ : ∃ T, k.til = T + 2 := ⟨k.til - 2, by omega⟩
      rw [show k.til - 1 = T + 1 by omega]
      exact alloc_full1_R h2 c1 c2 c3 c4 hT hw.tl (by omega)
  · rw [if_neg c6] at E
    cases E
    unfold KA.allocOk
    by_cases c7 : k.til = 0
    · rw [show k.til - 1 = k.til by omega]
      exact alloc_ok0_R h2 hw c1 c2 c3 c4 c7 (by omega) hm
    · obtain ⟨T, hT⟩ : ∃ T, k.til = T + 2 := ⟨k.til - 2, by omega⟩
      rw [show k.til - 1 = T + 1 by omega]
      exact alloc_ok1_R h2 hw c1 c2 c3 c4 hT (by omega) hm
end Go.Proofs.Ytmgocjclopfeeaa
