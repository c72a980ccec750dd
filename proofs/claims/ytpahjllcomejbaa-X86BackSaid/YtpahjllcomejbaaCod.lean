/- The coder: what a memory must hold for it, and its smaller methods; condition: the coder lies in memory. -/
import Derived.Test.YtpahjllcomejbaaFr
import Derived.Outline
import Derived.Test.YtpahjllcomejbaaProg
set_option linter.unusedVariables false
set_option linter.unusedSimpArgs false
namespace Go.Proofs.Ytpahjllcomejbaa
open Go.RowKit Go.MapKept

def u8s (l : List Int) : List Value := l.map (Value.int .u8)
/-- A coder at block x: its bytes, whether it is bad; F: its blocks. -/
structure Cod (w : World) (x : Nat) (F : List Nat) (bs : List Int) (bad : Bool) : Prop where
  ex : ∃ v, w.heap[x]? = some (.cells #[v, .bool bad] 41 (0, 0)) ∧ w.ownsRow 0 5 1 v bs.length (u8s bs) ∧ v.ownBlock ≠ some x ∧ F = x :: v.ownBlock.toList
def CodPost (w : World) (x : Nat) (F : List Nat) (bs : List Int) (bad : Bool) (e : Ending) (w' : World) : Prop := e = .returned (.tuple #[]) ∧ ∃ F', Cod w' x F' bs bad ∧ Fr F F' w w'
theorem Cod.lt {w : World} {x : Nat} {F : List Nat} {bs : List Int} {bad : Bool} (h : Cod w x F bs bad) : ∀ k ∈ F, k < w.heap.size := by
  obtain ⟨v, h1, h2, h3, rfl⟩ := h.ex
  intro k hk
  rcases List.mem_cons.1 hk with rfl | hk
  · exact lt_of_heap h1
  · rcases h2.2 with ⟨rfl, _⟩ | ⟨g, cap, cur, rfl, _, hg, _⟩
    · simp [Value.ownBlock] at hk
    · simp [Value.ownBlock] at hk
      subst hk
      exact lt_of_heap hg
theorem u8s_one (l : List Int) : ∀ u ∈ u8s l, u.oneCell' = true := by
  intro u hu
  obtain ⟨a, _, rfl⟩ := List.mem_map.1 hu
  rfl
theorem u8s_append (a b : List Int) : u8s (a ++ b) = u8s a ++ u8s b := by simp [u8s]
theorem own_form {w : World} {base e size n : Nat} {v : Value} {xs : List Value} (h : w.ownsRow base e size v n xs) : ∃ A m c, v = .slice A m c := by
  rcases h.2 with ⟨rfl, _⟩ | ⟨g, cap, cur, rfl, _⟩ <;> exact ⟨_, _, _, rfl⟩
theorem own_set {w : World} {base e size n : Nat} {v : Value} {xs : List Value} (h : w.ownsRow base e size v n xs) {x i : Nat} (hne : v.ownBlock ≠ some x) {u : Value} : (w.setCell ⟨x, i, none⟩ u).ownsRow base e size v n xs := by
  obtain ⟨h1, h2⟩ := h
  refine ⟨h1, ?_⟩
  rcases h2 with h2 | ⟨g, cap, cur, rfl, hg, hh, r⟩
  · exact .inl h2
  · exact .inr ⟨g, cap, cur, rfl, hg, heap_setCell_some (fun e => hne (by simp [Value.ownBlock]; exact e.symm)) hh, r⟩
theorem u8_info : (Try.prog.info? 5).map (fun i => (i.zero, i.size, i.bytes)) = some (some (.int .u8 0), 1, 1) := by kernel_rfl
theorem cod_appended {W w1 : World} {x : Nat} {v v1 : Value} {bs' : List Int} {bad : Bool} {n : Nat} (h1 : W.heap[x]? = some (.cells #[v, .bool bad] 41 (0, 0))) (h3 : v.ownBlock ≠ some x) (hg : W.grownBy w1 v.ownBlock)
    (hown : w1.ownsRow 0 5 1 v1 n (u8s bs')) (hn : n = bs'.length) (hat : v1.ownBlock = v.ownBlock ∨ v1.ownBlock = some W.heap.size) :
    Cod (w1.setCell ⟨x, 0, none⟩ v1) x (x :: v1.ownBlock.toList) bs' bad ∧ Fr (x :: v.ownBlock.toList) (x :: v1.ownBlock.toList) W (w1.setCell ⟨x, 0, none⟩ v1) := by
  subst hn
  have hlt := lt_of_heap h1
  have hx1 := (hg.block x hlt (fun e => h3 e.symm)).trans h1
  have hne : v1.ownBlock ≠ some x := by
    intro e
    rcases hat with h | h
    · rw [h] at e; exact h3 e
    · rw [h] at e; have := Option.some.inj e; omega
  refine ⟨⟨v1, by simpa using heap_setCell_same (b := x) (i := 0) (v := v1) hx1, own_set hown hne, hne, rfl⟩, ?_⟩
  refine Fr.setCell' (Fr.sub (Fr.grown' (Fr.refl _ W) hg (fun k hk => .inl (by rw [hk]; simp))) ?_) (.inl (by simp)) _
  intro k hk
  rcases List.mem_cons.1 hk with rfl | hk
  · exact .inl (by simp)
  · rcases hat with h | h
    · rw [h] at hk; exact .inl (by simp [hk])
    · rw [h] at hk; simp at hk; exact .inr (by omega)
set_option maxRecDepth 100000 in
set_option maxHeartbeats 800000 in
theorem op_calls (w : World) (x : Nat) (F : List Nat) (bs : List Int) (bad : Bool) (h : Cod w x F bs bad) (ad : Addr) (m c : Nat) (news : List Int) (hm : news.length = m) (hn : ∀ j u, (u8s news)[j]? = some u → w.cell? (ad.add j) = some u) (hl : bs.length + m ≤ 100000000000000) :
    Calls Try.prog 24 #[.pointer (some ⟨x, 0, none⟩), .slice (some ad) m c] w (CodPost w x F (bs ++ news) bad) := by
  obtain ⟨v, h1, h2, h3, rfl⟩ := h.ex
  have hu := Try.underlying39
  have hu2 := Try.underlying41
  obtain ⟨i0, hi, hz0, hz1, hz2⟩ := info_parts u8_info
  have c0 := cell_at h1 0
  have c1 := cell_at h1 1
  simp only [List.getElem?_toArray, List.getElem?_cons_zero, List.getElem?_cons_succ] at c0 c1
  have hlt := lt_of_heap h1
  have H1 := hide h1
  have HM := hide hm
  have H2 := hide h2
  have HN := hide hn
  have H3 := hide h3
  have HL := hide hl
  clear h1 h2 h3 hn hl hm
  go_enter Try.func24, Try.ntmps24
  go_wp2_with (at_builtin; refine wpList_append_own_at _ rfl _ _ 39 rfl 0 5 i0 _ 1 1 hu hi hz0 hz1 hz2 rfl (by decide) v bs.length (u8s bs) rfl H2.out ad m c (u8s news) rfl (by rw [u8s, List.length_map, HM.out]; omega) HN.out (u8s_one news) (by have := HL.out; unfold maxLen; omega) (by have := HL.out; omega) (Nat.zero_le _) ?_; intro v1 w1 hown1 hg1 _ hat1; have hx1 := (hg1.block x hlt (fun e => H3.out e.symm)).trans H1.out; have d0 := cell_at hx1 0; have f0 := frozen_at hx1 0; simp only [List.getElem?_toArray, List.getElem?_cons_zero, List.getElem?_cons_succ] at d0; have HX1 := hide hx1; obtain ⟨A1, n1, c1', rfl⟩ := own_form hown1; have HO := hide hown1; have HG := hide hg1; have HT := hide hat1; clear hx1 hown1 hg1 hat1)
  go_end0
  obtain ⟨a1, a2⟩ := cod_appended (bs' := bs ++ news) H1.out H3.out HG.out (by rw [u8s_append]; exact HO.out) (by simp [HM.out]) HT.out
  exact ⟨rfl, _, a1, a2⟩
end Go.Proofs.Ytpahjllcomejbaa
