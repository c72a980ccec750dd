/- Chapter 13's examples: awake tells true; no condition. -/
import Derived.Test.YtgkbiknokpmjmaaMFace3
set_option linter.unusedVariables false
set_option linter.unusedSimpArgs false
namespace Go.Proofs.Ytgkbiknokpmjmaa
open Go.RowKit Go.MapKept Go.Maps

def MW.s : HSpec := ⟨1, 1, 1, 2⟩
def MW.h1 : HA := ⟨[⟨⟨#[97]⟩, 4294967296, 1⟩], 1⟩
def MW.k1 : KA := ⟨1, 0, [(1, ⟨[98], 3, false⟩)]⟩
def MW.h2 : HA := ⟨[⟨⟨#[97]⟩, 4294967296, 2⟩], 2⟩
theorem MW.may : MW.s.May := ⟨.inl rfl, by decide, by decide, by decide⟩
theorem MW.e1 : (HA.mk [] 0).update MW.s ⟨0, 0, []⟩ ⟨#[97]⟩ ⟨#[98]⟩ 0 = (0, MW.h1, MW.k1) := by kernel_rfl
theorem MW.e2 : MW.h1.lookup ⟨#[97]⟩ = (4294967296, MW.h2) := by kernel_rfl
theorem MW.n1 : leNum (nats ⟨#[1, 0, 0, 0]⟩) = 1 := by decide +kernel
theorem MW.n7 : leNum (nats ⟨#[7, 0, 0, 0]⟩) = 7 := by decide +kernel
theorem MW.fld (W : World) : (Instr.field 30 (.agg #[.int .i64 3, .int .i64 4, .int .i64 4, .int .i64 2]) 3).run Try.prog W = .ok (.int .i64 2) W := by kernel_rfl
theorem HK.frB {w w' : World} {x m b : Nat} {s : HSpec} {h : HA} {k : KA} {G F : List Nat} (H : HK w x m s h k G F) (hf : Fr [b] [b] w w') (hb : b ∉ G ∧ b ∉ F) : HK w' x m s h k G F := by
  obtain ⟨⟨t, h1, h2, h3⟩, hk, dj⟩ := H
  exact ⟨⟨t, h1.fr hf (fun c hc e => hb.1 (by simp at e; rw [h3, ← e]; exact hc)), h2, h3⟩, hk.frame (fun c hc => hf.block c (hk.lt c hc) (fun e => hb.2 (by simp at e; exact e ▸ hc))), dj⟩
set_option maxRecDepth 100000 in
theorem open_hash {w : World} {m : Nat} {k : KA} {F : List Nat} (hk : KS w m k F) : Calls Try.prog 23 #[.pointer (some ⟨m, 0, none⟩), .agg #[.int .i64 1, .int .i64 1, .int .i64 1, .int .i64 2], .int .i64 1] w fun e w' => ∃ hx G, e = .returned (.tuple #[.iface 64 (.pointer (some ⟨hx, 0, none⟩)), .int .i64 0]) ∧ HK w' hx m MW.s ⟨[], 0⟩ k G F ∧ Fr [] G w w' := by
  have HN := hide (hnew_S (hk.alloc (.cells #[.int .i64 1, .int .i64 1, .int .i64 1, .int .i64 2] 30)) MW.s MW.may)
  clear hk
  go_enter Try.func23, Try.ntmps23
  go_wp2_with fail
  refine HN.out.mono ?_
  rintro e w1 ⟨hx, G, rfl, h1, f1⟩
  have HE : Hid (HK w1 hx m MW.s ⟨[], 0⟩ k G F ∧ Fr [] G w w1) := hide ⟨h1, by
    have f0 := (Fr.refl [] w).alloc (.cells #[.int .i64 1, .int .i64 1, .int .i64 1, .int .i64 2] 30)
    exact f0.trans f1⟩
  clear h1 f1
  go_wp2
  go_ret2
  exact ⟨_, _, rfl, HE.out.1, HE.out.2⟩
set_option maxRecDepth 100000 in
theorem mnew_hash {w : World} {m : Nat} {k : KA} {F : List Nat} (hk : KS w m k F) : Calls Try.prog 6 #[.pointer (some ⟨m, 0, none⟩), .agg #[.int .i64 1, .int .i64 1, .int .i64 1, .int .i64 2], .int .i64 1] w fun e w' => ∃ y hx G, e = .returned (.tuple #[.pointer (some ⟨y, 0, none⟩), .int .i64 0]) ∧
    w'.heap[y]? = some (faceO 1 1 1 2 (.iface 64 (.pointer (some ⟨hx, 0, none⟩))) false) ∧ HK w' hx m MW.s ⟨[], 0⟩ k G F ∧ y ∉ G ∧ y ∉ F ∧ Fr [] G w w' := by
  have HO := hide (open_hash (hk.alloc (.cells #[.int .i64 1, .int .i64 1, .int .i64 1, .int .i64 2] 30)))
  have HD := hide (heap_alloc_new w (.cells #[.int .i64 1, .int .i64 1, .int .i64 1, .int .i64 2] 30))
  clear hk
  go_enter Try.func6, Try.ntmps6
  go_wp2_with fail
  refine HO.out.mono ?_
  rintro e w1 ⟨hx, G, rfl, h1, f1⟩
  have hd1 := f1.keep HD.out (by simp)
  have b0 : w1.cell? ⟨w.heap.size, 0, none⟩ = some (.int .i64 1) := by simp [World.cell?, hd1]
  have b1 : w1.cell? ⟨w.heap.size, 1, none⟩ = some (.int .i64 1) := by simp [World.cell?, hd1]
  have b2 : w1.cell? ⟨w.heap.size, 2, none⟩ = some (.int .i64 1) := by simp [World.cell?, hd1]
  have b3 : w1.cell? ⟨w.heap.size, 3, none⟩ = some (.int .i64 2) := by simp [World.cell?, hd1]
  have hG : w1.heap.size ∉ G := fun hm => by
    obtain ⟨⟨t, q1, q2, q3⟩, -, -⟩ := h1
    rw [q3] at hm
    exact Nat.lt_irrefl _ (q1.lt _ hm)
  have hF : w1.heap.size ∉ F := fun hm => Nat.lt_irrefl _ (h1.ks.lt _ hm)
  have HE : Hid (HK (w1.alloc (faceO 1 1 1 2 (.iface 64 (.pointer (some ⟨hx, 0, none⟩))) false)) hx m MW.s ⟨[], 0⟩ k G F ∧ w1.heap.size ∉ G ∧ w1.heap.size ∉ F ∧ Fr [] G w (w1.alloc (faceO 1 1 1 2 (.iface 64 (.pointer (some ⟨hx, 0, none⟩))) false))) := hide ⟨h1.fr0 ((Fr.refl [] w1).alloc _), hG, hF, by
    have f0 := (Fr.refl [] w).alloc (.cells #[.int .i64 1, .int .i64 1, .int .i64 1, .int .i64 2] 30)
    exact (f0.trans f1).alloc _⟩
  clear h1 f1 hd1 hG hF
  go_wp2
  go_ret2
  exact ⟨_, _, _, rfl, heap_alloc_new _ _, HE.out.1, HE.out.2.1, HE.out.2.2.1, HE.out.2.2.2⟩
set_option maxRecDepth 100000 in
set_option maxHeartbeats 2000000 in
theorem mawake (w : World) : Calls Try.prog 12 #[] w fun e w' => e = .returned (.bool true) ∧ Below w.heap.size w w' := by
  go_enter Try.func12, Try.ntmps12
  go_wp2_with fail
  refine (new_S w).mono ?_
  rintro e w1 ⟨m, F, rfl, h1, f1⟩
  have H1 := hide h1
  have hF1 : ∀ c ∈ F, w.heap.size ≤ c := fun c hc => by
    rcases f1.foot c hc with h | h
    · simp at h
    · exact h
  have HF1 := hide hF1
  have HB1 := hide (f1.below (Nat.le_refl _) (fun k hk => by simp at hk))
  clear h1 f1 hF1
  go_wp2_with fail
  refine (mnew_progs m 2 (by omega) (by omega) w1).mono ?_
  rintro e w2 ⟨x, b, rfl, p2, hx2, hb2, f2⟩
  have H2 := hide (H1.out.fr f2)
  have P2 := hide p2
  have HB2 := hide (HB1.out.trans ((f2.below (Nat.le_refl _) (fun k hk => by simp at hk)).mono HB1.out.size))
  have HXB := hide (show (x ∉ F ∧ b ∉ F) ∧ (w.heap.size ≤ x ∧ w.heap.size ≤ b) from ⟨⟨fun hm => by have := H1.out.lt x hm; omega, fun hm => by have := H1.out.lt b hm; omega⟩, by have := HB1.out.size; omega⟩)
  clear p2 f2 hx2 hb2
  go_wp2_with fail
  refine (mnew_hash H2.out).mono ?_
  rintro e w3 ⟨y, hx, G, rfl, y3, h3, hyG, hyF, f3⟩
  have P3 := hide (P2.out.fr f3 (by simp) (by simp))
  have hxG : ∀ c ∈ G, w2.heap.size ≤ c := fun c hc => by
    rcases f3.foot c hc with h | h
    · simp at h
    · exact h
  have HG3 := hide (show (x ∉ G ∧ b ∉ G) ∧ (∀ c ∈ G, w.heap.size ≤ c) from ⟨⟨fun hm => by have := hxG x hm; have := P2.out.lt.1; omega, fun hm => by have := hxG b hm; have := P2.out.lt.2; omega⟩, fun c hc => by have := hxG c hc; have := HB2.out.size; omega⟩)
  have HYB := hide (show y ≠ b from fun e => by
    have := P3.out.mi.lt
    obtain ⟨D, ⟨es, clk, hb, _⟩, _⟩ := P3.out.mi
    rw [e] at y3
    rw [y3] at hb
    cases hb)
  have H3 := hide h3
  have Y3 := hide y3
  have HY := hide (And.intro hyG hyF)
  have HB3 := hide (HB2.out.trans ((f3.below (Nat.le_refl _) (fun k hk => by simp at hk)).mono HB2.out.size))
  clear h3 y3 hyG hyF f3 hxG
  have HU := hide (pupdate_calls P3.out (by omega) ⟨#[1, 0, 0, 0]⟩ ⟨#[7, 0, 0, 0]⟩ rfl rfl (by rw [MW.n1]; omega) 0)
  rw [MW.n1, MW.n7] at HU
  go_wp2_with fail
  refine HU.out.mono ?_
  rintro e w4 ⟨rfl, p4, f4⟩
  have P4 := hide p4
  have Y4 := hide ((f4.block y (lt_of_heap Y3.out) (by simp; exact HYB.out)).trans Y3.out)
  have H4 := hide (H3.out.frB f4 ⟨HG3.out.1.2, HXB.out.1.2⟩)
  have HB4 := hide (HB3.out.trans (f4.below HB3.out.size (fun k hk => by simp at hk; subst hk; exact HXB.out.2.2)))
  have HP1 := hide (pprog_calls P4.out (i := 1) (by decide))
  have HP0 := hide (pprog_calls P4.out (i := 0) (by decide))
  have e1 : upd (fun _ => none) (ik ((1 : Nat) : Int)) (some ((7 : Nat) : Int)) (ik 1) = some 7 := upd_same _ _ _
  have e0 : upd (fun _ => none) (ik ((1 : Nat) : Int)) (some ((7 : Nat) : Int)) (ik 0) = none := upd_other _ _ (by intro e; simp at e)
  rw [e1] at HP1
  rw [e0] at HP0
  simp only [Option.getD_some, Option.isSome_some, Option.getD_none, Option.isSome_none] at HP1 HP0
  clear p4 f4 e1 e0 HU
  go_wp2_with fail
  refine HP1.out.mono ?_
  rintro e w' ⟨rfl, rfl⟩
  go_wp2_with fail
  refine HP0.out.mono ?_
  rintro e w' ⟨rfl, rfl⟩
  go_wp2_with fail
  refine (hpush_calls Y4.out _ _).mono ?_
  rintro e w' ⟨rfl, rfl⟩
  have HUP := hide (hupd_calls Y4.out ⟨#[97]⟩ ⟨#[98]⟩ 0 0 (R := fun w' => ∃ G' F', HK w' hx m MW.s MW.h1 MW.k1 G' F' ∧ Fr (G ++ F) (G' ++ F') w4 w') ((hupdate_K H4.out _ _ _ (by decide) (by decide) (by decide) (by decide) MW.e1).mono fun e w' ⟨G', F', q1, q2, q3⟩ => ⟨q1, G', F', q2, q3⟩))
  go_wp2_with fail
  refine HUP.out.mono ?_
  rintro e w5 ⟨rfl, G5, F5, h5, f5⟩
  have hGF : ∀ c ∈ G ++ F, w.heap.size ≤ c := fun c hc => by
    rcases List.mem_append.1 hc with h | h
    · exact HG3.out.2 c h
    · exact HF1.out c h
  have hy5 : y ∉ G ++ F := fun hm => by
    rcases List.mem_append.1 hm with h | h
    · exact HY.out.1 h
    · exact HY.out.2 h
  have hx5 : x ∉ G ++ F := fun hm => by
    rcases List.mem_append.1 hm with h | h
    · exact HG3.out.1.1 h
    · exact HXB.out.1.1 h
  have Y5 := hide ((f5.block y (lt_of_heap Y4.out) hy5).trans Y4.out)
  have X5 := hide ((f5.block x P4.out.lt.1 hx5).trans P4.out.hx)
  have HX5 := hide (f5.notin P4.out.lt.1 hx5)
  have HGF5 := hide (f5.from_ (B := w.heap.size) HB4.out.size hGF)
  have HB5 := hide (HB4.out.trans (f5.below HB4.out.size hGF))
  have HLK := hide (hlook_calls Y5.out ⟨#[97]⟩ 0 (R := fun w' => ∃ G' F', HK w' hx m MW.s MW.h2 MW.k1 G' F' ∧ Fr (G5 ++ F5) (G' ++ F') w5 w') ((hlookup_K h5 _ (by decide) MW.e2).mono fun e w' ⟨G', F', q1, q2, q3⟩ => ⟨q1, G', F', q2, q3⟩))
  clear h5 f5 hGF hy5 hx5
  go_wp2_with fail
  refine HLK.out.mono ?_
  rintro e w6 ⟨rfl, G6, F6, h6, f6⟩
  have X6 := hide ((f6.block x (lt_of_heap X5.out) HX5.out).trans X5.out)
  have HB6 := hide (HB5.out.trans (f6.below HB5.out.size HGF5.out))
  clear h6 f6
  go_wp2_with fail
  refine (mcheck_none w6).mono ?_
  rintro e w7 ⟨rfl, f7⟩
  have X7 := hide ((f7.block x (lt_of_heap X6.out) (by simp)).trans X6.out)
  have HB7 := hide (HB6.out.trans (f7.below HB6.out.size (fun k hk => by simp at hk)))
  clear f7
  go_wp2_with fail
  refine (mspec_calls X7.out).mono ?_
  rintro e w8 ⟨rfl, f8⟩
  have HB8 := hide (HB7.out.trans (f8.below HB7.out.size (fun k hk => by simp at hk)))
  clear f8
  have hfld := MW.fld
  go_wp2
  go_ret
  exact ⟨rfl, HB8.out⟩
end Go.Proofs.Ytgkbiknokpmjmaa
