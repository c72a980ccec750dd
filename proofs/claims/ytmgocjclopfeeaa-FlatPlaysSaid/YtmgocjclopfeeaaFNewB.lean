/- Both News: the same answer; both arrays hold the same then; condition: both memories hold the same, apart. -/
import Derived.Test.YtmgocjclopfeeaaFBo
set_option linter.unusedVariables false
set_option linter.unusedSimpArgs false
namespace Go.Proofs.Ytmgocjclopfeeaa
open Go.RowKit Go.MapKept

def Aseq (z : Int) (k : KA) : Nat → KA
  | 0 => k
  | j + 1 => ((Aseq z k j).alloc z 3).2.2
theorem aseq_wu {z : Int} {k : KA} (h : WU k) {N : Nat} (hm : k.made + N < 4294967296) : ∀ j, j ≤ N → WU (Aseq z k j) ∧ (Aseq z k j).made ≤ k.made + j
  | 0, _ => ⟨h, Nat.le_refl _⟩
  | j + 1, hj => by
    obtain ⟨h1, h2⟩ := aseq_wu h hm j (by omega)
    obtain ⟨h3, h4⟩ := h1.alloc z 3 (by omega)
    exact ⟨h3, by show ((Aseq z k j).alloc z 3).2.2.made ≤ _; omega⟩
theorem first_bad (f : Nat → Int) : ∀ N : Nat, ∃ J, J ≤ N ∧ (∀ j, j < J → f j = 0) ∧ (J < N → f J ≠ 0)
  | 0 => ⟨0, Nat.le_refl _, fun j hj => by omega, fun h => by omega⟩
  | N + 1 => by
    obtain ⟨J, h1, h2, h3⟩ := first_bad f N
    by_cases c : J < N
    · exact ⟨J, by omega, h2, fun _ => h3 c⟩
    · obtain rfl : J = N := by omega
      by_cases c2 : f J = 0
      · exact ⟨J + 1, Nat.le_refl _, fun j hj => by
          by_cases e : j = J
          · rw [e]; exact c2
          · exact h2 j (by omega), fun h => by omega⟩
      · exact ⟨J, by omega, h2, fun _ => c2⟩
theorem alloc_at {z p : Int} {k : KA} (h : (k.alloc z p).2.1 = 0) : (k.alloc z p).1 = (k.made + 1) * 4294967296 := by
  unfold KA.alloc at h ⊢
  by_cases c1 : z < 1 ∨ 1048576 < z ∨ p < 1 ∨ 3 < p
  · rw [if_pos c1] at h; exact absurd h (by simp)
  rw [if_neg c1] at h ⊢
  by_cases c2 : k.til = 1
  · rw [if_pos c2] at h; exact absurd h (by simp)
  rw [if_neg c2] at h ⊢
  by_cases c3 : 4096 ≤ k.live.length
  · rw [if_pos c3] at h; exact absurd h (by simp)
  rw [if_neg c3]
set_option maxRecDepth 100000 in
theorem gnew_no {kd key v mx cpus : Int} (h : ¬ FMay kd key v mx cpus) (n : Nat) (w : World) : Calls Try.prog 20 (newArgs n kd key v mx cpus) w (NilPost w 1) := by
  have HM := fun W => hide (May_no h W)
  unfold mayArgs at HM
  unfold newArgs
  clear h
  go_enter Try.func20, Try.ntmps20
  go_wp2_with fail
  refine (HM _).out.mono ?_
  rintro e w1 ⟨rfl, f1⟩
  have HF := hide (((Fr.refl [] w).alloc _).more f1)
  clear f1
  go_wp2
  go_ret2
  exact ⟨rfl, HF.out⟩
/-- An outcome of both News. -/
def NewPost (W0 : World) (m n : Nat) (G : List Nat) (er : Int) (w1 : World) (xv : Value) (e : Ending) (w2 : World) : Prop :=
  ∃ yv, e = .returned (.tuple #[yv, .int .i64 er]) ∧
    ((xv = .pointer none ∧ yv = .pointer none ∧ ∃ k F G', BoW W0 w2 m n k F G' ∧ WU k) ∨
     (∃ x y s cpus R l sv k F G', xv = .pointer (some ⟨x, 0, none⟩) ∧ yv = .pointer (some ⟨y, 0, none⟩) ∧ BoF W0 w2 m n x y s cpus R l sv false k F G'))
def NewPost1 (w : World) (F : List Nat) (er : Int) (P1 : Value → World → Prop) (e : Ending) (w1 : World) : Prop :=
  ∃ xv F1, e = .returned (.tuple #[xv, .int .i64 er]) ∧ P1 xv w1 ∧ Fr F F1 w w1
theorem new_both {W0 w : World} {m n : Nat} {k : KA} {F G : List Nat} (h : BoW W0 w m n k F G) (hw : WU k) (hm : k.made + 9 < 2147483648) (kd key v mx cpus : Int) :
    ∃ (er : Int) (P1 : Value → World → Prop),
      Calls Try.prog 9 (newArgs m kd key v mx cpus) w (NewPost1 w F er P1) ∧
      ∀ xv w1, P1 xv w1 → Calls Try.prog 20 (newArgs n kd key v mx cpus) w1 (NewPost W0 m n G er w1 xv) := by
  by_cases hmay : FMay kd key v mx cpus
  · obtain ⟨hk, rfl, h2, h3, h4, h5, h6, h7, h8⟩ := hmay
    obtain ⟨V, rfl⟩ : ∃ V : Nat, v = V := ⟨v.toNat, by omega⟩
    obtain ⟨MX, rfl⟩ : ∃ V : Nat, mx = V := ⟨mx.toNat, by omega⟩
    obtain ⟨CP, rfl⟩ : ∃ V : Nat, cpus = V := ⟨cpus.toNat, by omega⟩
    rw [Int.toNat_natCast] at h8
    have hs : MX * fwide V ≤ 1048576 := by rw [← Int.natCast_mul] at h8; omega
    obtain ⟨N, hN⟩ : ∃ N, (kd = 2 ∧ N = 1) ∨ (kd = 6 ∧ N = CP) := by
      rcases hk with rfl | rfl
      · exact ⟨1, .inl ⟨rfl, rfl⟩⟩
      · exact ⟨CP, .inr ⟨rfl, rfl⟩⟩
    have hN8 : N ≤ 8 := by omega
    have hN1 : 1 ≤ N := by omega
    obtain ⟨z, hz⟩ : ∃ z : Int, z = ((MX * fwide V : Nat) : Int) := ⟨_, rfl⟩
    obtain ⟨A, hA⟩ : ∃ A, A = Aseq z k := ⟨_, rfl⟩
    obtain ⟨ad, had⟩ : ∃ ad : Nat → Nat, ad = fun j => ((A j).alloc z 3).1 := ⟨_, rfl⟩
    obtain ⟨J, hJ, hj0, hj1⟩ := first_bad (fun j => ((A j).alloc z 3).2.1) N
    have hAw : ∀ j, j ≤ N → WU (A j) ∧ (A j).made ≤ k.made + j := fun j hj => by rw [hA]; exact aseq_wu hw (N := N) (by omega) j hj
    have hA0 : A 0 = k := by rw [hA]; rfl
    have ha : ∀ j, j < J → (A j).alloc (MX * fwide V : Nat) 3 = (ad j, 0, A (j + 1)) := fun j hj => by
      rw [← hz]
      have e0 : ((A j).alloc z 3).2.1 = 0 := hj0 j hj
      have e2 : A (j + 1) = ((A j).alloc z 3).2.2 := by rw [hA]; rfl
      rw [had, e2, ← e0]
    have hal : ∀ a ∈ (List.range J).map ad, a < 9223372036854775808 := fun a ha2 => by
      obtain ⟨j, hj, rfl⟩ := List.mem_map.1 ha2
      have hj := List.mem_range.1 hj
      have e0 := hj0 j hj
      have e1 := (hAw j (by omega)).2
      rw [had]
      show ((A j).alloc z 3).1 < _
      rw [alloc_at e0]
      omega
    have hmd : ∀ j, j < N → (A j).made + 1 < 4294967296 := fun j hj => by have := (hAw j (by omega)).2; omega
    obtain ⟨a', er, kf, he⟩ : ∃ a' er kf, (A J).alloc (MX * fwide V : Nat) 3 = (a', er, kf) := ⟨_, _, _, rfl⟩
    have hkf : J < N → WU kf := fun hj => by
      have := ((hAw J hJ).1.alloc (MX * fwide V : Nat) 3 (hmd J hj)).1
      rw [he] at this
      exact this
    have hka : KS w m (A 0) F := by rw [hA0]; exact h.a
    have hv : 1 ≤ V ∧ V ≤ 4096 := by omega
    have hn : 1 ≤ MX ∧ MX ≤ 4096 := by omega
    have hc : 1 ≤ CP ∧ CP ≤ 8 := by omega
    by_cases hJN : J < N
    · have her : er ≠ 0 := by
        have := hj1 hJN
        simp only [hz, he] at this
        exact this
      refine ⟨er, fun xv w1 => xv = .pointer none ∧ ∃ F1, KS w1 m (ffrees ((List.range J).map ad) kf) F1 ∧ Fr F F1 w w1, (fnew_fail A ad a' er kf hka hN hc hv hn hs hJN hmd ha he her hal).mono fun e w1 ⟨F1, e1, e2, e3⟩ => ⟨_, F1, e1, ⟨rfl, F1, e2, e3⟩, e3⟩, ?_⟩
      rintro xv w1 ⟨rfl, F1, e2, e3⟩
      have hr := (h.left e2 e3).1
      rw [← hA0] at hr
      refine (gnew_calls A ad a' er kf hr (fun j hj => (hAw j (by omega)).1.wf) (hkf hJN) hN hc hv hn hs hJ hmd ha (fun _ => ⟨he, her⟩) hal).mono ?_
      rintro e w2 (⟨e0, _⟩ | ⟨_, G', rfl, e4, e5⟩)
      · omega
      · exact ⟨_, rfl, .inl ⟨rfl, rfl, _, _, _, h.both e2 e3 e4 e5, ffrees_wu (hkf hJN) _⟩⟩
    · obtain rfl : J = N := by omega
      have hwJ := (hAw J (Nat.le_refl _)).1
      have hlen : ((List.range J).map ad).length = J := by rw [List.length_map, List.length_range]
      have key2 : ∀ (x : Nat) (w1 : World) (F1 : List Nat) (R : FR), FM w1 x m ⟨kd, V, MX⟩ R → KS w1 m (A J) F1 → (∀ b ∈ R.foot x, b ∉ F1 ∧ w.heap.size ≤ b) → Fr F F1 w w1 → FLink R ⟨kd, V, MX⟩ CP ((List.range J).map ad) false →
          Calls Try.prog 20 (newArgs n kd 4 V MX CP) w1 (NewPost W0 m n G 0 w1 (.pointer (some ⟨x, 0, none⟩))) := by
        intro x w1 F1 R hx hk1 hd hf hl
        have hr := (h.left hk1 hf).1
        rw [← hA0] at hr
        refine (gnew_calls A ad a' er (A J) hr (fun j hj => (hAw j (by omega)).1.wf) hwJ hN hc hv hn hs (Nat.le_refl _) hmd ha (fun e => by omega) hal).mono ?_
        rintro e w2 (⟨_, y, sv, G', rfl, e1, e2, e3, e4⟩ | ⟨e0, _⟩)
        · have hG1 : ∀ b ∈ G, b < w1.heap.size := (h.left hk1 hf).1.lt
          have hnG : ∀ b ∈ R.foot x, b ∉ G := fun b hb e => by have := h.b.lt b e; have := (hd b hb).2; omega
          have hsz := h.bl.size
          have hsz1 := hf.size
          refine ⟨_, rfl, .inr ⟨x, y, ⟨kd, V, MX⟩, CP, R, (List.range J).map ad, sv, A J, F1, G', rfl, rfl, ⟨h.both hk1 hf e2 e4, hx.fr e4 hnG, e1, fun b hb => ⟨(hd b hb).1, e4.notin (hx.lt b hb) (hnG b hb), fun e => ?_, by have := (hd b hb).2; omega⟩, fun b hb => ⟨fun e => ?_, (e3 b hb).1, by have := (e3 b hb).2; omega⟩, hwJ, hl⟩⟩⟩
          · have := (e3 b e).2; have := hx.lt b hb; omega
          · have := (e3 b hb).2; have := hk1.lt b e; omega
        · exact absurd rfl e0
      rcases hN with ⟨rfl, rfl⟩ | ⟨rfl, rfl⟩
      · have ha0 := ha 0 (by omega)
        have hk2 : KS w m k F := h.a
        rw [hA0] at ha0
        have had0 : ad 0 < 9223372036854775808 := hal _ (by simp)
        refine ⟨0, fun xv w1 => ∃ x F1, xv = .pointer (some ⟨x, 0, none⟩) ∧ FM w1 x m ⟨2, V, MX⟩ (.shared (ad 0)) ∧ KS w1 m (A 1) F1 ∧ (∀ b ∈ (FR.shared (ad 0)).foot x, b ∉ F1 ∧ w.heap.size ≤ b) ∧ Fr F F1 w w1, (fnew_array hk2 CP (by omega) hv hn hs (by omega) ha0 had0).mono fun e w1 ⟨x, F1, e1, e2, e3, e4, e5, e6⟩ => ⟨_, F1, e1, ⟨x, F1, rfl, e2, e3, fun b hb => by simp [FR.foot] at hb; subst hb; exact ⟨e4, e5⟩, e6⟩, e6⟩, ?_⟩
        rintro xv w1 ⟨x, F1, rfl, e2, e3, e4, e5⟩
        exact key2 x w1 F1 _ e2 e3 e4 e5 (.inr (.inl ⟨rfl, rfl, ad 0, rfl, by simp⟩))
      · refine ⟨0, fun xv w1 => ∃ x g cap F1, xv = .pointer (some ⟨x, 0, none⟩) ∧ FM w1 x m ⟨6, V, MX⟩ (.own g cap ((List.range J).map ad)) ∧ KS w1 m (A J) F1 ∧ (∀ b ∈ (FR.own g cap ((List.range J).map ad)).foot x, b ∉ F1 ∧ w.heap.size ≤ b) ∧ Fr F F1 w w1,
          (fnew_cpus A ad hka hc hv hn hs hmd ha (fun j hj => hal _ (List.mem_map_of_mem (List.mem_range.2 hj)))).mono fun e w1 ⟨x, g, cap, F1, e1, e2, e3, e4, e5, e6, e7, e8⟩ => ⟨_, F1, e1, ⟨x, g, cap, F1, rfl, e2, e3, fun b hb => by
            simp [FR.foot] at hb
            rcases hb with rfl | rfl
            · exact ⟨e4, e6⟩
            · exact ⟨e5, e7⟩, e8⟩, e8⟩, ?_⟩
        rintro xv w1 ⟨x, g, cap, F1, rfl, e2, e3, e4, e5⟩
        exact key2 x w1 F1 _ e2 e3 e4 e5 (.inr (.inr ⟨rfl, rfl, ⟨g, cap, rfl⟩, by rw [hlen]⟩))
  · refine ⟨1, fun xv w1 => xv = .pointer none ∧ Fr [] [] w w1, (fnew_no hmay m w).mono fun e w1 ⟨e1, e2⟩ => ⟨_, F, e1, ⟨rfl, e2⟩, (Fr.refl F w).more e2⟩, ?_⟩
    rintro xv w1 ⟨rfl, e2⟩
    refine (gnew_no hmay n w1).mono ?_
    rintro e w2 ⟨rfl, e3⟩
    exact ⟨_, rfl, .inl ⟨rfl, rfl, k, F, G, (h.frame e2).frame e3, hw⟩⟩
end Go.Proofs.Ytmgocjclopfeeaa
