/- Both arrays over both memories: what they hold, and laws of it: each plain answer of one is the other's; conditions at each. -/
import Derived.Test.YtmgocjclopfeeaaGNew
import Derived.Test.YtmgocjclopfeeaaGUpd2
import Derived.Test.YtmgocjclopfeeaaBoW
set_option linter.unusedVariables false
set_option linter.unusedSimpArgs false
namespace Go.Proofs.Ytmgocjclopfeeaa
open Go.RowKit Go.MapKept

theorem WU.write {k : KA} (h : WU k) (a : Nat) (n : Int) (u : Nat) : WU (k.write a n u).2 := by
  unfold KA.write
  split
  · cases hs : k.span a n 2 with
    | error e => exact h
    | ok r =>
      rename_i hz
      have hn := sizedB_pos hz
      obtain ⟨hg, hl⟩ := span_get hs
      show WU (k.upd (hi32 a) fun r => { r with bytes := splice r.bytes (lo32 a) (leBytes u n.toNat) })
      refine h.upd _ _ fun r' hr' => ?_
      rw [hg] at hr'
      cases hr'
      have hm := get_mem hg
      have e := length_splice r.bytes (lo32 a) (leBytes u n.toNat) (by rw [length_leBytes]; omega)
      refine ⟨fun b hb => ?_, ?_, h.wf.pm _ hm⟩
      · rcases mem_splice hb with hb | hb
        · exact h.wf.by_ _ hm b hb
        · exact leBytes_lt _ _ b hb
      · simp only [e]; exact h.wf.ln _ hm
  · exact h
/-- How the program's room and the reference's list belong together. -/
def FLink (R : FR) (s : FSpec) (cpus : Int) (l : List Nat) (gone : Bool) : Prop :=
  (gone = true ∧ R = .gone) ∨ (gone = false ∧ s.kind = 2 ∧ ∃ a, R = .shared a ∧ l = [a]) ∨ (gone = false ∧ s.kind = 6 ∧ (∃ g cap, R = .own g cap l) ∧ cpus = l.length)
section
variable {R : FR} {s : FSpec} {cpus : Int} {l : List Nat} {gone : Bool}
theorem FLink.isB (h : FLink R s cpus l gone) : R.isB = !gone := by
  rcases h with ⟨rfl, rfl⟩ | ⟨rfl, _, a, rfl, _⟩ | ⟨rfl, _, ⟨g, cap, rfl⟩, _⟩ <;> rfl
theorem FLink.ads (h : FLink R s cpus l false) : R.ads = l := by
  rcases h with ⟨h1, _⟩ | ⟨_, _, a, rfl, rfl⟩ | ⟨_, _, ⟨g, cap, rfl⟩, _⟩
  · cases h1
  · rfl
  · rfl
theorem FLink.look (h : FLink R s cpus l gone) (key : ByteArray) (cpu : Int) : glookup s l gone key cpu = flookup s R key cpu := by
  unfold glookup flookup
  rcases h with ⟨rfl, rfl⟩ | ⟨rfl, hk, a, rfl, rfl⟩ | ⟨rfl, hk, ⟨g, cap, rfl⟩, _⟩
  · rw [if_pos (.inl rfl)]
    simp [FR.base]
  · by_cases hc : findex key < 0 ∨ (s.max : Int) ≤ findex key
    · rw [if_pos (.inr hc), if_pos hc]
    · rw [if_neg (by simpa using hc), if_neg hc]
      simp [hk, FR.base]
  · by_cases hc : findex key < 0 ∨ (s.max : Int) ≤ findex key
    · rw [if_pos (.inr hc), if_pos hc]
    · rw [if_neg (by simpa using hc), if_neg hc]
      have h2 : ¬ s.kind = 2 := by omega
      simp only [h2, if_false, FR.base]
      by_cases hcp : cpu < 0
      · rw [if_pos hcp, if_pos hcp]
      · rw [if_neg hcp, if_neg hcp]
        cases l[cpu.toNat]? <;> rfl
theorem FLink.next (h : FLink R s cpus l gone) (hm : 1 ≤ s.max) (key : ByteArray) : gnext s gone key = fnext s R key := by
  have hf := findex_lt key
  unfold gnext fnext
  have key2 : (if findex key < 0 ∨ (s.max : Int) ≤ findex key then (leBytes 0 4, (0 : Int)) else if findex key = (s.max : Int) - 1 then ([], 4) else (leBytes ((findex key).toNat + 1) 4, 0)) =
      (if (if (s.max : Int) < findex key + 1 then 0 else (findex key + 1).toNat) = s.max then ([], (4 : Int)) else (leBytes (if (s.max : Int) < findex key + 1 then 0 else (findex key + 1).toNat) 4, 0)) := by
    by_cases c1 : findex key < 0 ∨ (s.max : Int) ≤ findex key
    · rw [if_pos c1]
      have e : (if (s.max : Int) < findex key + 1 then 0 else (findex key + 1).toNat) = 0 := by
        split
        · rfl
        · omega
      rw [e, if_neg (by omega)]
    · rw [if_neg c1]
      have e : (if (s.max : Int) < findex key + 1 then 0 else (findex key + 1).toNat) = (findex key).toNat + 1 := by
        rw [if_neg (by omega)]; omega
      rw [e]
      by_cases c2 : findex key = (s.max : Int) - 1
      · rw [if_pos c2, if_pos (by omega)]
      · rw [if_neg c2, if_neg (by omega)]
  rcases h with ⟨rfl, rfl⟩ | ⟨rfl, hk, a, rfl, rfl⟩ | ⟨rfl, hk, ⟨g, cap, rfl⟩, _⟩
  · rfl
  · exact key2
  · exact key2
theorem FLink.upd (h : FLink R s cpus l gone) (key value : ByteArray) (fl cpu : Int) (k : KA) : gupd s cpus l gone key value fl cpu k = fupd s R key value fl cpu k := by
  unfold gupd fupd
  rcases h with ⟨rfl, rfl⟩ | ⟨rfl, hk, a, rfl, rfl⟩ | ⟨rfl, hk, ⟨g, cap, rfl⟩, hc⟩
  · rw [if_pos (.inl rfl), if_pos (.inl rfl)]
  · have n6 : ¬ (s.kind = 6 ∧ (cpu < -1 ∨ cpus ≤ cpu)) := by omega
    by_cases hx : findex key < 0 ∨ value.size ≠ s.value ∨ fl < 0 ∨ 2 < fl
    · rw [if_pos (.inr (by rcases hx with hx | hx | hx | hx; exact .inl hx; exact .inr (.inl hx); exact .inr (.inr (.inl hx)); exact .inr (.inr (.inr (.inl hx))))), if_pos (.inr hx)]
    · have hx2 : ¬ ((FR.shared a).isB = false ∨ findex key < 0 ∨ value.size ≠ s.value ∨ fl < 0 ∨ 2 < fl) := by simp only [FR.isB, reduceCtorEq, false_or]; exact hx
      have hx1 : ¬ (false = true ∨ findex key < 0 ∨ value.size ≠ s.value ∨ fl < 0 ∨ 2 < fl ∨ (s.kind = 6 ∧ (cpu < -1 ∨ cpus ≤ cpu))) := by simp only [n6, or_false, reduceCtorEq, false_or]; exact hx
      rw [if_neg hx1, if_neg hx2]
      simp [FR.each, gsel, hk]
  · by_cases hx : findex key < 0 ∨ value.size ≠ s.value ∨ fl < 0 ∨ 2 < fl
    · rw [if_pos (.inr (by rcases hx with hx | hx | hx | hx; exact .inl hx; exact .inr (.inl hx); exact .inr (.inr (.inl hx)); exact .inr (.inr (.inr (.inl hx))))), if_pos (.inr hx)]
    · rw [if_neg (c := (FR.own g cap l).isB = false ∨ _) (by simp only [FR.isB, reduceCtorEq, false_or]; exact hx)]
      simp only [FR.each]
      by_cases c1 : cpu = -1
      · subst c1
        rw [if_neg (by simp only [reduceCtorEq, false_or]; omega), if_pos rfl]
        simp [gsel]
      · rw [if_neg c1]
        by_cases c2 : cpu < 0
        · rw [if_pos (by simp only [reduceCtorEq, false_or]; omega), if_pos c2]
        · rw [if_neg c2]
          cases hl : l[cpu.toNat]? with
          | none =>
            have : (l.length : Int) ≤ cpu := by rw [List.getElem?_eq_none_iff] at hl; omega
            rw [if_pos (by simp only [reduceCtorEq, false_or]; omega)]
            rfl
          | some a =>
            have hlt := (List.getElem?_eq_some_iff.1 hl).1
            rw [if_neg (by simp only [reduceCtorEq, false_or]; omega)]
            have n2 : ¬ (s.kind = 2 ∨ cpu = -1) := by omega
            have hg : gsel s cpu l l.length = [a] := by
              unfold gsel
              rw [if_neg n2, if_pos (by omega), List.getD_eq_getElem?_getD, hl]
              rfl
            rw [hg]
            rfl
end
/-- Both arrays over both memories. -/
structure BoF (W0 w : World) (m n x y : Nat) (s : FSpec) (cpus : Int) (R : FR) (l : List Nat) (sv : Value) (gone : Bool) (k : KA) (F G : List Nat) : Prop where
  bo : BoW W0 w m n k F G
  fm : FM w x m s R
  gm : GM w y n s cpus l sv gone
  d1 : ∀ b ∈ R.foot x, b ∉ F ∧ b ∉ G ∧ b ∉ gfoot y sv ∧ W0.heap.size ≤ b
  d2 : ∀ b ∈ gfoot y sv, b ∉ F ∧ b ∉ G ∧ W0.heap.size ≤ b
  wu : WU k
  lk : FLink R s cpus l gone
section
variable {W0 w w1 : World} {m n x y : Nat} {s : FSpec} {cpus : Int} {R : FR} {l : List Nat} {sv : Value} {gone : Bool} {k k1 : KA} {F F1 G : List Nat}
theorem BoF.frame (h : BoF W0 w m n x y s cpus R l sv gone k F G) (hf : Fr [] [] w w1) : BoF W0 w1 m n x y s cpus R l sv gone k F G :=
  ⟨h.bo.frame hf, h.fm.fr hf (by simp), h.gm.fr hf (by simp), h.d1, h.d2, h.wu, h.lk⟩
theorem BoF.left (h : BoF W0 w m n x y s cpus R l sv gone k F G) (h1 : KS w1 m k1 F1) (hf : Fr F F1 w w1) :
    (GM w1 y n s cpus l sv gone ∧ RS w1 n k G ∧ FM w1 x m s R) ∧ ∀ (w2 : World) (G1 : List Nat), RS w2 n k1 G1 → Fr G G1 w1 w2 → WU k1 → BoF W0 w2 m n x y s cpus R l sv gone k1 F1 G1 := by
  have hg1 := h.gm.fr hf (fun b hb => (h.d2 b hb).1)
  have hx1 := h.fm.fr hf (fun b hb => (h.d1 b hb).1)
  refine ⟨⟨hg1, (h.bo.left h1 hf).1, hx1⟩, fun w2 G1 h2 hg hw => ⟨h.bo.both h1 hf h2 hg, hx1.fr hg (fun b hb => (h.d1 b hb).2.1), hg1.fr hg (fun b hb => (h.d2 b hb).2.1), fun b hb => ?_, fun b hb => ?_, hw, h.lk⟩⟩
  · obtain ⟨e1, e2, e3, e4⟩ := h.d1 b hb
    exact ⟨hf.notin (h.fm.lt b hb) e1, hg.notin (hx1.lt b hb) e2, e3, e4⟩
  · obtain ⟨e1, e2, e3⟩ := h.d2 b hb
    exact ⟨hf.notin (h.gm.lt b hb) e1, hg.notin (hg1.lt b hb) e2, e3⟩
theorem BoF.freed (h : BoF W0 w m n x y s cpus R l sv false k F G) (h1 : KS w1 m k1 F1) (hx : FM w1 x m s .gone) (hxF : x ∉ F1) (hf : Fr (x :: F) (x :: F1) w w1) (hw : WU k1) :
    (GM w1 y n s cpus l sv false ∧ RS w1 n k G) ∧ ∀ (w2 : World) (G1 : List Nat), RS w2 n k1 G1 → GM w2 y n s cpus l sv true → (∀ b ∈ gfoot y sv, b ∉ G1) → Fr (y :: G) (y :: G1) w1 w2 → BoF W0 w2 m n x y s cpus .gone l sv true k1 F1 G1 := by
  have hxm : x ∈ R.foot x := by cases R <;> simp [FR.foot]
  obtain ⟨x1, x2, x3, x4⟩ := h.d1 x hxm
  have hyx : ∀ b ∈ gfoot y sv, b ≠ x := fun b hb e => x3 (e ▸ hb)
  have hg1 := h.gm.fr hf (fun b hb e => by
    rcases List.mem_cons.1 e with e | e
    · exact hyx b hb e
    · exact (h.d2 b hb).1 e)
  have hr1 : RS w1 n k G := h.bo.b.frame (fun b hb => hf.block b (h.bo.b.lt b hb) (fun e => by
    rcases List.mem_cons.1 e with rfl | e
    · exact x2 hb
    · exact h.bo.ap b e hb)) hf.size
  have hF1 : ∀ b ∈ F1, (b ∈ F ∨ b = x) ∨ w.heap.size ≤ b := fun b hb => by
    rcases hf.foot b (List.mem_cons_of_mem _ hb) with e | e
    · rcases List.mem_cons.1 e with e | e
      · exact .inl (.inr e)
      · exact .inl (.inl e)
    · exact .inr e
  have hF2 : ∀ b ∈ F1, b ∈ F ∨ w.heap.size ≤ b := fun b hb => by
    rcases hF1 b hb with (e | e) | e
    · exact .inl e
    · exact absurd (e ▸ hb) hxF
    · exact .inr e
  have hym : y ∈ gfoot y sv := by simp [gfoot]
  obtain ⟨y1, y2, y3⟩ := h.d2 y hym
  have hyF1 : ∀ b ∈ gfoot y sv, b ∉ F1 := fun b hb e => by
    rcases hF2 b e with e | e
    · exact (h.d2 b hb).1 e
    · have := h.gm.lt b hb; omega
  have hsz := h.bo.bl.size
  refine ⟨⟨hg1, hr1⟩, fun w2 G1 h2 hgm hgf hg => ⟨⟨h1.frame (fun b hb => hg.block b (h1.lt b hb) (fun e => ?_)), h2, fun b hb hb2 => ?_, fun b hb => ?_, fun b hb => ?_, ?_⟩, hx.fr hg (fun b hb e => ?_), hgm, fun b hb => ?_, fun b hb => ?_, hw, .inl ⟨rfl, rfl⟩⟩⟩
  · rcases List.mem_cons.1 e with e | e
    · exact hyF1 y hym (e ▸ hb)
    · rcases hF2 b hb with e2 | e2
      · exact h.bo.ap b e2 e
      · have := h.bo.b.lt b e; omega
  · rcases hg.foot b (List.mem_cons_of_mem _ hb2) with e | e
    · rcases List.mem_cons.1 e with e | e
      · exact hyF1 y hym (e ▸ hb)
      · rcases hF2 b hb with e2 | e2
        · exact h.bo.ap b e2 e
        · have := h.bo.b.lt b e; omega
    · have := h1.lt b hb; omega
  · rcases hF2 b hb with e | e
    · exact h.bo.nf b e
    · omega
  · rcases hg.foot b (List.mem_cons_of_mem _ hb) with e | e
    · rcases List.mem_cons.1 e with e | e
      · rw [e]; exact y3
      · exact h.bo.ng b e
    · have := hf.size; omega
  · have b1 := hf.below hsz (fun b hb => by
      rcases List.mem_cons.1 hb with e | e
      · rw [e]; exact x4
      · exact h.bo.nf b e)
    have b2 := hg.below (B := W0.heap.size) (Nat.le_trans hsz hf.size) (fun b hb => by
      rcases List.mem_cons.1 hb with e | e
      · rw [e]; exact y3
      · exact h.bo.ng b e)
    exact (h.bo.bl.trans b1).trans b2
  · simp only [FR.foot, List.mem_singleton] at hb
    subst hb
    rcases List.mem_cons.1 e with e | e
    · exact x3 (e ▸ hym)
    · exact x2 e
  · simp only [FR.foot, List.mem_singleton] at hb
    subst hb
    refine ⟨hxF, fun e => ?_, x3, x4⟩
    rcases hg.foot b (List.mem_cons_of_mem _ e) with e | e
    · rcases List.mem_cons.1 e with e | e
      · exact x3 (e ▸ hym)
      · exact x2 e
    · have := h.fm.lt b hxm
      have := hf.size
      omega
  · exact ⟨hyF1 b hb, hgf b hb, (h.d2 b hb).2.2⟩
end
/-- The reference's Update, whatever the arguments. -/
theorem gupd_calls {w : World} {y n : Nat} {s : FSpec} {cpus : Int} {l : List Nat} {sv : Value} {gone : Bool} {R : FR} {k : KA} {G : List Nat} (h : GM w y n s cpus l sv gone) (hrs : RS w n k G) (hw : WU k) (hd : ∀ b ∈ gfoot y sv, b ∉ G) (hl : FLink R s cpus l gone) (key value : ByteArray) (fl cpu : Int) :
    Calls Try.prog 37 #[.pointer (some ⟨y, 0, none⟩), .string key, .string value, .int .i64 fl, .int .i64 cpu] w (GPost n G w (.int .i64 (fupd s R key value fl cpu k).1) (fupd s R key value fl cpu k).2) := by
  rw [← hl.upd]
  unfold gupd
  by_cases hc : gone = true ∨ findex key < 0 ∨ value.size ≠ s.value ∨ fl < 0 ∨ 2 < fl ∨ (s.kind = 6 ∧ (cpu < -1 ∨ cpus ≤ cpu))
  · rw [if_pos hc]
    exact (gupd_arg h key value fl cpu hc).mono fun e w' ⟨h1, h2⟩ => GPost.still hrs h1 h2
  rw [if_neg hc]
  have g0 : gone = false := by cases gone; rfl; exact absurd (.inl rfl) hc
  subst g0
  have q0 : ¬ findex key < 0 := fun e => hc (.inr (.inl e))
  have q1 : value.size = s.value := Decidable.byContradiction fun e => hc (.inr (.inr (.inl e)))
  have q2 : ¬ fl < 0 := fun e => hc (.inr (.inr (.inr (.inl e))))
  have q3 : ¬ 2 < fl := fun e => hc (.inr (.inr (.inr (.inr (.inl e)))))
  have q4 : ¬ (s.kind = 6 ∧ (cpu < -1 ∨ cpus ≤ cpu)) := fun e => hc (.inr (.inr (.inr (.inr (.inr e)))))
  have hk : gkind s cpus cpu := by
    unfold gkind
    by_cases k6 : s.kind = 6
    · exact .inr ⟨by simpa using k6, fun e => q4 ⟨k6, .inl e⟩, fun e => q4 ⟨k6, .inr e⟩⟩
    · exact .inl (by simpa using k6)
  obtain ⟨i, hi⟩ : ∃ i : Nat, findex key = i := ⟨(findex key).toNat, by omega⟩
  by_cases hm : (s.max : Int) ≤ findex key
  · rw [if_pos hm]
    exact (gupd_no h key value fl cpu i 3 hi q1 q2 q3 hk (.inl ⟨by omega, rfl⟩)).mono fun e w' ⟨h1, h2⟩ => GPost.still hrs h1 h2
  rw [if_neg hm]
  by_cases h1 : fl = 1
  · rw [if_pos h1]
    exact (gupd_no h key value fl cpu i 5 hi q1 q2 q3 hk (.inr ⟨by omega, h1, rfl⟩)).mono fun e w' ⟨h1, h2⟩ => GPost.still hrs h1 h2
  rw [if_neg h1, hi, Int.toNat_natCast]
  refine gupd_go h hrs hw hd key value fl cpu i hi (by omega) q1 q2 q3 hk h1 fun h2 => ?_
  rcases hl with ⟨e, _⟩ | ⟨_, _, a, _, rfl⟩ | ⟨_, e, _⟩
  · cases e
  · rfl
  · omega
theorem fupd_wu {R : FR} {s : FSpec} {k : KA} (h : WU k) (key value : ByteArray) (fl cpu : Int) : WU (fupd s R key value fl cpu k).2 := by
  unfold fupd
  split
  · exact h
  · split
    · exact h
    · split
      · exact h
      · split
        · exact h
        · exact fputs_wu h s _ _ (nats_lt value) _
end Go.Proofs.Ytmgocjclopfeeaa
