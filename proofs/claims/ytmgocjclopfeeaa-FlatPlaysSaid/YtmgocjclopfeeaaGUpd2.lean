/- Contract of the reference's Update of an array, where it writes; condition: the array lies in the world, apart from its memory. -/
import Derived.Test.YtmgocjclopfeeaaGUpd
import Derived.Test.YtmgocjclopfeeaaFUpd
set_option linter.unusedVariables false
set_option linter.unusedSimpArgs false
namespace Go.Proofs.Ytmgocjclopfeeaa
open Go.RowKit Go.MapKept

theorem gsel_zero (s : FSpec) (cpu : Int) (l : List Nat) : gsel s cpu l 0 = [] := by
  unfold gsel
  split
  · simp
  · split
    · rename_i h; omega
    · rfl
theorem gsel_yes (s : FSpec) (cpu : Int) (l : List Nat) (c a : Nat) (ha : l[c]? = some a) (h : s.kind = 2 ∨ cpu = -1 ∨ cpu = c) : gsel s cpu l (c + 1) = gsel s cpu l c ++ [a] := by
  obtain ⟨hc, rfl⟩ := List.getElem?_eq_some_iff.1 ha
  unfold gsel
  by_cases h1 : s.kind = 2 ∨ cpu = -1
  · rw [if_pos h1, if_pos h1, List.take_succ_eq_append_getElem hc]
  · rw [if_neg h1, if_neg h1]
    obtain rfl : cpu = c := by
      rcases h with h | h | h
      · exact absurd (.inl h) h1
      · exact absurd (.inr h) h1
      · exact h
    rw [if_pos ⟨by omega, by omega⟩, if_neg (by omega), Int.toNat_natCast, List.getD_eq_getElem?_getD, List.getElem?_eq_getElem hc]
    rfl
theorem gsel_no (s : FSpec) (cpu : Int) (l : List Nat) (c : Nat) (h : ¬ (s.kind = 2 ∨ cpu = -1 ∨ cpu = c)) : gsel s cpu l (c + 1) = gsel s cpu l c := by
  unfold gsel
  have hn : ¬ (s.kind = 2 ∨ cpu = -1) := fun e => h (by rcases e with e | e; exact .inl e; exact .inr (.inl e))
  rw [if_neg hn, if_neg hn]
  have : cpu ≠ c := fun e => h (.inr (.inr e))
  by_cases h2 : 0 ≤ cpu ∧ cpu < c
  · rw [if_pos h2, if_pos (by omega)]
  · rw [if_neg h2, if_neg (by omega)]
theorem fputs_wu {k : KA} (h : WU k) (s : FSpec) (i : Nat) (v : List Nat) (hv : ∀ b ∈ v, b < 256) : ∀ (l : List Nat), WU (fputs s i v l k) := by
  intro l
  unfold fputs
  induction l generalizing k with
  | nil => exact h
  | cons a l ih => exact ih (h.put _ v hv)
def GRel (w1 : World) (n : Nat) (G : List Nat) (s : FSpec) (i : Nat) (v l : List Nat) (cpu : Int) (k : KA) (iv : Value) (wr : World) : Prop :=
  ∃ (c : Nat) (G1 : List Nat), c ≤ l.length ∧ iv = .int .i64 c ∧ RS wr n (fputs s i v (gsel s cpu l c) k) G1 ∧ Fr G G1 w1 wr
theorem GRel.skip {w1 wr : World} {n : Nat} {G : List Nat} {s : FSpec} {i : Nat} {v l : List Nat} {cpu : Int} {k : KA} {c : Nat} {G1 : List Nat} (hc : c < l.length) (hs : RS wr n (fputs s i v (gsel s cpu l c) k) G1) (hf : Fr G G1 w1 wr) (h : ¬ (s.kind = 2 ∨ cpu = -1 ∨ cpu = c)) :
    GRel w1 n G s i v l cpu k (.int .i64 ((c : Int) + 1)) wr := ⟨c + 1, G1, by omega, by simp, by rw [gsel_no _ _ _ _ h]; exact hs, hf⟩
set_option maxRecDepth 100000 in
set_option maxHeartbeats 4000000 in
theorem gupd_go {w : World} {y n : Nat} {s : FSpec} {cpus : Int} {l : List Nat} {sv : Value} {k : KA} {G : List Nat} (h : GM w y n s cpus l sv false) (hrs : RS w n k G) (hw : WU k) (hd : ∀ b ∈ gfoot y sv, b ∉ G) (key value : ByteArray) (fl cpu : Int) (i : Nat)
    (hf : findex key = i) (hi : i < s.max) (hv : value.size = s.value) (h0 : ¬ fl < 0) (h2 : ¬ 2 < fl) (hk : gkind s cpus cpu) (h1 : fl ≠ 1) (hl1 : s.kind = 2 → l.length = 1) :
    Calls Try.prog 37 #[.pointer (some ⟨y, 0, none⟩), .string key, .string value, .int .i64 fl, .int .i64 cpu] w (GPost n G w (.int .i64 0) (fputs s i (nats value) (gsel s cpu l l.length) k)) := by
  have HI := fun W => hide (gindex_calls (.pointer (some ⟨y, 0, none⟩)) key W)
  rw [hf] at HI
  obtain ⟨c0, c1, c2, c3, c4, c5, c6, c7, -⟩ := h.cells
  have k3' : ((value.size : Int) != (s.value : Int)) = false := by rw [bne_eq_false_iff_eq]; omega
  have hi2 : decide ((s.max : Int) ≤ i) = false := by rw [decide_eq_false_iff_not]; omega
  have hi3 : ¬ (s.max : Int) ≤ i := by omega
  have hi4 : decide (s.max ≤ i) = false := by rw [decide_eq_false_iff_not]; omega
  have hfl : (fl == 1) = false := by simpa using h1
  have H0 := hide (show GRel w n G s i (nats value) l cpu k (.int .i64 0) w from ⟨0, G, Nat.zero_le _, rfl, by rw [gsel_zero]; exact hrs, Fr.refl _ _⟩)
  have HGM := hide h
  have HD := hide hd
  have HWU := hide (fputs_wu hw s i (nats value) (nats_lt value))
  have HLO : ∀ (c a : Nat), l[c]? = some a → Hid (glookup s l false key c = a + i * fwide s.value) := fun c a ha => hide (by
    have hc := (List.getElem?_eq_some_iff.1 ha).1
    unfold glookup
    rw [hf, if_neg (by simp; omega)]
    by_cases k2 : s.kind = 2
    · have := hl1 k2
      obtain rfl : c = 0 := by omega
      simp only [k2, if_true, Int.lt_irrefl, if_false, Int.toNat_zero, ha, Int.toNat_natCast]
    · simp only [k2, if_false, Int.toNat_natCast, ha]
      rw [if_neg (by omega)])
  have HAD := hide (fun (c a : Nat) (ha : l[c]? = some a) => show a + i * fwide s.value < 18446744073709551616 by
    have : i * fwide s.value ≤ 4096 * 4096 := Nat.mul_le_mul (by have := h.m1.2; omega) (fwide_le _ h.v1.2)
    have := h.ad _ (List.mem_of_getElem? ha); omega)
  have hL8 := h.l8
  obtain ⟨A, cap, hsv, -⟩ := h.form
  rw [hsv] at c6
  generalize hL : l.length = L at *
  have HL := hide hL
  clear h hrs hw hd hf hv h1 hl1 hL hi
  have hgo : ∀ (r1 : World) (G1 : List Nat), Fr G G1 w r1 → GM r1 y n s cpus l sv false := fun r1 G1 hf => HGM.out.fr hf HD.out
  have HGO := hide hgo
  clear hgo
  rcases hk with hk | ⟨hk, k8, k9⟩
  all_goals
    go_enter Try.func37, Try.ntmps37
    go_wp2_with fail
    refine (HI _).out.mono ?_
    rintro e w' ⟨rfl, rfl⟩
    go_wp2_with fail
    go_loopw [12] (fun iv wr => GRel w n G s i (nats value) l cpu k iv wr) (fun iv _ => L - (intOf iv).toNat)
    case atStart => exact H0.out
    case round =>
      obtain ⟨c, G1, hc, rfl, hs, hfr⟩ := hrel
      rw [HL.out] at hc
      have HS := hide hs
      have HF := hide hfr
      have hgm := HGO.out _ _ hfr
      have HGM2 := hide hgm
      clear c0 c1 c2 c3 c4 c5 c6 c7
      obtain ⟨c0, c1, c2, c3, c4, c5, c6, c7, -⟩ := hgm.cells
      rw [hsv] at c6
      clear hs hfr hgm
      by_cases hlt : c < L
      · have hcl : c < l.length := by rw [HL.out]; exact hlt
        obtain ⟨a, ha⟩ : ∃ a, l[c]? = some a := ⟨l[c], List.getElem?_eq_getElem hcl⟩
        have hli : (c : Int) < L := by omega
        by_cases hy : s.kind = 2 ∨ cpu = -1 ∨ cpu = c
        · have HT := hide (gsel_yes s cpu l c a ha hy)
          have HLK := hide (fun W (hW : Same wr W) => glookup_calls (HGM2.out.frame (w' := W) fun b _ => by rw [hW.heap]) key c)
          rw [(HLO c a ha).out] at HLK
          have hadc := HAD.out c a ha
          clear ha
          have HY := hide (HWU.out (gsel s cpu l c))
          obtain ⟨kq, hkq⟩ : ∃ kq, kq = fputs s i (nats value) (gsel s cpu l c) k := ⟨_, rfl⟩
          obtain ⟨n3, hn3⟩ : ∃ n, n = (kq.put (a + i * fwide s.value) (nats value)).1 := ⟨_, rfl⟩
          obtain ⟨k3, hk4⟩ : ∃ n, n = (kq.put (a + i * fwide s.value) (nats value)).2 := ⟨_, rfl⟩
          rw [← hkq] at HS HY
          have HT2 : Hid (fputs s i (nats value) (gsel s cpu l (c + 1)) k = k3) := hide (by rw [HT.out, fputs_snoc, ← hkq, hk4])
          have HP : Hid (∀ W z, Same wr W → z = ((a + i * fwide s.value : Nat) : Int) → Calls Try.prog 46 #[.pointer (some ⟨n, 0, none⟩), .int .u64 z, .string value] W (RPostS n G1 W (.int .i64 n3) k3)) := hide fun W z hW hz =>
            put_R (HS.out.frame (fun b _ => by rw [hW.heap]) (by rw [hW.heap]; exact Nat.le_refl _)) HY.out.wf _ hz hadc value (by rw [hn3, hk4])
          have HC : Hid (∀ W, Same wr W → W.cell? ⟨y, 0, none⟩ = some (.pointer (some ⟨n, 0, none⟩))) := hide fun W hW => by
            rw [← c0]; simp only [World.cell?]; rw [hW.heap]
          have HE : Hid (∀ W G3 W2, Same wr W → RS W2 n k3 G3 → Fr G1 G3 W W2 → GRel w n G s i (nats value) l cpu k (.int .i64 ((c : Int) + 1)) W2) := hide fun W G3 W2 hW hr hf3 =>
            ⟨c + 1, G3, by rw [HL.out]; omega, by simp, by rw [HT2.out]; exact hr, (HF.out.trans (hW.fr G1)).trans hf3⟩
          clear HT HT2 hkq hn3 hk4 HY HS HF HWU HLO HAD HGM HGM2 HGO HD H0
          generalize a + i * fwide s.value = ad at *
          have hy3 : (s.kind == 2) = true ∨ ((s.kind == 2) = false ∧ (cpu == -1) = true) ∨ ((s.kind == 2) = false ∧ (cpu == -1) = false ∧ (cpu == (c : Int)) = true) := by
            by_cases z1 : s.kind = 2
            · exact .inl (by simpa using z1)
            by_cases z2 : cpu = -1
            · exact .inr (.inl ⟨by simpa using z1, by simpa using z2⟩)
            · exact .inr (.inr ⟨by simpa using z1, by simpa using z2, by simpa using (hy.resolve_left z1).resolve_left z2⟩)
          clear hy
          rcases hy3 with kb | ⟨kb, y2⟩ | ⟨kb, y2, y3⟩
          all_goals
            go_wp2_with fail
            go_region_with (first | (go_at_call 36; refine (HLK.out _ ?_).mono ?_; exact ⟨rfl, rfl, rfl, rfl⟩; rintro e w2 ⟨rfl, hsm⟩; have hsm2 : Same wr w2 := ⟨hsm.heap, hsm.os, hsm.tape, hsm.output⟩; have d0 := HC.out w2 hsm2) | (go_at_call 46; refine (HP.out _ _ ?_ rfl).mono ?_; exact ⟨hsm2.heap, hsm2.os, hsm2.tape, hsm2.output⟩; rintro e w3 ⟨G3, rfl, hr3, hf3⟩; have HN := hide (HE.out w2 G3 w3 hsm2 hr3 ⟨hf3.os, hf3.tape, hf3.output, hf3.size, hf3.block, hf3.foot⟩)))
            all_goals
              clear hr3 hf3
              go_wp2
              try go_big_round
              exact ⟨HN.out, by show L - ((c : Int) + 1).toNat < L - ((c : Int)).toNat; omega⟩
        · have HN := hide (GRel.skip hcl HS.out HF.out hy)
          have y1 : (s.kind == 2) = false := by simpa using fun e => hy (.inl e)
          have y2 : (cpu == -1) = false := by simpa using fun e => hy (.inr (.inl e))
          have y3 : (cpu == (c : Int)) = false := by simpa using fun e => hy (.inr (.inr e))
          clear hy
          go_wp2
          exact ⟨HN.out, by show L - ((c : Int) + 1).toNat < L - ((c : Int)).toNat; omega⟩
      · obtain rfl : c = L := by omega
        have HE : Hid (GPost n G w (.int .i64 0) (fputs s i (nats value) (gsel s cpu l c) k) (.returned (.int .i64 0)) wr) := hide ⟨G1, rfl, HS.out, HF.out⟩
        go_wp2
        go_ret
        exact HE.out
end Go.Proofs.Ytmgocjclopfeeaa
