/- Contract of flat's Update on an array for each CPU: it answers and writes as the plain data say; condition: the map lies in the world. -/
import Derived.Test.YtmgocjclopfeeaaFWalk7
set_option linter.unusedVariables false
set_option linter.unusedSimpArgs false
namespace Go.Proofs.Ytmgocjclopfeeaa
open Go.RowKit Go.MapKept
open Go.ChangeMaps (setBlock)

def EachPost (l : List Nat) (g cap : Nat) (w1 : World) (e : Ending) (w2 : World) : Prop :=
  e = .returned (.tuple #[.slice (some ⟨g, 0, none⟩) l.length cap, .bool true]) ∧ Fr [] [] w1 w2 ∧ ∀ j a : Nat, l[j]? = some a → w2.cell? ⟨g, j, none⟩ = some (.int .u64 a)
theorem fputs_snoc (s : FSpec) (i : Nat) (v l : List Nat) (a : Nat) (k : KA) : fputs s i v (l ++ [a]) k = ((fputs s i v l k).put (a + i * fwide s.value) v).2 := by
  simp [fputs, List.foldl_append]
set_option maxRecDepth 100000 in
set_option maxHeartbeats 1600000 in
theorem update_own_go {w : World} {x m : Nat} {s : FSpec} {k : KA} {F : List Nat} {g cap : Nat} {l : List Nat} (h : FM w x m s (.own g cap l)) (hk : KS w m k F) (hd : x ∉ F) (hdg : g ∉ F) (key value : ByteArray) (fl cpu : Int) (i : Nat)
    (g' cap' : Nat) (l' : List Nat) (hE : ∀ w1, Same w w1 → Calls Try.prog 89 #[.slice (some ⟨g, 0, none⟩) l.length cap, .int .i64 cpu] w1 (EachPost l' g' cap' w1)) (hg : g' ∉ F) (hal : ∀ a ∈ l', a < 9223372036854775808) (hl8 : l'.length ≤ 8)
    (hf : findex key = i) (hi : i < s.max) (hv : value.size = s.value) (h0 : 0 ≤ fl) (h2 : fl ≤ 2) (h1 : fl ≠ 1) :
    Calls Try.prog 13 #[.pointer (some ⟨x, 0, none⟩), .string key, .string value, .int .i64 fl, .int .i64 cpu] w (FPost m F w (.int .i64 0) (fputs s i (nats value) l' k)) := by
  have HI := hide (index_calls key w)
  rw [hf] at HI
  have hi2 : decide ((s.max : Int) ≤ i) = false := by rw [decide_eq_false_iff_not]; omega
  have hi3 : ¬ (s.max : Int) ≤ i := by omega
  have hi4 : decide (s.max ≤ i) = false := by rw [decide_eq_false_iff_not]; omega
  have hvv := h.v1.2
  have hm := h.m1.2
  have HW := fun w => hide (wide_calls s.value hvv w)
  have hfw := fwide_le _ hvv
  have HS : ∀ a ∈ l', Hid (IntKind.u64.wrap ((a : Int) + IntKind.u64.wrap (wrap64 ((i : Int) * (fwide s.value : Nat)))) = ((a + i * fwide s.value : Nat) : Int)) := fun a ha => hide (u64_sum a i (fwide s.value) (hal a ha) (by omega) (fwide_le _ hvv))
  have HS2 : ∀ a ∈ l', Hid (IntKind.u64.wrap ((a : Int) + IntKind.u64.wrap (IntKind.i64.wrap ((i : Int) * (fwide s.value : Nat)))) = ((a + i * fwide s.value : Nat) : Int)) := fun a ha => hide (by rw [IntWalk.i64_left]; exact (HS a ha).out)
  have hfl : (fl == 1) = false := by simpa using h1
  have hvb : ((value.size : Int) != (s.value : Int)) = false := by rw [bne_eq_false_iff_eq]; omega
  have HP : ∀ a ∈ l', ∀ W z F k, KS W m k F → z = ((a + i * fwide s.value : Nat) : Int) → Hid (Calls Try.prog 30 #[.pointer (some ⟨m, 0, none⟩), .int .u64 z, .string value] W (KPostS m F W (.int .i64 (k.put (a + i * fwide s.value) (nats value)).1) (k.put (a + i * fwide s.value) (nats value)).2)) := fun a ha W z F k hW hz =>
    hide (put_S hW hz (by have : i * fwide s.value ≤ 4096 * 4096 := Nat.mul_le_mul (by omega) hfw
                          have := hal a ha; omega) rfl)
  have HE := hide hE
  have HL := hide hal
  clear hf hv h1 hE hal
  go_enter Try.func13, Try.ntmps13
  go_wp2_with fail
  refine HI.out.mono ?_
  rintro e w1 ⟨rfl, hs⟩
  have HT := hide (there_calls (h.same hs))
  have hx1 := h.same hs
  obtain ⟨c0, c1, c2, c3, c4, c5, f5⟩ := hx1.cells
  have hk1 := hk.same hs
  have hs1 := hs.fr F
  simp only [FR.val] at c5
  go_wp2_with fail
  refine HT.out.mono ?_
  rintro e w' ⟨rfl, rfl⟩
  simp only [FR.isB]
  go_wp2_with fail
  refine (HE.out _ hs).mono ?_
  rintro e w2 ⟨rfl, f2, hcells⟩
  have hx2 : FM w2 x m s (.own g cap l) := hx1.fr f2 (by simp)
  have hk2 := hk1.fr f2
  have hw2 := hs1.more f2
  have HC := hide hcells
  clear c0 c1 c2 c3 c4 c5 f5 hcells
  obtain ⟨c0, c1, c2, c3, c4, c5, f5⟩ := hx2.cells
  go_wp2_with fail
  go_loopw [68] (fun iv wr => ∃ (q : Nat) (F1 : List Nat), q ≤ l'.length ∧ iv = .int .i64 q ∧ KS wr m (fputs s i (nats value) (l'.take q) k) F1 ∧ Fr F F1 w2 wr) (fun iv _ => l'.length - (intOf iv).toNat)
  case atStart => exact ⟨0, F, Nat.zero_le _, rfl, hk2, Fr.refl _ _⟩
  case round =>
    obtain ⟨q, F1, hq, rfl, hk3, f3⟩ := hrel
    clear c0 c1 c2 c3 c4 c5 f5
    by_cases hlt : q < l'.length
    · have ha := List.getElem?_eq_getElem hlt
      have hmem := List.getElem_mem hlt
      have HP1 := HP _ hmem
      have HSa := HS _ hmem
      have HSb := HS2 _ hmem
      have hcell2 := HC.out q _ ha
      have hcell : wr.cell? ⟨g', q, none⟩ = some (.int .u64 (l'[q] : Nat)) := (World.cell?_of_block (a := ⟨g', q, none⟩) (f3.block g' (lt_of_cell hcell2) hg)).trans hcell2
      have hx3 : FM wr x m s (.own g cap l) := hx2.fr f3 (by simp [FR.foot, hd, hdg])
      obtain ⟨c0, c1, c2, c3, c4, c5, f5⟩ := hx3.cells
      have HT : Hid (fputs s i (nats value) (l'.take (q + 1)) k = ((fputs s i (nats value) (l'.take q) k).put (l'[q] + i * fwide s.value) (nats value)).2) := hide (by rw [List.take_succ_eq_append_getElem hlt, fputs_snoc])
      clear hcell2
      generalize l'[q] = a at ha hmem HP1 HSa HSb hcell HT
      generalize fputs s i (nats value) (l'.take q) k = kq at hk3 HT
      obtain ⟨n3, hn3⟩ : ∃ n, n = (kq.put (a + i * fwide s.value) (nats value)).1 := ⟨_, rfl⟩
      obtain ⟨k3, hk4⟩ : ∃ n, n = (kq.put (a + i * fwide s.value) (nats value)).2 := ⟨_, rfl⟩
      rw [← hk4] at HT
      have HP2 : ∀ W z, KS W m kq F1 → z = ((a + i * fwide s.value : Nat) : Int) → Hid (Calls Try.prog 30 #[.pointer (some ⟨m, 0, none⟩), .int .u64 z, .string value] W (KPostS m F1 W (.int .i64 n3) k3)) := fun W z h1 h2 => by rw [hn3, hk4]; exact HP1 W z F1 kq h1 h2
      clear HP1 hk4 hn3
      go_wp2_with fail
      go_region_with (first | (go_at_call 25; refine (HW _).out.mono ?_; rintro e w' ⟨rfl, rfl⟩) | (go_at_call 30; refine (HP2 _ _ ?_ ?_).out.mono ?_; (first | exact hk3 | exact hk3.drew | exact hk3.drewN _); (first | exact HSa.out | exact HSb.out); rintro e w' ⟨F3, rfl, hk4, f4⟩))
      all_goals
        have f6 : Fr F F3 w2 w' := by first | exact f3.trans f4 | exact f3.drew.trans f4 | exact (f3.drewN _).trans f4
        have HK : Hid (KS w' m (fputs s i (nats value) (l'.take (q + 1)) k) F3) := hide (by rw [HT.out]; exact hk4)
        go_wp2
        try go_big_round
        exact ⟨⟨q + 1, F3, by omega, by go_num, HK.out, f6⟩, by simp [intOf]; omega⟩
    · obtain rfl : q = l'.length := by omega
      rw [List.take_length] at hk3
      go_wp2
      go_ret
      exact ⟨F1, rfl, hk3, hw2.trans f3⟩
end Go.Proofs.Ytmgocjclopfeeaa
