/- Contracts of the reference's Next, Update and Free of an array; condition: the array lies in the world, apart from its memory. -/
import Derived.Test.YtmgocjclopfeeaaGRef
import Derived.Test.YtmgocjclopfeeaaKWU
import Derived.Deep.RegionHeld3
set_option linter.unusedVariables false
set_option linter.unusedSimpArgs false
namespace Go.Proofs.Ytmgocjclopfeeaa
open Go.RowKit Go.MapKept

def gnext (s : FSpec) (gone : Bool) (key : ByteArray) : List Nat × Int :=
  if gone = true then ([], 1) else
  if findex key < 0 ∨ (s.max : Int) ≤ findex key then (leBytes 0 4, 0) else
  if findex key = (s.max : Int) - 1 then ([], 4) else (leBytes ((findex key).toNat + 1) 4, 0)
set_option maxRecDepth 100000 in
set_option maxHeartbeats 800000 in
theorem gnext_calls {w : World} {y n : Nat} {s : FSpec} {cpus : Int} {l : List Nat} {sv : Value} {gone : Bool} (h : GM w y n s cpus l sv gone) (key : ByteArray) :
    Calls Try.prog 38 #[.pointer (some ⟨y, 0, none⟩), .string key] w (FNextPost w (.tuple #[strOf (gnext s gone key).1, .int .i64 (gnext s gone key).2])) := by
  have HI := fun W => hide (gindex_calls (.pointer (some ⟨y, 0, none⟩)) key W)
  obtain ⟨c0, c1, c2, c3, c4, c5, c6, c7, -⟩ := h.cells
  have hmm := h.m1.2
  have hm1 := h.m1.1
  have HL : ∀ (u : Nat) W (z : Int), z = u → Hid (Calls Try.prog 11 #[.int .u64 z, .int .i64 4] W (FreshPost W (strOf (leBytes u 4)))) := fun u W z hz => hide (by rw [hz]; exact le_calls u 4 (by omega) W)
  unfold gnext
  generalize findex key = q at *
  clear h
  by_cases g0 : gone = true
  · subst g0
    rw [if_pos rfl]
    clear HL
    go_enter Try.func38, Try.ntmps38
    go_wp2
    go_ret2
    exact ⟨rfl, Fr.refl _ _⟩
  have g1 : gone = false := by simpa using g0
  subst g1
  rw [if_neg (by decide)]
  by_cases q0 : q < 0
  · rw [if_pos (.inl q0)]
    go_enter Try.func38, Try.ntmps38
    go_wp2_with fail
    refine (HI _).out.mono ?_
    rintro e w' ⟨rfl, rfl⟩
    go_wp2_with fail
    refine (HL 0 _ _ rfl).out.mono ?_
    rintro e w' ⟨rfl, hf⟩
    go_wp2
    go_ret2
    exact ⟨rfl, hf⟩
  by_cases q1 : (s.max : Int) ≤ q
  · rw [if_pos (.inr q1)]
    go_enter Try.func38, Try.ntmps38
    go_wp2_with fail
    refine (HI _).out.mono ?_
    rintro e w' ⟨rfl, rfl⟩
    go_wp2_with fail
    refine (HL 0 _ _ rfl).out.mono ?_
    rintro e w' ⟨rfl, hf⟩
    go_wp2
    go_ret2
    exact ⟨rfl, hf⟩
  rw [if_neg (by simp [q0, q1])]
  obtain ⟨i, rfl⟩ : ∃ i : Nat, q = i := ⟨q.toNat, by omega⟩
  rw [Int.toNat_natCast]
  by_cases q2 : (i : Int) = (s.max : Int) - 1
  · rw [if_pos q2]
    have q3 : ((i : Int) == (s.max : Int) - 1) = true := by simpa using q2
    clear HL q2
    go_enter Try.func38, Try.ntmps38
    go_wp2_with fail
    refine (HI _).out.mono ?_
    rintro e w' ⟨rfl, rfl⟩
    go_wp2
    go_ret2
    exact ⟨rfl, Fr.refl _ _⟩
  · rw [if_neg q2]
    have q3 : ((i : Int) == (s.max : Int) - 1) = false := by simpa using q2
    have hi4 : (i : Int) < 4096 := by omega
    clear q2
    go_enter Try.func38, Try.ntmps38
    go_wp2_with fail
    refine (HI _).out.mono ?_
    rintro e w' ⟨rfl, rfl⟩
    go_wp2_with fail
    refine (HL (i + 1) _ _ ?_).out.mono ?_
    · first | rfl | (simp; done) | omega
    rintro e w' ⟨rfl, hf⟩
    go_wp2
    go_ret2
    exact ⟨rfl, hf⟩

/-- Those of the first c beginnings that an update of a CPU goes to. -/
def gsel (s : FSpec) (cpu : Int) (l : List Nat) (c : Nat) : List Nat :=
  if s.kind = 2 ∨ cpu = -1 then l.take c else if 0 ≤ cpu ∧ cpu < c then [l.getD cpu.toNat 0] else []
def gupd (s : FSpec) (cpus : Int) (l : List Nat) (gone : Bool) (key value : ByteArray) (fl cpu : Int) (k : KA) : Int × KA :=
  if gone = true ∨ findex key < 0 ∨ value.size ≠ s.value ∨ fl < 0 ∨ 2 < fl ∨ (s.kind = 6 ∧ (cpu < -1 ∨ cpus ≤ cpu)) then (1, k) else
  if (s.max : Int) ≤ findex key then (3, k) else if fl = 1 then (5, k) else (0, fputs s (findex key).toNat (nats value) (gsel s cpu l l.length) k)
def GPost (n : Nat) (G : List Nat) (w : World) (v : Value) (k : KA) (e : Ending) (w' : World) : Prop := ∃ G', e = .returned v ∧ RS w' n k G' ∧ Fr G G' w w'
theorem RS.fr {w w' : World} {n : Nat} {k : KA} {G : List Nat} (h : RS w n k G) (hf : Fr [] [] w w') : RS w' n k G := h.frame (fun b hb => hf.block b (h.lt b hb) (by simp)) hf.size
theorem GPost.still {n : Nat} {k : KA} {G : List Nat} {w w' : World} {v : Value} {e : Ending} (hk : RS w n k G) (he : e = .returned v) (hf : Fr [] [] w w') : GPost n G w v k e w' :=
  ⟨G, he, hk.fr hf, (Fr.refl G w).more hf⟩
set_option maxRecDepth 100000 in
set_option maxHeartbeats 1600000 in
/-- The checks at Update's head. -/
theorem gupd_arg {w : World} {y n : Nat} {s : FSpec} {cpus : Int} {l : List Nat} {sv : Value} {gone : Bool} (h : GM w y n s cpus l sv gone) (key value : ByteArray) (fl cpu : Int)
    (hc : gone = true ∨ findex key < 0 ∨ value.size ≠ s.value ∨ fl < 0 ∨ 2 < fl ∨ (s.kind = 6 ∧ (cpu < -1 ∨ cpus ≤ cpu))) :
    Calls Try.prog 37 #[.pointer (some ⟨y, 0, none⟩), .string key, .string value, .int .i64 fl, .int .i64 cpu] w (FNextPost w (.int .i64 1)) := by
  have HI := fun W => hide (gindex_calls (.pointer (some ⟨y, 0, none⟩)) key W)
  obtain ⟨c0, c1, c2, c3, c4, c5, c6, c7, -⟩ := h.cells
  generalize findex key = q at *
  clear h
  by_cases g0 : gone = true
  · subst g0
    clear hc
    go_enter Try.func37, Try.ntmps37
    go_wp2_with (go_at_call 45; refine (HI _).out.mono ?_; rintro e w' ⟨rfl, rfl⟩)
    go_ret
    exact ⟨rfl, Fr.refl _ _⟩
  have g1 : gone = false := by simpa using g0
  subst g1
  replace hc := hc.resolve_left (by decide)
  clear g0
  by_cases q0 : q < 0
  · clear hc
    go_enter Try.func37, Try.ntmps37
    go_wp2_with (go_at_call 45; refine (HI _).out.mono ?_; rintro e w' ⟨rfl, rfl⟩)
    go_ret
    exact ⟨rfl, Fr.refl _ _⟩
  replace hc := hc.resolve_left q0
  by_cases k3 : value.size ≠ s.value
  · have k3' : ((value.size : Int) != (s.value : Int)) = true := by rw [bne_iff_ne]; omega
    clear hc k3
    go_enter Try.func37, Try.ntmps37
    go_wp2_with (go_at_call 45; refine (HI _).out.mono ?_; rintro e w' ⟨rfl, rfl⟩)
    go_ret
    exact ⟨rfl, Fr.refl _ _⟩
  replace hc := hc.resolve_left k3
  have k3' : ((value.size : Int) != (s.value : Int)) = false := by rw [bne_eq_false_iff_eq]; omega
  clear k3
  by_cases k4 : fl < 0
  · clear hc
    go_enter Try.func37, Try.ntmps37
    go_wp2_with (go_at_call 45; refine (HI _).out.mono ?_; rintro e w' ⟨rfl, rfl⟩)
    go_ret
    exact ⟨rfl, Fr.refl _ _⟩
  replace hc := hc.resolve_left k4
  by_cases k5 : 2 < fl
  · clear hc
    go_enter Try.func37, Try.ntmps37
    go_wp2_with (go_at_call 45; refine (HI _).out.mono ?_; rintro e w' ⟨rfl, rfl⟩)
    go_ret
    exact ⟨rfl, Fr.refl _ _⟩
  obtain ⟨k6, k7⟩ := hc.resolve_left k5
  rw [k6] at c1
  clear hc k6
  by_cases k8 : cpu < -1
  · clear k7
    go_enter Try.func37, Try.ntmps37
    go_wp2_with (go_at_call 45; refine (HI _).out.mono ?_; rintro e w' ⟨rfl, rfl⟩)
    go_ret
    exact ⟨rfl, Fr.refl _ _⟩
  replace k7 := k7.resolve_left k8
  go_enter Try.func37, Try.ntmps37
  go_wp2_with (go_at_call 45; refine (HI _).out.mono ?_; rintro e w' ⟨rfl, rfl⟩)
  go_ret
  exact ⟨rfl, Fr.refl _ _⟩
/-- What stands at the checks when all of them pass. -/
def gkind (s : FSpec) (cpus cpu : Int) : Prop := ((s.kind == 6) = false) ∨ ((s.kind == 6) = true ∧ ¬ cpu < -1 ∧ ¬ cpus ≤ cpu)
set_option maxRecDepth 100000 in
set_option maxHeartbeats 1600000 in
theorem gupd_no {w : World} {y n : Nat} {s : FSpec} {cpus : Int} {l : List Nat} {sv : Value} (h : GM w y n s cpus l sv false) (key value : ByteArray) (fl cpu : Int) (i : Nat) (r : Int)
    (hf : findex key = i) (hv : value.size = s.value) (h0 : ¬ fl < 0) (h2 : ¬ 2 < fl) (hk : gkind s cpus cpu) (hc : (s.max ≤ i ∧ r = 3) ∨ (¬ s.max ≤ i ∧ fl = 1 ∧ r = 5)) :
    Calls Try.prog 37 #[.pointer (some ⟨y, 0, none⟩), .string key, .string value, .int .i64 fl, .int .i64 cpu] w (FNextPost w (.int .i64 r)) := by
  have HI := fun W => hide (gindex_calls (.pointer (some ⟨y, 0, none⟩)) key W)
  rw [hf] at HI
  obtain ⟨c0, c1, c2, c3, c4, c5, c6, c7, -⟩ := h.cells
  have k3' : ((value.size : Int) != (s.value : Int)) = false := by rw [bne_eq_false_iff_eq]; omega
  clear h hf hv
  rcases hc with ⟨hi, rfl⟩ | ⟨hi, rfl, rfl⟩
  · have hi2 : (s.max : Int) ≤ i := by omega
    rcases hk with hk | ⟨hk, k8, k9⟩
    all_goals
      go_enter Try.func37, Try.ntmps37
      go_wp2_with (go_at_call 45; refine (HI _).out.mono ?_; rintro e w' ⟨rfl, rfl⟩)
      go_ret
      exact ⟨rfl, Fr.refl _ _⟩
  · have hi2 : ¬ (s.max : Int) ≤ i := by omega
    rcases hk with hk | ⟨hk, k8, k9⟩
    all_goals
      go_enter Try.func37, Try.ntmps37
      go_wp2_with (go_at_call 45; refine (HI _).out.mono ?_; rintro e w' ⟨rfl, rfl⟩)
      go_ret
      exact ⟨rfl, Fr.refl _ _⟩
end Go.Proofs.Ytmgocjclopfeeaa
