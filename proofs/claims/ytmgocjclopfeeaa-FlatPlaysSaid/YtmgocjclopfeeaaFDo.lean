/- A deed with both arrays: the same answer; condition: both arrays and both memories hold the same, apart. -/
import Derived.Test.YtmgocjclopfeeaaFBo
set_option linter.unusedVariables false
set_option linter.unusedSimpArgs false
namespace Go.Proofs.Ytmgocjclopfeeaa
open Go.RowKit Go.MapKept

def fdeedV (kd : Int) (key value : ByteArray) (fl cpu : Int) (u : Int) : Value := .agg #[.int .i64 kd, .string key, .string value, .int .i64 fl, .int .i64 cpu, .int .u64 u]
def fdeedO (kd : Int) (key value : ByteArray) (fl cpu : Int) (u : Int) : Obj := .cells #[.int .i64 kd, .string key, .string value, .int .i64 fl, .int .i64 cpu, .int .u64 u] 42 (0, 0)
theorem fdeed_cells {W : World} {b : Nat} {kd : Int} {key value : ByteArray} {fl cpu u : Int} (h : W.heap[b]? = some (fdeedO kd key value fl cpu u)) : W.cell? ⟨b, 0, none⟩ = some (.int .i64 kd) ∧ W.cell? ⟨b, 1, none⟩ = some (.string key) ∧ W.cell? ⟨b, 2, none⟩ = some (.string value) ∧ W.cell? ⟨b, 3, none⟩ = some (.int .i64 fl) ∧ W.cell? ⟨b, 4, none⟩ = some (.int .i64 cpu) ∧ W.cell? ⟨b, 5, none⟩ = some (.int .u64 u) := by
  unfold fdeedO at h
  exact ⟨rk_cell h 0, rk_cell h 1, rk_cell h 2, rk_cell h 3, rk_cell h 4, rk_cell h 5⟩
def FDoPost (W0 : World) (m n x y : Nat) (s : FSpec) (cpus : Int) (e : Ending) (W : World) : Prop := e = .returned (.bool true) ∧ ∃ R l sv gone k F G, BoF W0 W m n x y s cpus R l sv gone k F G
theorem fdo_keep {w W : World} {F F' : List Nat} {o : Obj} (hF : ∀ b ∈ F, b < w.heap.size) (hf : Fr F F' (w.alloc o) W) {o2 : Obj} (h0 : (w.alloc o).heap[w.heap.size]? = some o2) : W.heap[w.heap.size]? = some o2 := by
  rw [hf.block _ (by simp) (fun hb => by have := hF _ hb; omega)]
  exact h0
theorem flookup_lt {w : World} {x m : Nat} {s : FSpec} {R : FR} (h : FM w x m s R) (key : ByteArray) (cpu : Int) : flookup s R key cpu < 18446744073709551616 := by
  unfold flookup
  split
  · omega
  · rename_i hc
    cases hb : R.base cpu with
    | none => simp
    | some a =>
      have ha : a ∈ R.ads := by
        cases R with
        | gone => cases hb
        | shared b => simp [FR.base] at hb; subst hb; simp [FR.ads]
        | own g cap l =>
          simp only [FR.base] at hb
          split at hb
          · cases hb
          · exact List.mem_of_getElem? hb
      have h1 := h.ad a ha
      have h2 : (findex key).toNat * fwide s.value ≤ 4096 * 4096 := Nat.mul_le_mul (by have := h.m1.2; omega) (fwide_le _ h.v1.2)
      show a + (findex key).toNat * fwide s.value < _
      omega
set_option maxRecDepth 100000 in
set_option maxHeartbeats 2000000 in
theorem fdo_0 {W0 w : World} {m n x y : Nat} {s : FSpec} {cpus : Int} {R : FR} {l : List Nat} {sv : Value} {gone : Bool} {k : KA} {F G : List Nat} (h : BoF W0 w m n x y s cpus R l sv gone k F G) (key value : ByteArray) (fl cpu : Int) (u : Nat) (hu : u < 18446744073709551616) :
    Calls Try.prog 21 #[.pointer (some ⟨x, 0, none⟩), .pointer (some ⟨y, 0, none⟩), .pointer (some ⟨m, 0, none⟩), fdeedV 0 key value fl cpu (u : Nat)] w (FDoPost W0 m n x y s cpus) := by
  have HLK := hide (h.lk.look key cpu)
  have HB := hide (h.frame ((Fr.refl [] w).alloc (fdeedO 0 key value fl cpu u)))
  have HD := hide (heap_alloc_new w (fdeedO 0 key value fl cpu u))
  obtain ⟨d0, d1, d2, d3, d4, d5⟩ := fdeed_cells HD.out
  have HLF : Hid (∀ b ∈ F, b < w.heap.size) := hide h.bo.a.lt
  have HLG : Hid (∀ b ∈ G, b < w.heap.size) := hide h.bo.b.lt
  unfold fdeedV
  unfold fdeedO at *
  clear h
  go_enter Try.func21, Try.ntmps21
  obtain ⟨V, hV⟩ : ∃ V, V = flookup s R key cpu := ⟨_, rfl⟩
  have HX : Hid (∀ W, Fr [] [] (w.alloc (.cells #[.int .i64 0, .string key, .string value, .int .i64 fl, .int .i64 cpu, .int .u64 u] 42)) W → Calls Try.prog 15 #[.pointer (some ⟨x, 0, none⟩), .string key, .int .i64 cpu] W (TellsS W (.int .u64 V))) := hide fun W hf => by rw [hV]; exact lookup_calls (HB.out.frame hf).fm key cpu
  have HY : Hid (∀ W, Fr [] [] (w.alloc (.cells #[.int .i64 0, .string key, .string value, .int .i64 fl, .int .i64 cpu, .int .u64 u] 42)) W → Calls Try.prog 36 #[.pointer (some ⟨y, 0, none⟩), .string key, .int .i64 cpu] W (TellsS W (.int .u64 V))) := hide fun W hf => by rw [hV, ← HLK.out]; exact glookup_calls (HB.out.frame hf).gm key cpu
  have HC : Hid (∀ W, Fr [] [] (w.alloc (.cells #[.int .i64 0, .string key, .string value, .int .i64 fl, .int .i64 cpu, .int .u64 u] 42)) W → W.heap[w.heap.size]? = some (fdeedO 0 key value fl cpu u)) := hide fun W hf => fdo_keep (fun b hb => by simp at hb) hf HD.out
  go_wp2_with fail
  go_region_held3 (fun W => W.cell? ⟨w.heap.size, 1, none⟩ = some (.string key) ∧ W.cell? ⟨w.heap.size, 4, none⟩ = some (.int .i64 cpu)) (first | exact ⟨d1, d4⟩ | exact ⟨c1, c4⟩ | exact ⟨b1, b4⟩) (first
    | (go_at_call 15; refine (HX.out _ ?_).mono ?_; (first | with_reducible exact Fr.refl _ _ | with_reducible exact fr_drew _); rintro e1 W1 ⟨rfl, s1⟩; have f1 : Fr [] [] (w.alloc (.cells #[.int .i64 0, .string key, .string value, .int .i64 fl, .int .i64 cpu, .int .u64 u] 42)) W1 := ⟨s1.os, s1.tape, s1.output, by rw [s1.heap]; exact Nat.le_refl _, fun b _ _ => congrArg (fun h => h[b]?) s1.heap, fun b hb => .inl hb⟩; have HF1 := hide f1; have ⟨c0, c1, c2, c3, c4, c5⟩ := fdeed_cells (HC.out W1 f1); clear f1 s1)
    | (go_at_call 36; refine (HY.out _ ?_).mono ?_; (first | with_reducible exact HF1.out | with_reducible exact HF1.out.drew); rintro e2 W2 ⟨rfl, s2⟩; have f2 : Fr [] [] (w.alloc (.cells #[.int .i64 0, .string key, .string value, .int .i64 fl, .int .i64 cpu, .int .u64 u] 42)) W2 := HF1.out.trans (⟨s2.os, s2.tape, s2.output, by rw [s2.heap]; exact Nat.le_refl _, fun b _ _ => congrArg (fun h => h[b]?) s2.heap, fun b hb => .inl hb⟩ : Fr [] [] W1 W2); have HF2 := hide f2; have ⟨b0, b1, b2, b3, b4, b5⟩ := fdeed_cells (HC.out W2 f2); clear f2 s2))
  all_goals
    go_wp2
    go_ret
    exact ⟨rfl, _, _, _, _, _, _, _, HB.out.frame HF2.out⟩
set_option maxRecDepth 100000 in
set_option maxHeartbeats 2000000 in
theorem fdo_1 {W0 w : World} {m n x y : Nat} {s : FSpec} {cpus : Int} {R : FR} {l : List Nat} {sv : Value} {gone : Bool} {k : KA} {F G : List Nat} (h : BoF W0 w m n x y s cpus R l sv gone k F G) (key value : ByteArray) (fl cpu : Int) (u : Nat) (hu : u < 18446744073709551616) :
    Calls Try.prog 21 #[.pointer (some ⟨x, 0, none⟩), .pointer (some ⟨y, 0, none⟩), .pointer (some ⟨m, 0, none⟩), fdeedV 1 key value fl cpu (u : Nat)] w (FDoPost W0 m n x y s cpus) := by
  obtain ⟨E, k1, hE⟩ : ∃ e k1, fupd s R key value fl cpu k = (e, k1) := ⟨_, _, rfl⟩
  have HWU := hide (fupd_wu (R := R) (s := s) h.wu key value fl cpu)
  rw [hE] at HWU
  have HB := hide (h.frame ((Fr.refl [] w).alloc (fdeedO 1 key value fl cpu u)))
  have HD := hide (heap_alloc_new w (fdeedO 1 key value fl cpu u))
  obtain ⟨d0, d1, d2, d3, d4, d5⟩ := fdeed_cells HD.out
  have HLF : Hid (∀ b ∈ F, b < w.heap.size) := hide h.bo.a.lt
  have HLG : Hid (∀ b ∈ G, b < w.heap.size) := hide h.bo.b.lt
  unfold fdeedV
  unfold fdeedO at *
  clear h
  go_enter Try.func21, Try.ntmps21
  have HX : Hid (∀ W, Fr [] [] (w.alloc (.cells #[.int .i64 1, .string key, .string value, .int .i64 fl, .int .i64 cpu, .int .u64 u] 42)) W → Calls Try.prog 13 #[.pointer (some ⟨x, 0, none⟩), .string key, .string value, .int .i64 fl, .int .i64 cpu] W (FPost m F W (.int .i64 E) k1)) := hide fun W hf => by
    have hb := HB.out.frame hf
    have := update_calls hb.fm hb.bo.a (fun b hb2 => (hb.d1 b hb2).1) key value fl cpu
    rw [hE] at this
    exact this
  have HYG : Hid (∀ W1 F1, KS W1 m k1 F1 → Fr F F1 (w.alloc (.cells #[.int .i64 1, .string key, .string value, .int .i64 fl, .int .i64 cpu, .int .u64 u] 42)) W1 → ∀ W, Fr [] [] W1 W → Calls Try.prog 37 #[.pointer (some ⟨y, 0, none⟩), .string key, .string value, .int .i64 fl, .int .i64 cpu] W (GPost n G W (.int .i64 E) k1)) := hide fun W1 F1 h1 hf W hW => by
    have hL := (HB.out.left h1 hf).1
    have := gupd_calls (hL.1.fr hW (by simp)) (hL.2.1.fr hW) HB.out.wu (fun b hb => (HB.out.d2 b hb).2.1) HB.out.lk key value fl cpu
    rw [hE] at this
    exact this
  clear hE
  go_wp2_with fail
  go_region_held3 (fun W => W.cell? ⟨w.heap.size, 1, none⟩ = some (.string key) ∧ W.cell? ⟨w.heap.size, 2, none⟩ = some (.string value) ∧ W.cell? ⟨w.heap.size, 3, none⟩ = some (.int .i64 fl) ∧ W.cell? ⟨w.heap.size, 4, none⟩ = some (.int .i64 cpu)) (first | exact ⟨d1, d2, d3, d4⟩ | exact ⟨c1, c2, c3, c4⟩ | exact ⟨b1, b2, b3, b4⟩) (first
    | (go_at_call 13; refine (HX.out _ ?_).mono ?_; (first | with_reducible exact Fr.refl _ _ | with_reducible exact fr_drew _); rintro e1 W1 ⟨F1, rfl, h1, f1⟩; have f1' : Fr F F1 (w.alloc (.cells #[.int .i64 1, .string key, .string value, .int .i64 fl, .int .i64 cpu, .int .u64 u] 42)) W1 := (by first | with_reducible exact f1 | with_reducible exact fr_of_drew f1); have HL := hide (HB.out.left h1 f1').2; have HY := hide (HYG.out W1 F1 h1 f1'); have HB1 := hide (fdo_keep HLF.out f1' HD.out); have ⟨c0, c1, c2, c3, c4, c5⟩ := fdeed_cells HB1.out; clear h1 f1 f1')
    | (go_at_call 37; refine (HY.out _ ?_).mono ?_; (first | with_reducible exact Fr.refl _ _ | with_reducible exact fr_drew _); rintro e2 W2 ⟨G1, rfl, h2, f2⟩; have f2' : Fr G G1 W1 W2 := (by first | with_reducible exact f2 | with_reducible exact fr_of_drew f2); have HE := hide (HL.out _ _ h2 f2' HWU.out); have hb2 := do_keep HB1.out f2' HLG.out; have ⟨b0, b1, b2, b3, b4, b5⟩ := fdeed_cells hb2; clear h2 f2 f2' hb2))
  all_goals
    go_wp2
    go_ret
    exact ⟨rfl, _, _, _, _, _, _, _, HE.out⟩
set_option maxRecDepth 100000 in
set_option maxHeartbeats 2000000 in
theorem fdo_2 {W0 w : World} {m n x y : Nat} {s : FSpec} {cpus : Int} {R : FR} {l : List Nat} {sv : Value} {gone : Bool} {k : KA} {F G : List Nat} (h : BoF W0 w m n x y s cpus R l sv gone k F G) (key value : ByteArray) (fl cpu : Int) (u : Nat) (hu : u < 18446744073709551616) :
    Calls Try.prog 21 #[.pointer (some ⟨x, 0, none⟩), .pointer (some ⟨y, 0, none⟩), .pointer (some ⟨m, 0, none⟩), fdeedV 2 key value fl cpu (u : Nat)] w (FDoPost W0 m n x y s cpus) := by
  have HB := hide (h.frame ((Fr.refl [] w).alloc (fdeedO 2 key value fl cpu u)))
  have HD := hide (heap_alloc_new w (fdeedO 2 key value fl cpu u))
  obtain ⟨d0, d1, d2, d3, d4, d5⟩ := fdeed_cells HD.out
  have HLF : Hid (∀ b ∈ F, b < w.heap.size) := hide h.bo.a.lt
  have HLG : Hid (∀ b ∈ G, b < w.heap.size) := hide h.bo.b.lt
  unfold fdeedV
  unfold fdeedO at *
  clear h
  go_enter Try.func21, Try.ntmps21
  have HX := hide (fun W => delete_calls (.pointer (some ⟨x, 0, none⟩)) key W)
  go_wp2_with fail
  refine (HX.out _).mono ?_
  rintro e1 W1 ⟨rfl, rfl⟩
  go_wp2
  go_ret
  exact ⟨rfl, _, _, _, _, _, _, _, HB.out⟩
set_option maxRecDepth 100000 in
set_option maxHeartbeats 2000000 in
theorem fdo_3 {W0 w : World} {m n x y : Nat} {s : FSpec} {cpus : Int} {R : FR} {l : List Nat} {sv : Value} {gone : Bool} {k : KA} {F G : List Nat} (h : BoF W0 w m n x y s cpus R l sv gone k F G) (key value : ByteArray) (fl cpu : Int) (u : Nat) (hu : u < 18446744073709551616) :
    Calls Try.prog 21 #[.pointer (some ⟨x, 0, none⟩), .pointer (some ⟨y, 0, none⟩), .pointer (some ⟨m, 0, none⟩), fdeedV 3 key value fl cpu (u : Nat)] w (FDoPost W0 m n x y s cpus) := by
  have HN := hide (h.lk.next h.gm.m1.1 key)
  obtain ⟨L, E, hLE⟩ : ∃ L E, fnext s R key = (L, E) := ⟨_, _, rfl⟩
  have HB := hide (h.frame ((Fr.refl [] w).alloc (fdeedO 3 key value fl cpu u)))
  have HD := hide (heap_alloc_new w (fdeedO 3 key value fl cpu u))
  obtain ⟨d0, d1, d2, d3, d4, d5⟩ := fdeed_cells HD.out
  have HLF : Hid (∀ b ∈ F, b < w.heap.size) := hide h.bo.a.lt
  have HLG : Hid (∀ b ∈ G, b < w.heap.size) := hide h.bo.b.lt
  unfold fdeedV
  unfold fdeedO at *
  clear h
  go_enter Try.func21, Try.ntmps21
  have HX := hide (next_calls HB.out.fm key)
  rw [hLE] at HX
  have HY : Hid (∀ W, Fr [] [] (w.alloc (.cells #[.int .i64 3, .string key, .string value, .int .i64 fl, .int .i64 cpu, .int .u64 u] 42)) W → Calls Try.prog 38 #[.pointer (some ⟨y, 0, none⟩), .string key] W (FNextPost W (.tuple #[strOf L, .int .i64 E]))) := hide fun W hf => by
    have := gnext_calls (HB.out.frame hf).gm key
    rw [HN.out, hLE] at this
    exact this
  have HC : Hid (∀ W, Fr [] [] (w.alloc (.cells #[.int .i64 3, .string key, .string value, .int .i64 fl, .int .i64 cpu, .int .u64 u] 42)) W → W.heap[w.heap.size]? = some (fdeedO 3 key value fl cpu u)) := hide fun W hf => fdo_keep (fun b hb => by simp at hb) hf HD.out
  have hse : ((bstr L).toList == (bstr L).toList) = true := beq_self_eq_true _
  unfold strOf at *
  go_wp2_with fail
  refine HX.out.mono ?_
  rintro e1 W1 ⟨rfl, f1⟩
  have HF1 := hide f1
  have ⟨c0, c1, c2, c3, c4, c5⟩ := fdeed_cells (HC.out W1 f1)
  clear f1 d0 d1 d2 d3 d4 d5
  go_wp2_with fail
  refine (HY.out W1 HF1.out).mono ?_
  rintro e2 W2 ⟨rfl, f2⟩
  have HE := hide (HB.out.frame (HF1.out.trans f2))
  clear f2
  go_wp2
  go_ret
  exact ⟨rfl, _, _, _, _, _, _, _, HE.out⟩
set_option maxRecDepth 100000 in
set_option maxHeartbeats 2000000 in
theorem fdo_4 {W0 w : World} {m n x y : Nat} {s : FSpec} {cpus : Int} {R : FR} {l : List Nat} {sv : Value} {gone : Bool} {k : KA} {F G : List Nat} (h : BoF W0 w m n x y s cpus R l sv gone k F G) (key value : ByteArray) (fl cpu : Int) (u : Nat) (hu : u < 18446744073709551616) :
    Calls Try.prog 21 #[.pointer (some ⟨x, 0, none⟩), .pointer (some ⟨y, 0, none⟩), .pointer (some ⟨m, 0, none⟩), fdeedV 4 key value fl cpu (u : Nat)] w (FDoPost W0 m n x y s cpus) := by
  have HLK := hide (h.lk.look key cpu)
  have hw0 := h.wu
  have HB := hide (h.frame ((Fr.refl [] w).alloc (fdeedO 4 key value fl cpu u)))
  have HD := hide (heap_alloc_new w (fdeedO 4 key value fl cpu u))
  obtain ⟨d0, d1, d2, d3, d4, d5⟩ := fdeed_cells HD.out
  have HLF : Hid (∀ b ∈ F, b < w.heap.size) := hide h.bo.a.lt
  have HLG : Hid (∀ b ∈ G, b < w.heap.size) := hide h.bo.b.lt
  unfold fdeedV
  unfold fdeedO at *
  clear h
  go_enter Try.func21, Try.ntmps21
  obtain ⟨V, hV⟩ : ∃ V, V = flookup s R key cpu := ⟨_, rfl⟩
  have HX : Hid (∀ W, Fr [] [] (w.alloc (.cells #[.int .i64 4, .string key, .string value, .int .i64 fl, .int .i64 cpu, .int .u64 u] 42)) W → Calls Try.prog 15 #[.pointer (some ⟨x, 0, none⟩), .string key, .int .i64 cpu] W (TellsS W (.int .u64 V))) := hide fun W hf => by rw [hV]; exact lookup_calls (HB.out.frame hf).fm key cpu
  have HY : Hid (∀ W, Fr [] [] (w.alloc (.cells #[.int .i64 4, .string key, .string value, .int .i64 fl, .int .i64 cpu, .int .u64 u] 42)) W → Calls Try.prog 36 #[.pointer (some ⟨y, 0, none⟩), .string key, .int .i64 cpu] W (TellsS W (.int .u64 V))) := hide fun W hf => by rw [hV, ← HLK.out]; exact glookup_calls (HB.out.frame hf).gm key cpu
  have HC : Hid (∀ W, Fr [] [] (w.alloc (.cells #[.int .i64 4, .string key, .string value, .int .i64 fl, .int .i64 cpu, .int .u64 u] 42)) W → W.heap[w.heap.size]? = some (fdeedO 4 key value fl cpu u)) := hide fun W hf => fdo_keep (fun b hb => by simp at hb) hf HD.out
  have HVL : V < 18446744073709551616 := by rw [hV]; exact flookup_lt HB.out.fm key cpu
  clear hV
  go_wp2_with fail
  go_region_held3 (fun W => W.cell? ⟨w.heap.size, 1, none⟩ = some (.string key) ∧ W.cell? ⟨w.heap.size, 4, none⟩ = some (.int .i64 cpu)) (first | exact ⟨d1, d4⟩ | exact ⟨c1, c4⟩ | exact ⟨b1, b4⟩) (first
    | (go_at_call 15; refine (HX.out _ ?_).mono ?_; (first | with_reducible exact Fr.refl _ _ | with_reducible exact fr_drew _); rintro e1 W1 ⟨rfl, s1⟩; have f1 : Fr [] [] (w.alloc (.cells #[.int .i64 4, .string key, .string value, .int .i64 fl, .int .i64 cpu, .int .u64 u] 42)) W1 := ⟨s1.os, s1.tape, s1.output, by rw [s1.heap]; exact Nat.le_refl _, fun b _ _ => congrArg (fun h => h[b]?) s1.heap, fun b hb => .inl hb⟩; have HF1 := hide f1; have ⟨c0, c1, c2, c3, c4, c5⟩ := fdeed_cells (HC.out W1 f1); clear f1 s1)
    | (go_at_call 36; refine (HY.out _ ?_).mono ?_; (first | with_reducible exact HF1.out | with_reducible exact HF1.out.drew); rintro e2 W2 ⟨rfl, s2⟩; have f2 : Fr [] [] (w.alloc (.cells #[.int .i64 4, .string key, .string value, .int .i64 fl, .int .i64 cpu, .int .u64 u] 42)) W2 := HF1.out.trans (⟨s2.os, s2.tape, s2.output, by rw [s2.heap]; exact Nat.le_refl _, fun b _ _ => congrArg (fun h => h[b]?) s2.heap, fun b hb => .inl hb⟩ : Fr [] [] W1 W2); have HF2 := hide f2; have ⟨b0, b1, b2, b3, b4, b5⟩ := fdeed_cells (HC.out W2 f2); clear f2 s2))
  all_goals
    have HB2 := hide (HB.out.frame HF2.out)
    have HD2 := hide (HC.out W2 HF2.out)
    obtain ⟨E, k1, hE⟩ : ∃ e k1, k.write V 4 u = (e, k1) := ⟨_, _, rfl⟩
    have HWU := hide (hw0.write V 4 u)
    rw [hE] at HWU
    have HX2 : Hid (∀ W, Fr [] [] W2 W → Calls Try.prog 39 #[.pointer (some ⟨m, 0, none⟩), .int .u64 V, .int .i64 4, .int .u64 u] W (KPostS m F W (.int .i64 E) k1)) := hide fun W hf => write_S (HB2.out.frame hf).bo.a rfl rfl HVL hE
    have HYG : Hid (∀ W1 F1, KS W1 m k1 F1 → Fr F F1 W2 W1 → ∀ W, Fr [] [] W1 W → Calls Try.prog 40 #[.pointer (some ⟨n, 0, none⟩), .int .u64 V, .int .i64 4, .int .u64 u] W (RPostS n G W (.int .i64 E) k1)) := hide fun W1 F1 h1 hf W hW =>
      write_R ((HB2.out.left h1 hf).1.2.1.fr hW) hw0.wf V u rfl rfl HVL hE
    have HLF2 : Hid (∀ b ∈ F, b < w.heap.size) := HLF
    have hwl : Hid (w.heap.size < W2.heap.size) := hide (lt_of_heap HD2.out)
    have y0 := HB2.out.gm.cells.1
    clear hE d0 d1 d2 d3 d4 d5 c0 c1 c2 c3 c4 c5 HX HY
    go_wp2_with fail
    go_region_held3 (fun W => W.cell? ⟨w.heap.size, 5, none⟩ = some (.int .u64 u) ∧ W.cell? ⟨y, 0, none⟩ = some (.pointer (some ⟨n, 0, none⟩))) (first | exact ⟨b5, y0⟩ | exact ⟨c5, y1⟩ | exact ⟨d5, y2⟩) (first
      | (go_at_call 39; refine (HX2.out _ ?_).mono ?_; (first | with_reducible exact Fr.refl _ _ | with_reducible exact fr_drew _); rintro e3 W3 ⟨F1, rfl, h1, f1⟩; have f1' : Fr F F1 W2 W3 := (by first | with_reducible exact f1 | with_reducible exact fr_of_drew f1); have HL := hide (HB2.out.left h1 f1').2; have HY2 := hide (HYG.out W3 F1 h1 f1'); have y1 := (HB2.out.left h1 f1').1.1.cells.1; have HB3 := hide (do_keep HD2.out f1' HLF.out); have ⟨c0, c1, c2, c3, c4, c5⟩ := fdeed_cells HB3.out; clear h1 f1 f1')
      | (go_at_call 40; refine (HY2.out _ ?_).mono ?_; (first | with_reducible exact Fr.refl _ _ | with_reducible exact fr_drew _); rintro e4 W4 ⟨G1, rfl, h2, f2⟩; have f2' : Fr G G1 W3 W4 := (by first | with_reducible exact f2 | with_reducible exact fr_of_drew f2); have HE := hide (HL.out _ _ h2 f2' HWU.out); have y2 := HE.out.gm.cells.1; have hb2 := do_keep HB3.out f2' HLG.out; have ⟨d0, d1, d2, d3, d4, d5⟩ := fdeed_cells hb2; clear h2 f2 f2' hb2))
    all_goals
      go_wp2
      go_ret
      exact ⟨rfl, _, _, _, _, _, _, _, HE.out⟩
set_option maxRecDepth 100000 in
set_option maxHeartbeats 2000000 in
theorem fdo_5 {W0 w : World} {m n x y : Nat} {s : FSpec} {cpus : Int} {R : FR} {l : List Nat} {sv : Value} {gone : Bool} {k : KA} {F G : List Nat} (h : BoF W0 w m n x y s cpus R l sv gone k F G) (key value : ByteArray) (fl cpu : Int) (u : Nat) (hu : u < 18446744073709551616) :
    Calls Try.prog 21 #[.pointer (some ⟨x, 0, none⟩), .pointer (some ⟨y, 0, none⟩), .pointer (some ⟨m, 0, none⟩), fdeedV 5 key value fl cpu (u : Nat)] w (FDoPost W0 m n x y s cpus) := by
  have HB := hide (h.frame ((Fr.refl [] w).alloc (fdeedO 5 key value fl cpu u)))
  have HD := hide (heap_alloc_new w (fdeedO 5 key value fl cpu u))
  obtain ⟨d0, d1, d2, d3, d4, d5⟩ := fdeed_cells HD.out
  have HLF : Hid (∀ b ∈ F, b < w.heap.size) := hide h.bo.a.lt
  have HLG : Hid (∀ b ∈ G, b < w.heap.size) := hide h.bo.b.lt
  unfold fdeedV
  unfold fdeedO at *
  clear h
  go_enter Try.func21, Try.ntmps21
  obtain ⟨hb1, hb2⟩ : R.isB = !gone ∧ True := ⟨HB.out.lk.isB, trivial⟩
  cases gone with
  | true =>
    have HX := hide (ffree_gone HB.out.fm hb1)
    have HY := hide (gfree_gone HB.out.gm)
    go_wp2_with fail
    refine HX.out.mono ?_
    rintro e1 W1 ⟨rfl, rfl⟩
    go_wp2_with fail
    refine HY.out.mono ?_
    rintro e2 W2 ⟨rfl, rfl⟩
    go_wp2
    go_ret
    exact ⟨rfl, _, _, _, _, _, _, _, HB.out⟩
  | false =>
    have HX := hide (ffree_calls HB.out.fm hb1 HB.out.bo.a (fun b hb => (HB.out.d1 b hb).1))
    rw [HB.out.lk.ads] at HX
    have HWU := hide (ffrees_wu HB.out.wu l)
    go_wp2_with fail
    refine HX.out.mono ?_
    rintro e1 W1 ⟨F1, rfl, h1, x1, x2, f1⟩
    obtain ⟨⟨g1, g2⟩, g3⟩ := HB.out.freed h1 x1 x2 f1 HWU.out
    have HY := hide (gfree_calls g1 g2 HB.out.wu (fun b hb => (HB.out.d2 b hb).2.1))
    have HN := hide g3
    clear h1 x1 x2 f1 g1 g2 g3 d0 d1 d2 d3 d4 d5
    go_wp2_with fail
    refine HY.out.mono ?_
    rintro e2 W2 ⟨G1, rfl, h2, k2, k3, f2⟩
    have HE := hide (HN.out _ _ h2 k2 k3 f2)
    clear h2 k2 k3 f2
    go_wp2
    go_ret
    exact ⟨rfl, _, _, _, _, _, _, _, HE.out⟩
set_option maxRecDepth 100000 in
set_option maxHeartbeats 2000000 in
theorem fdo_x {W0 w : World} {m n x y : Nat} {s : FSpec} {cpus : Int} {R : FR} {l : List Nat} {sv : Value} {gone : Bool} {k : KA} {F G : List Nat} (h : BoF W0 w m n x y s cpus R l sv gone k F G) (kd : Int) (key value : ByteArray) (fl cpu : Int) (u : Nat) (hu : u < 18446744073709551616)  (hk : kd ≠ 0 ∧ kd ≠ 1 ∧ kd ≠ 2 ∧ kd ≠ 3 ∧ kd ≠ 4 ∧ kd ≠ 5) :
    Calls Try.prog 21 #[.pointer (some ⟨x, 0, none⟩), .pointer (some ⟨y, 0, none⟩), .pointer (some ⟨m, 0, none⟩), fdeedV kd key value fl cpu (u : Nat)] w (FDoPost W0 m n x y s cpus) := by
  obtain ⟨k0, k1, k2, k3, k4, k5⟩ := hk
  have HB := hide (h.frame ((Fr.refl [] w).alloc (fdeedO kd key value fl cpu u)))
  have HD := hide (heap_alloc_new w (fdeedO kd key value fl cpu u))
  obtain ⟨d0, d1, d2, d3, d4, d5⟩ := fdeed_cells HD.out
  have HLF : Hid (∀ b ∈ F, b < w.heap.size) := hide h.bo.a.lt
  have HLG : Hid (∀ b ∈ G, b < w.heap.size) := hide h.bo.b.lt
  unfold fdeedV
  unfold fdeedO at *
  clear h
  go_enter Try.func21, Try.ntmps21
  go_wp2
  go_ret
  exact ⟨rfl, _, _, _, _, _, _, _, HB.out⟩
theorem fdo_calls {W0 w : World} {m n x y : Nat} {s : FSpec} {cpus : Int} {R : FR} {l : List Nat} {sv : Value} {gone : Bool} {k : KA} {F G : List Nat} (h : BoF W0 w m n x y s cpus R l sv gone k F G) (kd : Int) (key value : ByteArray) (fl cpu : Int) (u : Nat) (hu : u < 18446744073709551616) :
    Calls Try.prog 21 #[.pointer (some ⟨x, 0, none⟩), .pointer (some ⟨y, 0, none⟩), .pointer (some ⟨m, 0, none⟩), fdeedV kd key value fl cpu (u : Nat)] w (FDoPost W0 m n x y s cpus) := by
  by_cases c0 : kd = 0
  · subst c0; exact fdo_0 h key value fl cpu u hu
  by_cases c1 : kd = 1
  · subst c1; exact fdo_1 h key value fl cpu u hu
  by_cases c2 : kd = 2
  · subst c2; exact fdo_2 h key value fl cpu u hu
  by_cases c3 : kd = 3
  · subst c3; exact fdo_3 h key value fl cpu u hu
  by_cases c4 : kd = 4
  · subst c4; exact fdo_4 h key value fl cpu u hu
  by_cases c5 : kd = 5
  · subst c5; exact fdo_5 h key value fl cpu u hu
  exact fdo_x h kd key value fl cpu u hu ⟨c0, c1, c2, c3, c4, c5⟩
end Go.Proofs.Ytmgocjclopfeeaa
