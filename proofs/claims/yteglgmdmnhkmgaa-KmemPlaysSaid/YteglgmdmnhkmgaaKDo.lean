/- A deed with both memories: the same answer; condition: both hold the same memory, apart. -/
import Derived.Test.YteglgmdmnhkmgaaRK9
import Derived.Deep.RegionHeld3
set_option linter.unusedVariables false
set_option linter.unusedSimpArgs false
namespace Go.Proofs.Yteglgmdmnhkmgaa
open Go.RowKit Go.MapKept

/-- Both hold k, in blocks of their own, all of them made since W0. -/
structure BoW (W0 w : World) (m x : Nat) (k : KA) (F G : List Nat) : Prop where
  a : KS w m k F
  b : RS w x k G
  ap : ∀ b ∈ F, b ∉ G
  nf : ∀ b ∈ F, W0.heap.size ≤ b
  ng : ∀ b ∈ G, W0.heap.size ≤ b
  bl : Below W0.heap.size W0 w
theorem BoW.frame {W0 w w' : World} {m x : Nat} {k : KA} {F G : List Nat} (h : BoW W0 w m x k F G) (hf : Fr [] [] w w') : BoW W0 w' m x k F G :=
  ⟨h.a.frame fun b hb => hf.block b (h.a.lt b hb) (by simp), h.b.frame (fun b hb => hf.block b (h.b.lt b hb) (by simp)) hf.size, h.ap, h.nf, h.ng, h.bl.trans ((hf.below (Nat.le_refl _) (by simp)).mono h.bl.size)⟩
theorem BoW.left {W0 w w1 : World} {m x : Nat} {k k1 : KA} {F F1 G : List Nat} (h : BoW W0 w m x k F G) (h1 : KS w1 m k1 F1) (hf : Fr F F1 w w1) :
    RS w1 x k G ∧ (∀ b ∈ F1, b ∉ G) ∧ (∀ b ∈ F1, W0.heap.size ≤ b) ∧ Below W0.heap.size W0 w1 := by
  have hG : ∀ b ∈ G, b ∉ F := fun b hb hF => h.ap b hF hb
  refine ⟨h.b.frame (fun b hb => hf.block b (h.b.lt b hb) (hG b hb)) hf.size, fun b hb hg => ?_, fun b hb => ?_, h.bl.trans (hf.below h.bl.size (fun b hb => h.nf b hb))⟩
  · rcases hf.foot b hb with h2 | h2
    · exact h.ap b h2 hg
    · have := h.b.lt b hg; omega
  · rcases hf.foot b hb with h2 | h2
    · exact h.nf b h2
    · have := h.bl.size; omega
theorem BoW.both {W0 w w1 w2 : World} {m x : Nat} {k k1 : KA} {F F1 G G1 : List Nat} (h : BoW W0 w m x k F G) (h1 : KS w1 m k1 F1) (hf : Fr F F1 w w1) (h2 : RS w2 x k1 G1) (hg : Fr G G1 w1 w2) : BoW W0 w2 m x k1 F1 G1 := by
  obtain ⟨r1, r2, r3, r4⟩ := h.left h1 hf
  refine ⟨h1.frame fun b hb => hg.block b (h1.lt b hb) (r2 b hb), h2, fun b hb hb2 => ?_, r3, fun b hb => ?_, r4.trans (hg.below r4.size (fun b hb => h.ng b hb))⟩
  · rcases hg.foot b hb2 with h3 | h3
    · exact r2 b hb h3
    · have := h1.lt b hb; omega
  · rcases hg.foot b hb with h3 | h3
    · exact h.ng b h3
    · have := r4.size; omega
def DoPost (W0 : World) (m x : Nat) (k : KA) (e : Ending) (W : World) : Prop := e = .returned (.bool true) ∧ ∃ k' F G, BoW W0 W m x k' F G ∧ k'.made ≤ k.made + 1
def deedV (kd n mm : Int) (at_ u : Int) (s : ByteArray) : Value := .agg #[.int .i64 kd, .int .i64 n, .int .i64 mm, .int .u64 at_, .int .u64 u, .string s]
def deedO (kd n mm : Int) (at_ u : Int) (s : ByteArray) : Obj := .cells #[.int .i64 kd, .int .i64 n, .int .i64 mm, .int .u64 at_, .int .u64 u, .string s] 49 (0, 0)
theorem deed_cells {W : World} {b : Nat} {kd n mm at_ u : Int} {s : ByteArray} (h : W.heap[b]? = some (deedO kd n mm at_ u s)) : W.cell? ⟨b, 0, none⟩ = some (.int .i64 kd) ∧ W.cell? ⟨b, 1, none⟩ = some (.int .i64 n) ∧ W.cell? ⟨b, 2, none⟩ = some (.int .i64 mm) ∧ W.cell? ⟨b, 3, none⟩ = some (.int .u64 at_) ∧ W.cell? ⟨b, 4, none⟩ = some (.int .u64 u) ∧ W.cell? ⟨b, 5, none⟩ = some (.string s) := by
  unfold deedO at h
  exact ⟨rk_cell h 0, rk_cell h 1, rk_cell h 2, rk_cell h 3, rk_cell h 4, rk_cell h 5⟩
theorem fr_drew {F : List Nat} (w : World) : Fr F F w w.drew := ⟨rfl, rfl, rfl, Nat.le_refl _, fun _ _ _ => rfl, fun _ h => .inl h⟩
theorem fr_of_drew {F F' : List Nat} {w w' : World} (h : Fr F F' w.drew w') : Fr F F' w w' := ⟨h.os, h.tape, h.output, h.size, h.block, h.foot⟩
theorem do_left {W0 w w1 : World} {m x : Nat} {k k1 : KA} {F F1 G : List Nat} (h : BoW W0 w m x k F G) (h1 : KS w1 m k1 F1) (hf : Fr F F1 w w1) :
    (∀ {w2 : World} {G1 : List Nat}, RS w2 x k1 G1 → Fr G G1 w1 w2 → BoW W0 w2 m x k1 F1 G1) ∧ ∀ W, Fr [] [] w1 W → RS W x k G :=
  ⟨fun h2 hg => h.both h1 hf h2 hg, fun W hW => (h.left h1 hf).1.frame (fun b hb => hW.block b ((h.left h1 hf).1.lt b hb) (by simp)) hW.size⟩
theorem do_keep {W1 W2 : World} {B : Nat} {o : Obj} {G G1 : List Nat} (hb : W1.heap[B]? = some o) (hf : Fr G G1 W1 W2) (hG : ∀ b ∈ G, b < B) : W2.heap[B]? = some o := by
  rw [hf.block B (lt_of_heap hb) (fun h => Nat.lt_irrefl _ (hG _ h))]
  exact hb
set_option maxRecDepth 100000 in
set_option maxHeartbeats 2000000 in
theorem do_0 {W0 w : World} {m x : Nat} {k : KA} {F G : List Nat} (h : BoW W0 w m x k F G) (hm : k.made + 1 < 4294967296) (n mm : Int) (at_ u : Nat) (s : ByteArray) (ha : at_ < 18446744073709551616) (hu : u < 18446744073709551616) :
    Calls Try.prog 18 #[.pointer (some ⟨m, 0, none⟩), .pointer (some ⟨x, 0, none⟩), deedV 0 n mm (at_ : Nat) (u : Nat) s] w (DoPost W0 m x k) := by
  obtain ⟨a, e, k', E⟩ : ∃ a e k', k.alloc n mm = (a, e, k') := ⟨_, _, _, rfl⟩
  have hw := h.a.wf
  have hmd : k'.made ≤ k.made + 1 := by
    unfold KA.alloc at E
    (repeat' split at E) <;> (cases E; simp [KA.allocOk, KA.upd])
  have HB := hide (h.frame ((Fr.refl [] w).alloc (deedO 0 n mm at_ u s)))
  have HD := hide (heap_alloc_new w (deedO 0 n mm at_ u s))
  obtain ⟨d0, d1, d2, d3, d4, d5⟩ := deed_cells HD.out
  have HDC : Hid (∀ W F F', (∀ b ∈ F, b < w.heap.size) → Fr F F' (w.alloc (deedO 0 n mm at_ u s)) W → W.heap[w.heap.size]? = some (deedO 0 n mm at_ u s)) := hide fun W F F' hF hf => by rw [hf.block _ (by simp) (fun hb => by have := hF _ hb; omega)]; exact HD.out
  have HLF : Hid (∀ b ∈ F, b < w.heap.size) := hide h.a.lt
  have HLG : Hid (∀ b ∈ G, b < w.heap.size) := hide h.b.lt
  unfold deedV
  unfold deedO at *
  clear h
  go_enter Try.func18, Try.ntmps18
  go_wp2_with fail
  refine (alloc_S HB.out.a hm E).mono ?_
  rintro e1 W1 ⟨F1, rfl, h1, f1⟩
  obtain ⟨r1, r2, r3, r4⟩ := HB.out.left h1 f1
  obtain ⟨d0, d1, d2, d3, d4, d5⟩ := deed_cells (HDC.out W1 _ _ HLF.out f1)
  go_wp2_with fail
  refine (alloc_R r1 hw hm E).mono ?_
  rintro e1 W2 ⟨G1, rfl, h2, f2⟩
  have HE := hide (HB.out.both h1 f1 h2 f2)
  clear r1 r2 r3 r4 h1 f1 h2 f2 HDC HLF HLG HB
  go_wp2
  go_ret
  exact ⟨rfl, _, _, _, HE.out, hmd⟩
set_option maxRecDepth 100000 in
set_option maxHeartbeats 2000000 in
theorem do_1 {W0 w : World} {m x : Nat} {k : KA} {F G : List Nat} (h : BoW W0 w m x k F G) (hm : k.made + 1 < 4294967296) (n mm : Int) (at_ u : Nat) (s : ByteArray) (ha : at_ < 18446744073709551616) (hu : u < 18446744073709551616) :
    Calls Try.prog 18 #[.pointer (some ⟨m, 0, none⟩), .pointer (some ⟨x, 0, none⟩), deedV 1 n mm (at_ : Nat) (u : Nat) s] w (DoPost W0 m x k) := by
  obtain ⟨e, k', E⟩ : ∃ e k', k.fail n = (e, k') := ⟨_, _, rfl⟩
  have hw := h.a.wf
  have hmd : k'.made ≤ k.made + 1 := by
    unfold KA.fail at E
    (repeat' split at E) <;> (cases E; simp [KA.allocOk, KA.upd])
  have HB := hide (h.frame ((Fr.refl [] w).alloc (deedO 1 n mm at_ u s)))
  have HD := hide (heap_alloc_new w (deedO 1 n mm at_ u s))
  obtain ⟨d0, d1, d2, d3, d4, d5⟩ := deed_cells HD.out
  have HDC : Hid (∀ W F F', (∀ b ∈ F, b < w.heap.size) → Fr F F' (w.alloc (deedO 1 n mm at_ u s)) W → W.heap[w.heap.size]? = some (deedO 1 n mm at_ u s)) := hide fun W F F' hF hf => by rw [hf.block _ (by simp) (fun hb => by have := hF _ hb; omega)]; exact HD.out
  have HLF : Hid (∀ b ∈ F, b < w.heap.size) := hide h.a.lt
  have HLG : Hid (∀ b ∈ G, b < w.heap.size) := hide h.b.lt
  unfold deedV
  unfold deedO at *
  clear h
  go_enter Try.func18, Try.ntmps18
  have HK : Hid (∀ W, Fr [] [] (w.alloc (.cells #[.int .i64 1, .int .i64 n, .int .i64 mm, .int .u64 at_, .int .u64 u, .string s] 49)) W → KS W m k F) := hide fun W hf => (HB.out.frame hf).a
  go_wp2_with fail
  go_region_held3 (fun W => W.cell? ⟨w.heap.size, 1, none⟩ = some (.int .i64 n)) (first | exact d1 | exact c1 | exact b1) (first
    | (go_at_call 22; refine (fail_S (HK.out _ ?_) E).mono ?_; (first | with_reducible exact Fr.refl _ _ | with_reducible exact fr_drew _); rintro e1 W1 ⟨F1, rfl, h1, f1⟩; have HL := hide (do_left HB.out h1 (by first | with_reducible exact f1 | with_reducible exact fr_of_drew f1)); have HB1 := hide (HDC.out W1 _ _ HLF.out (by first | with_reducible exact f1 | with_reducible exact fr_of_drew f1)); have ⟨c0, c1, c2, c3, c4, c5⟩ := deed_cells HB1.out; clear h1 f1)
    | (go_at_call 30; refine (fail_R (HL.out.2 _ ?_) E).mono ?_; (first | with_reducible exact Fr.refl _ _ | with_reducible exact fr_drew _); rintro e1 W2 ⟨G1, rfl, h2, f2⟩; have hf2 : Fr G G1 W1 W2 := (by first | with_reducible exact f2 | with_reducible exact fr_of_drew f2); have HE := hide (HL.out.1 h2 hf2); have hb2 := do_keep HB1.out hf2 HLG.out; have ⟨b0, b1, b2, b3, b4, b5⟩ := deed_cells hb2; clear h2 f2 hf2 hb2))
  all_goals
    go_wp2
    go_ret
    exact ⟨rfl, _, _, _, HE.out, hmd⟩
set_option maxRecDepth 100000 in
set_option maxHeartbeats 2000000 in
theorem do_2 {W0 w : World} {m x : Nat} {k : KA} {F G : List Nat} (h : BoW W0 w m x k F G) (hm : k.made + 1 < 4294967296) (n mm : Int) (at_ u : Nat) (s : ByteArray) (ha : at_ < 18446744073709551616) (hu : u < 18446744073709551616) :
    Calls Try.prog 18 #[.pointer (some ⟨m, 0, none⟩), .pointer (some ⟨x, 0, none⟩), deedV 2 n mm (at_ : Nat) (u : Nat) s] w (DoPost W0 m x k) := by
  obtain ⟨e, k', E⟩ : ∃ e k', k.free at_ = (e, k') := ⟨_, _, rfl⟩
  have hw := h.a.wf
  have hmd : k'.made ≤ k.made + 1 := by
    unfold KA.free at E
    (repeat' split at E) <;> (cases E; simp [KA.allocOk, KA.upd])
  have HB := hide (h.frame ((Fr.refl [] w).alloc (deedO 2 n mm at_ u s)))
  have HD := hide (heap_alloc_new w (deedO 2 n mm at_ u s))
  obtain ⟨d0, d1, d2, d3, d4, d5⟩ := deed_cells HD.out
  have HDC : Hid (∀ W F F', (∀ b ∈ F, b < w.heap.size) → Fr F F' (w.alloc (deedO 2 n mm at_ u s)) W → W.heap[w.heap.size]? = some (deedO 2 n mm at_ u s)) := hide fun W F F' hF hf => by rw [hf.block _ (by simp) (fun hb => by have := hF _ hb; omega)]; exact HD.out
  have HLF : Hid (∀ b ∈ F, b < w.heap.size) := hide h.a.lt
  have HLG : Hid (∀ b ∈ G, b < w.heap.size) := hide h.b.lt
  unfold deedV
  unfold deedO at *
  clear h
  go_enter Try.func18, Try.ntmps18
  have HK : Hid (∀ W, Fr [] [] (w.alloc (.cells #[.int .i64 2, .int .i64 n, .int .i64 mm, .int .u64 at_, .int .u64 u, .string s] 49)) W → KS W m k F) := hide fun W hf => (HB.out.frame hf).a
  go_wp2_with fail
  go_region_held3 (fun W => W.cell? ⟨w.heap.size, 3, none⟩ = some (.int .u64 at_)) (first | exact d3 | exact c3 | exact b3) (first
    | (go_at_call 16; refine (free_S (HK.out _ ?_) rfl ha E).mono ?_; (first | with_reducible exact Fr.refl _ _ | with_reducible exact fr_drew _); rintro e1 W1 ⟨F1, rfl, h1, f1⟩; have HL := hide (do_left HB.out h1 (by first | with_reducible exact f1 | with_reducible exact fr_of_drew f1)); have HB1 := hide (HDC.out W1 _ _ HLF.out (by first | with_reducible exact f1 | with_reducible exact fr_of_drew f1)); have ⟨c0, c1, c2, c3, c4, c5⟩ := deed_cells HB1.out; clear h1 f1)
    | (go_at_call 31; refine (free_R (HL.out.2 _ ?_) hw at_ rfl ha E).mono ?_; (first | with_reducible exact Fr.refl _ _ | with_reducible exact fr_drew _); rintro e1 W2 ⟨G1, rfl, h2, f2⟩; have hf2 : Fr G G1 W1 W2 := (by first | with_reducible exact f2 | with_reducible exact fr_of_drew f2); have HE := hide (HL.out.1 h2 hf2); have hb2 := do_keep HB1.out hf2 HLG.out; have ⟨b0, b1, b2, b3, b4, b5⟩ := deed_cells hb2; clear h2 f2 hf2 hb2))
  all_goals
    go_wp2
    go_ret
    exact ⟨rfl, _, _, _, HE.out, hmd⟩
set_option maxRecDepth 100000 in
set_option maxHeartbeats 2000000 in
theorem do_3 {W0 w : World} {m x : Nat} {k : KA} {F G : List Nat} (h : BoW W0 w m x k F G) (hm : k.made + 1 < 4294967296) (n mm : Int) (at_ u : Nat) (s : ByteArray) (ha : at_ < 18446744073709551616) (hu : u < 18446744073709551616) :
    Calls Try.prog 18 #[.pointer (some ⟨m, 0, none⟩), .pointer (some ⟨x, 0, none⟩), deedV 3 n mm (at_ : Nat) (u : Nat) s] w (DoPost W0 m x k) := by
  obtain ⟨e, k', E⟩ : ∃ e k', k.retire at_ = (e, k') := ⟨_, _, rfl⟩
  have hw := h.a.wf
  have hmd : k'.made ≤ k.made + 1 := by
    unfold KA.retire at E
    (repeat' split at E) <;> (cases E; simp [KA.allocOk, KA.upd])
  have HB := hide (h.frame ((Fr.refl [] w).alloc (deedO 3 n mm at_ u s)))
  have HD := hide (heap_alloc_new w (deedO 3 n mm at_ u s))
  obtain ⟨d0, d1, d2, d3, d4, d5⟩ := deed_cells HD.out
  have HDC : Hid (∀ W F F', (∀ b ∈ F, b < w.heap.size) → Fr F F' (w.alloc (deedO 3 n mm at_ u s)) W → W.heap[w.heap.size]? = some (deedO 3 n mm at_ u s)) := hide fun W F F' hF hf => by rw [hf.block _ (by simp) (fun hb => by have := hF _ hb; omega)]; exact HD.out
  have HLF : Hid (∀ b ∈ F, b < w.heap.size) := hide h.a.lt
  have HLG : Hid (∀ b ∈ G, b < w.heap.size) := hide h.b.lt
  unfold deedV
  unfold deedO at *
  clear h
  go_enter Try.func18, Try.ntmps18
  have HK : Hid (∀ W, Fr [] [] (w.alloc (.cells #[.int .i64 3, .int .i64 n, .int .i64 mm, .int .u64 at_, .int .u64 u, .string s] 49)) W → KS W m k F) := hide fun W hf => (HB.out.frame hf).a
  go_wp2_with fail
  go_region_held3 (fun W => W.cell? ⟨w.heap.size, 3, none⟩ = some (.int .u64 at_)) (first | exact d3 | exact c3 | exact b3) (first
    | (go_at_call 13; refine (retire_S (HK.out _ ?_) rfl ha E).mono ?_; (first | with_reducible exact Fr.refl _ _ | with_reducible exact fr_drew _); rintro e1 W1 ⟨F1, rfl, h1, f1⟩; have HL := hide (do_left HB.out h1 (by first | with_reducible exact f1 | with_reducible exact fr_of_drew f1)); have HB1 := hide (HDC.out W1 _ _ HLF.out (by first | with_reducible exact f1 | with_reducible exact fr_of_drew f1)); have ⟨c0, c1, c2, c3, c4, c5⟩ := deed_cells HB1.out; clear h1 f1)
    | (go_at_call 32; refine (retire_R (HL.out.2 _ ?_) hw at_ rfl ha E).mono ?_; (first | with_reducible exact Fr.refl _ _ | with_reducible exact fr_drew _); rintro e1 W2 ⟨G1, rfl, h2, f2⟩; have hf2 : Fr G G1 W1 W2 := (by first | with_reducible exact f2 | with_reducible exact fr_of_drew f2); have HE := hide (HL.out.1 h2 hf2); have hb2 := do_keep HB1.out hf2 HLG.out; have ⟨b0, b1, b2, b3, b4, b5⟩ := deed_cells hb2; clear h2 f2 hf2 hb2))
  all_goals
    go_wp2
    go_ret
    exact ⟨rfl, _, _, _, HE.out, hmd⟩
set_option maxRecDepth 100000 in
set_option maxHeartbeats 2000000 in
theorem do_4 {W0 w : World} {m x : Nat} {k : KA} {F G : List Nat} (h : BoW W0 w m x k F G) (hm : k.made + 1 < 4294967296) (n mm : Int) (at_ u : Nat) (s : ByteArray) (ha : at_ < 18446744073709551616) (hu : u < 18446744073709551616) :
    Calls Try.prog 18 #[.pointer (some ⟨m, 0, none⟩), .pointer (some ⟨x, 0, none⟩), deedV 4 n mm (at_ : Nat) (u : Nat) s] w (DoPost W0 m x k) := by
  have hw := h.a.wf
  have HB := hide (h.frame ((Fr.refl [] w).alloc (deedO 4 n mm at_ u s)))
  have HD := hide (heap_alloc_new w (deedO 4 n mm at_ u s))
  obtain ⟨d0, d1, d2, d3, d4, d5⟩ := deed_cells HD.out
  have HDC : Hid (∀ W F F', (∀ b ∈ F, b < w.heap.size) → Fr F F' (w.alloc (deedO 4 n mm at_ u s)) W → W.heap[w.heap.size]? = some (deedO 4 n mm at_ u s)) := hide fun W F F' hF hf => by rw [hf.block _ (by simp) (fun hb => by have := hF _ hb; omega)]; exact HD.out
  have HLF : Hid (∀ b ∈ F, b < w.heap.size) := hide h.a.lt
  have HLG : Hid (∀ b ∈ G, b < w.heap.size) := hide h.b.lt
  unfold deedV
  unfold deedO at *
  clear h
  go_enter Try.func18, Try.ntmps18
  go_wp2_with fail
  refine (grace_S HB.out.a rfl).mono ?_
  rintro e1 W1 ⟨F1, rfl, h1, f1⟩
  obtain ⟨r1, r2, r3, r4⟩ := HB.out.left h1 f1
  go_wp2_with fail
  refine (grace_R r1 hw).mono ?_
  rintro e1 W2 ⟨G1, rfl, h2, f2⟩
  have HE := hide (HB.out.both h1 f1 h2 f2)
  clear r1 r2 r3 r4 h1 f1 h2 f2 HDC HLF HLG HB
  go_wp2
  go_ret
  exact ⟨rfl, _, _, _, HE.out, by show k.made ≤ k.made + 1; omega⟩
set_option maxRecDepth 100000 in
set_option maxHeartbeats 2000000 in
theorem do_5 {W0 w : World} {m x : Nat} {k : KA} {F G : List Nat} (h : BoW W0 w m x k F G) (hm : k.made + 1 < 4294967296) (n mm : Int) (at_ u : Nat) (s : ByteArray) (ha : at_ < 18446744073709551616) (hu : u < 18446744073709551616) :
    Calls Try.prog 18 #[.pointer (some ⟨m, 0, none⟩), .pointer (some ⟨x, 0, none⟩), deedV 5 n mm (at_ : Nat) (u : Nat) s] w (DoPost W0 m x k) := by
  obtain ⟨v, e, E⟩ : ∃ v e, k.read at_ n = (v, e) := ⟨_, _, rfl⟩
  have hw := h.a.wf
  have HB := hide (h.frame ((Fr.refl [] w).alloc (deedO 5 n mm at_ u s)))
  have HD := hide (heap_alloc_new w (deedO 5 n mm at_ u s))
  obtain ⟨d0, d1, d2, d3, d4, d5⟩ := deed_cells HD.out
  have HDC : Hid (∀ W F F', (∀ b ∈ F, b < w.heap.size) → Fr F F' (w.alloc (deedO 5 n mm at_ u s)) W → W.heap[w.heap.size]? = some (deedO 5 n mm at_ u s)) := hide fun W F F' hF hf => by rw [hf.block _ (by simp) (fun hb => by have := hF _ hb; omega)]; exact HD.out
  have HLF : Hid (∀ b ∈ F, b < w.heap.size) := hide h.a.lt
  have HLG : Hid (∀ b ∈ G, b < w.heap.size) := hide h.b.lt
  unfold deedV
  unfold deedO at *
  clear h
  go_enter Try.func18, Try.ntmps18
  obtain ⟨ls, sv, hrm, hG⟩ := HB.out.b
  go_wp2_with fail
  refine (read_S HB.out.a rfl ha E).mono ?_
  rintro e1 W1 ⟨rfl, rfl⟩
  go_wp2_with fail
  refine (read_R hrm hw at_ rfl ha E).mono ?_
  rintro e1 W2 ⟨rfl, rfl⟩
  clear hrm HDC HLF HLG
  go_wp2
  go_ret
  exact ⟨rfl, _, _, _, HB.out, by omega⟩
set_option maxRecDepth 100000 in
set_option maxHeartbeats 2000000 in
theorem do_6 {W0 w : World} {m x : Nat} {k : KA} {F G : List Nat} (h : BoW W0 w m x k F G) (hm : k.made + 1 < 4294967296) (n mm : Int) (at_ u : Nat) (s : ByteArray) (ha : at_ < 18446744073709551616) (hu : u < 18446744073709551616) :
    Calls Try.prog 18 #[.pointer (some ⟨m, 0, none⟩), .pointer (some ⟨x, 0, none⟩), deedV 6 n mm (at_ : Nat) (u : Nat) s] w (DoPost W0 m x k) := by
  obtain ⟨e, k', E⟩ : ∃ e k', k.write at_ n u = (e, k') := ⟨_, _, rfl⟩
  have hw := h.a.wf
  have hmd : k'.made ≤ k.made + 1 := by
    unfold KA.write at E
    (repeat' split at E) <;> (cases E; simp [KA.allocOk, KA.upd])
  have HB := hide (h.frame ((Fr.refl [] w).alloc (deedO 6 n mm at_ u s)))
  have HD := hide (heap_alloc_new w (deedO 6 n mm at_ u s))
  obtain ⟨d0, d1, d2, d3, d4, d5⟩ := deed_cells HD.out
  have HDC : Hid (∀ W F F', (∀ b ∈ F, b < w.heap.size) → Fr F F' (w.alloc (deedO 6 n mm at_ u s)) W → W.heap[w.heap.size]? = some (deedO 6 n mm at_ u s)) := hide fun W F F' hF hf => by rw [hf.block _ (by simp) (fun hb => by have := hF _ hb; omega)]; exact HD.out
  have HLF : Hid (∀ b ∈ F, b < w.heap.size) := hide h.a.lt
  have HLG : Hid (∀ b ∈ G, b < w.heap.size) := hide h.b.lt
  unfold deedV
  unfold deedO at *
  clear h
  go_enter Try.func18, Try.ntmps18
  have HK : Hid (∀ W, Fr [] [] (w.alloc (.cells #[.int .i64 6, .int .i64 n, .int .i64 mm, .int .u64 at_, .int .u64 u, .string s] 49)) W → KS W m k F) := hide fun W hf => (HB.out.frame hf).a
  go_wp2_with fail
  go_region_held3 (fun W => W.cell? ⟨w.heap.size, 1, none⟩ = some (.int .i64 n) ∧ W.cell? ⟨w.heap.size, 3, none⟩ = some (.int .u64 at_) ∧ W.cell? ⟨w.heap.size, 4, none⟩ = some (.int .u64 u)) (first | exact ⟨d1, d3, d4⟩ | exact ⟨c1, c3, c4⟩ | exact ⟨b1, b3, b4⟩) (first
    | (go_at_call 10; refine (write_S (HK.out _ ?_) rfl rfl ha E).mono ?_; (first | with_reducible exact Fr.refl _ _ | with_reducible exact fr_drew _); rintro e1 W1 ⟨F1, rfl, h1, f1⟩; have HL := hide (do_left HB.out h1 (by first | with_reducible exact f1 | with_reducible exact fr_of_drew f1)); have HB1 := hide (HDC.out W1 _ _ HLF.out (by first | with_reducible exact f1 | with_reducible exact fr_of_drew f1)); have ⟨c0, c1, c2, c3, c4, c5⟩ := deed_cells HB1.out; clear h1 f1)
    | (go_at_call 35; refine (write_R (HL.out.2 _ ?_) hw at_ u rfl rfl ha E).mono ?_; (first | with_reducible exact Fr.refl _ _ | with_reducible exact fr_drew _); rintro e1 W2 ⟨G1, rfl, h2, f2⟩; have hf2 : Fr G G1 W1 W2 := (by first | with_reducible exact f2 | with_reducible exact fr_of_drew f2); have HE := hide (HL.out.1 h2 hf2); have hb2 := do_keep HB1.out hf2 HLG.out; have ⟨b0, b1, b2, b3, b4, b5⟩ := deed_cells hb2; clear h2 f2 hf2 hb2))
  all_goals
    go_wp2
    go_ret
    exact ⟨rfl, _, _, _, HE.out, hmd⟩
set_option maxRecDepth 100000 in
set_option maxHeartbeats 2000000 in
theorem do_7 {W0 w : World} {m x : Nat} {k : KA} {F G : List Nat} (h : BoW W0 w m x k F G) (hm : k.made + 1 < 4294967296) (n mm : Int) (at_ u : Nat) (s : ByteArray) (ha : at_ < 18446744073709551616) (hu : u < 18446744073709551616) :
    Calls Try.prog 18 #[.pointer (some ⟨m, 0, none⟩), .pointer (some ⟨x, 0, none⟩), deedV 7 n mm (at_ : Nat) (u : Nat) s] w (DoPost W0 m x k) := by
  obtain ⟨l, e, E⟩ : ∃ l e, k.bytes at_ n = (l, e) := ⟨_, _, rfl⟩
  have hw := h.a.wf
  have HB := hide (h.frame ((Fr.refl [] w).alloc (deedO 7 n mm at_ u s)))
  have HD := hide (heap_alloc_new w (deedO 7 n mm at_ u s))
  obtain ⟨d0, d1, d2, d3, d4, d5⟩ := deed_cells HD.out
  have HDC : Hid (∀ W F F', (∀ b ∈ F, b < w.heap.size) → Fr F F' (w.alloc (deedO 7 n mm at_ u s)) W → W.heap[w.heap.size]? = some (deedO 7 n mm at_ u s)) := hide fun W F F' hF hf => by rw [hf.block _ (by simp) (fun hb => by have := hF _ hb; omega)]; exact HD.out
  have HLF : Hid (∀ b ∈ F, b < w.heap.size) := hide h.a.lt
  have HLG : Hid (∀ b ∈ G, b < w.heap.size) := hide h.b.lt
  unfold deedV
  unfold deedO at *
  clear h
  go_enter Try.func18, Try.ntmps18
  obtain ⟨ls, sv, hrm, hG⟩ := HB.out.b
  go_wp2_with fail
  refine (bytes_S HB.out.a rfl ha E).mono ?_
  rintro e1 W1 ⟨rfl, rfl⟩
  go_wp2_with fail
  refine (bytes_R hrm hw at_ rfl ha n E).mono ?_
  rintro e1 W2 ⟨rfl, rfl⟩
  clear hrm HDC HLF HLG
  unfold strOf
  have hse : ((bstr l).toList == (bstr l).toList) = true := beq_self_eq_true _
  go_wp2
  go_ret
  exact ⟨rfl, _, _, _, HB.out, by omega⟩
set_option maxRecDepth 100000 in
set_option maxHeartbeats 2000000 in
theorem do_8 {W0 w : World} {m x : Nat} {k : KA} {F G : List Nat} (h : BoW W0 w m x k F G) (hm : k.made + 1 < 4294967296) (n mm : Int) (at_ u : Nat) (s : ByteArray) (ha : at_ < 18446744073709551616) (hu : u < 18446744073709551616) :
    Calls Try.prog 18 #[.pointer (some ⟨m, 0, none⟩), .pointer (some ⟨x, 0, none⟩), deedV 8 n mm (at_ : Nat) (u : Nat) s] w (DoPost W0 m x k) := by
  obtain ⟨e, k', E⟩ : ∃ e k', k.put at_ (nats s) = (e, k') := ⟨_, _, rfl⟩
  have hw := h.a.wf
  have hmd : k'.made ≤ k.made + 1 := by
    unfold KA.put at E
    (repeat' split at E) <;> (cases E; simp [KA.allocOk, KA.upd])
  have HB := hide (h.frame ((Fr.refl [] w).alloc (deedO 8 n mm at_ u s)))
  have HD := hide (heap_alloc_new w (deedO 8 n mm at_ u s))
  obtain ⟨d0, d1, d2, d3, d4, d5⟩ := deed_cells HD.out
  have HDC : Hid (∀ W F F', (∀ b ∈ F, b < w.heap.size) → Fr F F' (w.alloc (deedO 8 n mm at_ u s)) W → W.heap[w.heap.size]? = some (deedO 8 n mm at_ u s)) := hide fun W F F' hF hf => by rw [hf.block _ (by simp) (fun hb => by have := hF _ hb; omega)]; exact HD.out
  have HLF : Hid (∀ b ∈ F, b < w.heap.size) := hide h.a.lt
  have HLG : Hid (∀ b ∈ G, b < w.heap.size) := hide h.b.lt
  unfold deedV
  unfold deedO at *
  clear h
  go_enter Try.func18, Try.ntmps18
  have HK : Hid (∀ W, Fr [] [] (w.alloc (.cells #[.int .i64 8, .int .i64 n, .int .i64 mm, .int .u64 at_, .int .u64 u, .string s] 49)) W → KS W m k F) := hide fun W hf => (HB.out.frame hf).a
  go_wp2_with fail
  go_region_held3 (fun W => W.cell? ⟨w.heap.size, 3, none⟩ = some (.int .u64 at_) ∧ W.cell? ⟨w.heap.size, 5, none⟩ = some (.string s)) (first | exact ⟨d3, d5⟩ | exact ⟨c3, c5⟩ | exact ⟨b3, b5⟩) (first
    | (go_at_call 23; refine (put_S (HK.out _ ?_) rfl ha E).mono ?_; (first | with_reducible exact Fr.refl _ _ | with_reducible exact fr_drew _); rintro e1 W1 ⟨F1, rfl, h1, f1⟩; have HL := hide (do_left HB.out h1 (by first | with_reducible exact f1 | with_reducible exact fr_of_drew f1)); have HB1 := hide (HDC.out W1 _ _ HLF.out (by first | with_reducible exact f1 | with_reducible exact fr_of_drew f1)); have ⟨c0, c1, c2, c3, c4, c5⟩ := deed_cells HB1.out; clear h1 f1)
    | (go_at_call 37; refine (put_R (HL.out.2 _ ?_) hw at_ rfl ha s E).mono ?_; (first | with_reducible exact Fr.refl _ _ | with_reducible exact fr_drew _); rintro e1 W2 ⟨G1, rfl, h2, f2⟩; have hf2 : Fr G G1 W1 W2 := (by first | with_reducible exact f2 | with_reducible exact fr_of_drew f2); have HE := hide (HL.out.1 h2 hf2); have hb2 := do_keep HB1.out hf2 HLG.out; have ⟨b0, b1, b2, b3, b4, b5⟩ := deed_cells hb2; clear h2 f2 hf2 hb2))
  all_goals
    go_wp2
    go_ret
    exact ⟨rfl, _, _, _, HE.out, hmd⟩
set_option maxRecDepth 100000 in
set_option maxHeartbeats 2000000 in
theorem do_x {W0 w : World} {m x : Nat} {k : KA} {F G : List Nat} (h : BoW W0 w m x k F G) (hm : k.made + 1 < 4294967296) (kd n mm : Int) (at_ u : Nat) (s : ByteArray) (ha : at_ < 18446744073709551616) (hu : u < 18446744073709551616) (hk : kd ≠ 0 ∧ kd ≠ 1 ∧ kd ≠ 2 ∧ kd ≠ 3 ∧ kd ≠ 4 ∧ kd ≠ 5 ∧ kd ≠ 6 ∧ kd ≠ 7 ∧ kd ≠ 8) :
    Calls Try.prog 18 #[.pointer (some ⟨m, 0, none⟩), .pointer (some ⟨x, 0, none⟩), deedV kd n mm (at_ : Nat) (u : Nat) s] w (DoPost W0 m x k) := by
  obtain ⟨v, e, E⟩ : ∃ v e, k.size at_ = (v, e) := ⟨_, _, rfl⟩
  have hw := h.a.wf
  have HB := hide (h.frame ((Fr.refl [] w).alloc (deedO kd n mm at_ u s)))
  have HD := hide (heap_alloc_new w (deedO kd n mm at_ u s))
  obtain ⟨d0, d1, d2, d3, d4, d5⟩ := deed_cells HD.out
  have HDC : Hid (∀ W F F', (∀ b ∈ F, b < w.heap.size) → Fr F F' (w.alloc (deedO kd n mm at_ u s)) W → W.heap[w.heap.size]? = some (deedO kd n mm at_ u s)) := hide fun W F F' hF hf => by rw [hf.block _ (by simp) (fun hb => by have := hF _ hb; omega)]; exact HD.out
  have HLF : Hid (∀ b ∈ F, b < w.heap.size) := hide h.a.lt
  have HLG : Hid (∀ b ∈ G, b < w.heap.size) := hide h.b.lt
  unfold deedV
  unfold deedO at *
  clear h
  obtain ⟨k0, k1, k2, k3, k4, k5, k6, k7, k8⟩ := hk
  go_enter Try.func18, Try.ntmps18
  obtain ⟨ls, sv, hrm, hG⟩ := HB.out.b
  go_wp2_with fail
  refine (size_S HB.out.a rfl ha E).mono ?_
  rintro e1 W1 ⟨rfl, rfl⟩
  go_wp2_with fail
  refine (size_R hrm hw at_ rfl ha E).mono ?_
  rintro e1 W2 ⟨rfl, rfl⟩
  clear hrm HDC HLF HLG
  go_wp2
  go_ret
  exact ⟨rfl, _, _, _, HB.out, by omega⟩
theorem do_calls {W0 w : World} {m x : Nat} {k : KA} {F G : List Nat} (h : BoW W0 w m x k F G) (hm : k.made + 1 < 4294967296) (kd n mm : Int) (at_ u : Nat) (s : ByteArray) (ha : at_ < 18446744073709551616) (hu : u < 18446744073709551616) :
    Calls Try.prog 18 #[.pointer (some ⟨m, 0, none⟩), .pointer (some ⟨x, 0, none⟩), deedV kd n mm (at_ : Nat) (u : Nat) s] w (DoPost W0 m x k) := by
  by_cases c0 : kd = 0
  · subst c0; exact do_0 h hm n mm at_ u s ha hu
  by_cases c1 : kd = 1
  · subst c1; exact do_1 h hm n mm at_ u s ha hu
  by_cases c2 : kd = 2
  · subst c2; exact do_2 h hm n mm at_ u s ha hu
  by_cases c3 : kd = 3
  · subst c3; exact do_3 h hm n mm at_ u s ha hu
  by_cases c4 : kd = 4
  · subst c4; exact do_4 h hm n mm at_ u s ha hu
  by_cases c5 : kd = 5
  · subst c5; exact do_5 h hm n mm at_ u s ha hu
  by_cases c6 : kd = 6
  · subst c6; exact do_6 h hm n mm at_ u s ha hu
  by_cases c7 : kd = 7
  · subst c7; exact do_7 h hm n mm at_ u s ha hu
  by_cases c8 : kd = 8
  · subst c8; exact do_8 h hm n mm at_ u s ha hu
  exact do_x h hm kd n mm at_ u s ha hu ⟨c0, c1, c2, c3, c4, c5, c6, c7, c8⟩
end Go.Proofs.Yteglgmdmnhkmgaa
