/- Several texts of this claim in one: each is told where it begins. -/
import Derived.Test.YtpahjllcomejbaaSt
import Derived.WalkSpells
/- The coder's sized: what it lays for instructions with a size; condition: the coder lies in memory. -/
set_option linter.unusedVariables false
set_option linter.unusedSimpArgs false
namespace Go.Proofs.Ytpahjllcomejbaa
open Go.RowKit Go.MapKept

def memB (reg rm n : Int) : List Int := [128 + reg % 8 * 8 + rm % 8] ++ (if rm % 8 = 4 then [36] else []) ++ b4 n
def rexB (wide : Bool) (reg rm : Int) : Int := (if wide = true then 72 else 64) + reg / 8 % 2 * 4 + rm / 8 % 2
def dirB (reg rm : Int) : Int := 192 + reg % 8 * 8 + rm % 8
theorem memB_len (reg rm n : Int) : (memB reg rm n).length ≤ 6 := by unfold memB b4; split <;> simp
def boxed (kd d s n i wd : Int) : Obj := .cells #[.int .i64 kd, .int .i64 d, .int .i64 s, .int .i64 n, .int .i64 i, .int .u64 wd] 32 (0, 0)
def BoxAt (W : World) (b : Nat) (kd d s n i wd : Int) : Prop := W.cell? ⟨b, 0, none⟩ = some (.int .i64 kd) ∧ W.cell? ⟨b, 1, none⟩ = some (.int .i64 d) ∧ W.cell? ⟨b, 2, none⟩ = some (.int .i64 s) ∧ W.cell? ⟨b, 3, none⟩ = some (.int .i64 n) ∧ W.cell? ⟨b, 4, none⟩ = some (.int .i64 i) ∧ W.cell? ⟨b, 5, none⟩ = some (.int .u64 wd)
theorem box_at {W : World} {b : Nat} {kd d s n i wd : Int} (h : W.heap[b]? = some (boxed kd d s n i wd)) : BoxAt W b kd d s n i wd := by
 unfold boxed at h
 exact ⟨cell_at h 0, cell_at h 1, cell_at h 2, cell_at h 3, cell_at h 4, cell_at h 5⟩
def SizedPost (w : World) (x : Nat) (F : List Nat) (bs : List Int) (bad b : Bool) (e : Ending) (w' : World) : Prop := e = .returned (.bool b) ∧ ∃ F', Cod w' x F' bs bad ∧ Fr F F' w w'
def out2 (d s : Int) : Bool := outReg d || outReg s
theorem any2 (q : Bool) (d s : Int) : (q || [d, s].any outReg) = (q || out2 d s) := by simp [out2]
theorem any1 (q : Bool) (d : Int) : (q || [d].any outReg) = (q || outReg d) := by simp
theorem readsB_len (n : Int) (g : Bool) : (readsB n g).2.length ≤ 2 := by unfold readsB; (repeat' split) <;> simp
set_option maxRecDepth 100000 in
set_option maxHeartbeats 4000000 in
theorem sized_18 (w : World) (x : Nat) (F : List Nat) (bs : List Int) (bad : Bool) (h : Cod w x F bs bad) (d s n i wd : Int) (hl : bs.length + 40 ≤ 100000000000000) :
  Calls Try.prog 27 #[.pointer (some ⟨x, 0, none⟩), .agg #[.int .i64 18, .int .i64 d, .int .i64 s, .int .i64 n, .int .i64 i, .int .u64 wd]] w
   (SizedPost w x F (bs ++ ([rexB (readsB n false).1 d s] ++ (readsB n false).2 ++ memB d s i)) ((bad || out2 d s || ((readsB n false).2 == [])) || !fits32 i) true) := by
 have hu2 := Try.underlying41
 have hu3 := Try.underlying32
 have HL := hide hl
 have hbl := hide h.lt
 have HH := hide h
 have HB0 : Hid ((w.alloc (boxed 18 d s n i wd)).heap[w.heap.size]? = some (boxed 18 d s n i wd)) := hide (heap_alloc_new w _)
 have HC0 : Hid (Cod (w.alloc (boxed 18 d s n i wd)) x F bs bad) := hide (h.alloc _)
 obtain ⟨c0, c1, c2, c3, c4, c5⟩ := box_at HB0.out
 have HP := hide (readsB_len n false)
 have HRC := hide (reads_calls n false (w.alloc (boxed 18 d s n i wd)))
 generalize readsB n false = p at *
 unfold boxed at *
 have hx0 : ¬ (w.heap.size = x) := fun e => by have := hbl.out x h.mem; omega
 have hx1 : ¬ (x = w.heap.size) := fun e => hx0 e.symm
 have es0 := fun W => @Lib.run_eql_slice_nil Try.prog W
 clear hl h
 go_enter Try.func27, Try.ntmps27
 go_wp2_with fail
 refine HRC.out.mono ?_
 intro e W1 hr
 obtain ⟨pw, ops⟩ := p
 rcases hr with ⟨hnil, rfl, hf⟩ | ⟨hne, B, rfl, hB, hf, hBs⟩
 ·
  simp only at hnil
  subst hnil
  have HS : Hid (St W1 W1 x F F bs bad) := hide ⟨HC0.out.fr hf, Fr.refl _ _⟩
  have HBX : Hid (W1.heap[w.heap.size]? = some (boxed 18 d s n i wd) ∧ w.heap.size ∉ F) := hide ⟨hf.keep HB0.out (by simp), fun hk => by have := hbl.out _ hk; omega⟩
  have HF := hide (((Fr.refl F w).alloc' (boxed 18 d s n i wd)).more hf)
  clear c0 c1 c2 c3 c4 c5 hf
  obtain ⟨c0, c1, c2, c3, c4, c5⟩ := box_at HBX.out.1
  go_wp2_with fail
  refine (St.reg HS [d, s] 2 _ rfl rfl (by simp)).mono ?_
  rintro e W2 ⟨rfl, F2, hs⟩
  rw [any2] at hs
  generalize hq : (bad || out2 d s) = q at *
  have HQ' := hide hq
  clear hq
  have HS := hide hs
  clear c0 c1 c2 c3 c4 c5 hs
  obtain ⟨c0, c1, c2, c3, c4, c5⟩ := box_at (HS.out.keep HBX.out)
  obtain ⟨v, k0, k1, k2, k3⟩ := HS.out.c.cells
  have HT := hide (HS.out.bad true)
  cases q
  all_goals
   go_wp2_with fail
   have HS := HT
   clear c0 c1 c2 c3 c4 c5 k0 k1 k2 k3
   refine (St.rex HS pw d s (by have := HL.out; omega)).mono ?_
   rintro e W3 ⟨rfl, F3, hs⟩
   have HS := hide hs
   clear hs
   obtain ⟨c0, c1, c2, c3, c4, c5⟩ := box_at (HS.out.keep HBX.out)
   go_wp2_with fail
   refine (St.opNone HS).mono ?_
   rintro e W4 ⟨rfl, F4, hs⟩
   have HS := hide hs
   clear c0 c1 c2 c3 c4 c5 hs
   obtain ⟨c0, c1, c2, c3, c4, c5⟩ := box_at (HS.out.keep HBX.out)
   go_wp2_with fail
   refine (St.memory HS d s i (by have := HL.out; simp; omega)).mono ?_
   rintro e W5 ⟨rfl, F5, hs⟩
   have HS := hide hs
   clear c0 c1 c2 c3 c4 c5 hs
   go_wp2
   go_ret
   refine ⟨rfl, F5, ?_, HF.out.trans HS.out.f⟩
   have := HS.out.c
   simp only [rexB, memB, dirB, List.append_assoc, List.nil_append, List.cons_append] at this ⊢
   simpa using this
 ·
  have hpl : ops.length ≤ 2 := HP.out
  have HPL := hide hpl
  have HNE := hide hne
  have HS : Hid (St W1 W1 x F F bs bad) := hide ⟨HC0.out.fr hf, Fr.refl _ _⟩
  have HBX : Hid (W1.heap[w.heap.size]? = some (boxed 18 d s n i wd) ∧ w.heap.size ∉ F) := hide ⟨hf.keep HB0.out (by simp), fun hk => by have := hbl.out _ hk; omega⟩
  have HOX : Hid (W1.heap[B]? = some (.cells (u8s ops).toArray 5 (0, 0)) ∧ B ∉ F) := hide ⟨hB, fun hk => by have := hbl.out _ hk; simp at hBs; omega⟩
  have HF := hide (((Fr.refl F w).alloc' (boxed 18 d s n i wd)).more hf)
  clear c0 c1 c2 c3 c4 c5 hf hB hBs hne hpl
  obtain ⟨c0, c1, c2, c3, c4, c5⟩ := box_at HBX.out.1
  go_wp2_with fail
  refine (St.reg HS [d, s] 2 _ rfl rfl (by simp)).mono ?_
  rintro e W2 ⟨rfl, F2, hs⟩
  rw [any2] at hs
  generalize hq : (bad || out2 d s) = q at *
  have HQ' := hide hq
  clear hq
  have HS := hide hs
  clear c0 c1 c2 c3 c4 c5 hs
  obtain ⟨c0, c1, c2, c3, c4, c5⟩ := box_at (HS.out.keep HBX.out)
  obtain ⟨v, k0, k1, k2, k3⟩ := HS.out.c.cells
  have HT := hide (HS.out.bad (q))
  cases q
  all_goals
   go_wp2_with fail
   have HS := HT
   clear c0 c1 c2 c3 c4 c5 k0 k1 k2 k3
   refine (St.rex HS pw d s (by have := HL.out; omega)).mono ?_
   rintro e W3 ⟨rfl, F3, hs⟩
   have HS := hide hs
   clear hs
   obtain ⟨c0, c1, c2, c3, c4, c5⟩ := box_at (HS.out.keep HBX.out)
   go_wp2_with fail
   refine (St.opAt HS B ops.length ops.length ops rfl (HS.out.keep HOX.out) (by have := HL.out; have := HPL.out; simp; omega)).mono ?_
   rintro e W4 ⟨rfl, F4, hs⟩
   have HS := hide hs
   clear c0 c1 c2 c3 c4 c5 hs
   obtain ⟨c0, c1, c2, c3, c4, c5⟩ := box_at (HS.out.keep HBX.out)
   go_wp2_with fail
   refine (St.memory HS d s i (by have := HL.out; have := HPL.out; simp; omega)).mono ?_
   rintro e W5 ⟨rfl, F5, hs⟩
   have HS := hide hs
   clear c0 c1 c2 c3 c4 c5 hs
   go_wp2
   go_ret
   refine ⟨rfl, F5, ?_, HF.out.trans HS.out.f⟩
   have := HS.out.c
   have hne : ¬ ops = [] := HNE.out
   have hbe : (ops == []) = false := by rw [beq_eq_false_iff_ne]; exact hne
   simp only [rexB, memB, dirB, List.append_assoc, List.nil_append, List.cons_append, hbe] at this ⊢
   simpa using this
end Go.Proofs.Ytpahjllcomejbaa

/- The coder's sized at a store, and at kinds that have no size; condition: the coder lies in memory. -/
set_option linter.unusedVariables false
set_option linter.unusedSimpArgs false
namespace Go.Proofs.Ytpahjllcomejbaa
open Go.RowKit Go.MapKept

theorem St.regB {wb W : World} {x : Nat} {F0 F : List Nat} {bs : List Int} {bad : Bool} (h : Hid (St wb W x F0 F bs bad)) (l : List Int) (m : Nat) (B : Nat) (hB : W.heap.size = B) (C : Array Value) (hm : l.length = m) (hC : (l.map (Value.int .i64)).toArray = C) (hl : l.length ≤ 1000) :
  Calls Try.prog 22 #[.pointer (some ⟨x, 0, none⟩), .slice (some ⟨B, 0, none⟩) m m] (W.alloc (.cells C 3)) (StPost wb x F0 bs (bad || l.any outReg)) := by
 subst hB
 exact St.reg h l m C hm hC hl
theorem St.opB {wb W : World} {x : Nat} {F0 F : List Nat} {bs : List Int} {bad : Bool} (h : Hid (St wb W x F0 F bs bad)) (news : List Int) (m : Nat) (B : Nat) (hB : W.heap.size = B) (C : Array Value) (hm : news.length = m) (hC : (u8s news).toArray = C) (hl : bs.length + m ≤ 100000000000000) :
  Calls Try.prog 24 #[.pointer (some ⟨x, 0, none⟩), .slice (some ⟨B, 0, none⟩) m m] (W.alloc (.cells C 5)) (StPost wb x F0 (bs ++ news) bad) := by
 subst hB
 exact St.op h news m C hm hC hl
theorem Cod.cast {w : World} {x : Nat} {F : List Nat} {bs bs' : List Int} {bad bad' : Bool} (h : Cod w x F bs bad) (e : bs = bs') (e' : bad = bad') : Cod w x F bs' bad' := e ▸ e' ▸ h
def okSize (n : Int) : Bool := n == 1 || n == 2 || n == 4 || n == 8
def storeB (d s n i : Int) : List Int := (if n = 2 then [102] else []) ++ [rexB (n == 8) s d] ++ [if n = 1 then 136 else 137] ++ memB s d i
set_option maxRecDepth 100000 in
set_option maxHeartbeats 4000000 in
theorem store1 (w : World) (x : Nat) (F : List Nat) (bs : List Int) (bad : Bool) (h : Cod w x F bs bad) (d s i wd : Int) (hl : bs.length + 40 ≤ 100000000000000) :
  Calls Try.prog 27 #[.pointer (some ⟨x, 0, none⟩), .agg #[.int .i64 20, .int .i64 d, .int .i64 s, .int .i64 1, .int .i64 i, .int .u64 wd]] w
   (SizedPost w x F (bs ++ storeB d s 1 i) (bad || out2 d s || !okSize 1 || !fits32 i) true) := by
  have hu2 := Try.underlying41
  have hu3 := Try.underlying32
  have HL := hide hl
  have hbl := hide h.lt
  have hx0 : ¬ (w.heap.size = x) := fun e => by have := hbl.out x h.mem; omega
  have hx1 : ¬ (x = w.heap.size) := fun e => hx0 e.symm
  have HBX : Hid ((w.alloc (boxed 20 d s 1 i wd)).heap[w.heap.size]? = some (boxed 20 d s 1 i wd) ∧ w.heap.size ∉ F) := hide ⟨heap_alloc_new w _, fun hk => by have := hbl.out _ hk; omega⟩
  have HS : Hid (St (w.alloc (boxed 20 d s 1 i wd)) (w.alloc (boxed 20 d s 1 i wd)) x F F bs bad) := hide ⟨h.alloc _, Fr.refl _ _⟩
  obtain ⟨c0, c1, c2, c3, c4, c5⟩ := box_at HBX.out.1
  unfold boxed at HS
  clear hl h
  go_enter Try.func27, Try.ntmps27
  go_wp2_with fail
  refine (St.regB HS [d, s] 2 (w.heap.size + 1) (by simp) _ rfl rfl (by simp)).mono ?_
  rintro e W2 ⟨rfl, F2, hs⟩
  rw [any2] at hs
  generalize hq : (bad || out2 d s) = q at *
  have HQ' := hide hq
  clear hq
  have HS := hide hs
  clear c0 c1 c2 c3 c4 c5 hs
  obtain ⟨c0, c1, c2, c3, c4, c5⟩ := box_at (HS.out.keep HBX.out)
  obtain ⟨v, k0, k1, k2, k3⟩ := HS.out.c.cells
  have HT := hide (HS.out.bad (q || false))
  cases q
  all_goals
   go_wp2_with fail
   have HS := HT
   clear c0 c1 c2 c3 c4 c5 k0 k1 k2 k3
   refine (St.rex HS false s d (by have := HL.out; simp; omega)).mono ?_
   rintro e W3 ⟨rfl, F3, hs⟩
   have HS := hide hs
   clear hs
   obtain ⟨c0, c1, c2, c3, c4, c5⟩ := box_at (HS.out.keep HBX.out)
   go_wp2_with fail
   refine (St.op HS [136] 1 _ rfl rfl (by have := HL.out; simp; omega)).mono ?_
   rintro e W4 ⟨rfl, F4, hs⟩
   have HS := hide hs
   clear c0 c1 c2 c3 c4 c5 hs
   obtain ⟨c0, c1, c2, c3, c4, c5⟩ := box_at (HS.out.keep HBX.out)
   go_wp2_with fail
   refine (St.memory HS s d i (by have := HL.out; simp; omega)).mono ?_
   rintro e W5 ⟨rfl, F5, hs⟩
   have HS := hide hs
   clear c0 c1 c2 c3 c4 c5 hs
   go_wp2
   go_ret
   refine ⟨rfl, F5, HS.out.c.cast ?_ ?_, ((Fr.refl F w).alloc' (boxed 20 d s 1 i wd)).trans HS.out.f⟩
   ·
    simp only [List.append_assoc]; rfl
   ·
    rfl
set_option maxRecDepth 100000 in
set_option maxHeartbeats 4000000 in
theorem store2 (w : World) (x : Nat) (F : List Nat) (bs : List Int) (bad : Bool) (h : Cod w x F bs bad) (d s i wd : Int) (hl : bs.length + 40 ≤ 100000000000000) :
  Calls Try.prog 27 #[.pointer (some ⟨x, 0, none⟩), .agg #[.int .i64 20, .int .i64 d, .int .i64 s, .int .i64 2, .int .i64 i, .int .u64 wd]] w
   (SizedPost w x F (bs ++ storeB d s 2 i) (bad || out2 d s || !okSize 2 || !fits32 i) true) := by
  have hu2 := Try.underlying41
  have hu3 := Try.underlying32
  have HL := hide hl
  have hbl := hide h.lt
  have hx0 : ¬ (w.heap.size = x) := fun e => by have := hbl.out x h.mem; omega
  have hx1 : ¬ (x = w.heap.size) := fun e => hx0 e.symm
  have HBX : Hid ((w.alloc (boxed 20 d s 2 i wd)).heap[w.heap.size]? = some (boxed 20 d s 2 i wd) ∧ w.heap.size ∉ F) := hide ⟨heap_alloc_new w _, fun hk => by have := hbl.out _ hk; omega⟩
  have HS : Hid (St (w.alloc (boxed 20 d s 2 i wd)) (w.alloc (boxed 20 d s 2 i wd)) x F F bs bad) := hide ⟨h.alloc _, Fr.refl _ _⟩
  obtain ⟨c0, c1, c2, c3, c4, c5⟩ := box_at HBX.out.1
  unfold boxed at HS
  clear hl h
  go_enter Try.func27, Try.ntmps27
  go_wp2_with fail
  refine (St.regB HS [d, s] 2 (w.heap.size + 1) (by simp) _ rfl rfl (by simp)).mono ?_
  rintro e W2 ⟨rfl, F2, hs⟩
  rw [any2] at hs
  generalize hq : (bad || out2 d s) = q at *
  have HQ' := hide hq
  clear hq
  have HS := hide hs
  clear c0 c1 c2 c3 c4 c5 hs
  obtain ⟨c0, c1, c2, c3, c4, c5⟩ := box_at (HS.out.keep HBX.out)
  obtain ⟨v, k0, k1, k2, k3⟩ := HS.out.c.cells
  have HT := hide (HS.out.bad (q || false))
  cases q
  all_goals
   go_wp2_with fail
   have HS := HT
   clear c0 c1 c2 c3 c4 c5 k0 k1 k2 k3
   refine (St.opB HS [102] 1 W2.heap.size (by simp [World.setCell]) _ rfl rfl (by have := HL.out; simp; omega)).mono ?_
   rintro e W2b ⟨rfl, F2b, hs⟩
   have HS := hide hs
   clear hs
   obtain ⟨c0, c1, c2, c3, c4, c5⟩ := box_at (HS.out.keep HBX.out)
   go_wp2_with fail
   clear c0 c1 c2 c3 c4 c5
   refine (St.rex HS false s d (by have := HL.out; simp; omega)).mono ?_
   rintro e W3 ⟨rfl, F3, hs⟩
   have HS := hide hs
   clear hs
   obtain ⟨c0, c1, c2, c3, c4, c5⟩ := box_at (HS.out.keep HBX.out)
   go_wp2_with fail
   refine (St.op HS [137] 1 _ rfl rfl (by have := HL.out; simp; omega)).mono ?_
   rintro e W4 ⟨rfl, F4, hs⟩
   have HS := hide hs
   clear c0 c1 c2 c3 c4 c5 hs
   obtain ⟨c0, c1, c2, c3, c4, c5⟩ := box_at (HS.out.keep HBX.out)
   go_wp2_with fail
   refine (St.memory HS s d i (by have := HL.out; simp; omega)).mono ?_
   rintro e W5 ⟨rfl, F5, hs⟩
   have HS := hide hs
   clear c0 c1 c2 c3 c4 c5 hs
   go_wp2
   go_ret
   refine ⟨rfl, F5, HS.out.c.cast ?_ ?_, ((Fr.refl F w).alloc' (boxed 20 d s 2 i wd)).trans HS.out.f⟩
   ·
    simp only [List.append_assoc]; rfl
   ·
    rfl
set_option maxRecDepth 100000 in
set_option maxHeartbeats 4000000 in
theorem store4 (w : World) (x : Nat) (F : List Nat) (bs : List Int) (bad : Bool) (h : Cod w x F bs bad) (d s i wd : Int) (hl : bs.length + 40 ≤ 100000000000000) :
  Calls Try.prog 27 #[.pointer (some ⟨x, 0, none⟩), .agg #[.int .i64 20, .int .i64 d, .int .i64 s, .int .i64 4, .int .i64 i, .int .u64 wd]] w
   (SizedPost w x F (bs ++ storeB d s 4 i) (bad || out2 d s || !okSize 4 || !fits32 i) true) := by
  have hu2 := Try.underlying41
  have hu3 := Try.underlying32
  have HL := hide hl
  have hbl := hide h.lt
  have hx0 : ¬ (w.heap.size = x) := fun e => by have := hbl.out x h.mem; omega
  have hx1 : ¬ (x = w.heap.size) := fun e => hx0 e.symm
  have HBX : Hid ((w.alloc (boxed 20 d s 4 i wd)).heap[w.heap.size]? = some (boxed 20 d s 4 i wd) ∧ w.heap.size ∉ F) := hide ⟨heap_alloc_new w _, fun hk => by have := hbl.out _ hk; omega⟩
  have HS : Hid (St (w.alloc (boxed 20 d s 4 i wd)) (w.alloc (boxed 20 d s 4 i wd)) x F F bs bad) := hide ⟨h.alloc _, Fr.refl _ _⟩
  obtain ⟨c0, c1, c2, c3, c4, c5⟩ := box_at HBX.out.1
  unfold boxed at HS
  clear hl h
  go_enter Try.func27, Try.ntmps27
  go_wp2_with fail
  refine (St.regB HS [d, s] 2 (w.heap.size + 1) (by simp) _ rfl rfl (by simp)).mono ?_
  rintro e W2 ⟨rfl, F2, hs⟩
  rw [any2] at hs
  generalize hq : (bad || out2 d s) = q at *
  have HQ' := hide hq
  clear hq
  have HS := hide hs
  clear c0 c1 c2 c3 c4 c5 hs
  obtain ⟨c0, c1, c2, c3, c4, c5⟩ := box_at (HS.out.keep HBX.out)
  obtain ⟨v, k0, k1, k2, k3⟩ := HS.out.c.cells
  have HT := hide (HS.out.bad (q || false))
  cases q
  all_goals
   go_wp2_with fail
   have HS := HT
   clear c0 c1 c2 c3 c4 c5 k0 k1 k2 k3
   refine (St.rex HS false s d (by have := HL.out; simp; omega)).mono ?_
   rintro e W3 ⟨rfl, F3, hs⟩
   have HS := hide hs
   clear hs
   obtain ⟨c0, c1, c2, c3, c4, c5⟩ := box_at (HS.out.keep HBX.out)
   go_wp2_with fail
   refine (St.op HS [137] 1 _ rfl rfl (by have := HL.out; simp; omega)).mono ?_
   rintro e W4 ⟨rfl, F4, hs⟩
   have HS := hide hs
   clear c0 c1 c2 c3 c4 c5 hs
   obtain ⟨c0, c1, c2, c3, c4, c5⟩ := box_at (HS.out.keep HBX.out)
   go_wp2_with fail
   refine (St.memory HS s d i (by have := HL.out; simp; omega)).mono ?_
   rintro e W5 ⟨rfl, F5, hs⟩
   have HS := hide hs
   clear c0 c1 c2 c3 c4 c5 hs
   go_wp2
   go_ret
   refine ⟨rfl, F5, HS.out.c.cast ?_ ?_, ((Fr.refl F w).alloc' (boxed 20 d s 4 i wd)).trans HS.out.f⟩
   ·
    simp only [List.append_assoc]; rfl
   ·
    rfl
set_option maxRecDepth 100000 in
set_option maxHeartbeats 4000000 in
theorem store8 (w : World) (x : Nat) (F : List Nat) (bs : List Int) (bad : Bool) (h : Cod w x F bs bad) (d s i wd : Int) (hl : bs.length + 40 ≤ 100000000000000) :
  Calls Try.prog 27 #[.pointer (some ⟨x, 0, none⟩), .agg #[.int .i64 20, .int .i64 d, .int .i64 s, .int .i64 8, .int .i64 i, .int .u64 wd]] w
   (SizedPost w x F (bs ++ storeB d s 8 i) (bad || out2 d s || !okSize 8 || !fits32 i) true) := by
  have hu2 := Try.underlying41
  have hu3 := Try.underlying32
  have HL := hide hl
  have hbl := hide h.lt
  have hx0 : ¬ (w.heap.size = x) := fun e => by have := hbl.out x h.mem; omega
  have hx1 : ¬ (x = w.heap.size) := fun e => hx0 e.symm
  have HBX : Hid ((w.alloc (boxed 20 d s 8 i wd)).heap[w.heap.size]? = some (boxed 20 d s 8 i wd) ∧ w.heap.size ∉ F) := hide ⟨heap_alloc_new w _, fun hk => by have := hbl.out _ hk; omega⟩
  have HS : Hid (St (w.alloc (boxed 20 d s 8 i wd)) (w.alloc (boxed 20 d s 8 i wd)) x F F bs bad) := hide ⟨h.alloc _, Fr.refl _ _⟩
  obtain ⟨c0, c1, c2, c3, c4, c5⟩ := box_at HBX.out.1
  unfold boxed at HS
  clear hl h
  go_enter Try.func27, Try.ntmps27
  go_wp2_with fail
  refine (St.regB HS [d, s] 2 (w.heap.size + 1) (by simp) _ rfl rfl (by simp)).mono ?_
  rintro e W2 ⟨rfl, F2, hs⟩
  rw [any2] at hs
  generalize hq : (bad || out2 d s) = q at *
  have HQ' := hide hq
  clear hq
  have HS := hide hs
  clear c0 c1 c2 c3 c4 c5 hs
  obtain ⟨c0, c1, c2, c3, c4, c5⟩ := box_at (HS.out.keep HBX.out)
  obtain ⟨v, k0, k1, k2, k3⟩ := HS.out.c.cells
  have HT := hide (HS.out.bad (q || false))
  cases q
  all_goals
   go_wp2_with fail
   have HS := HT
   clear c0 c1 c2 c3 c4 c5 k0 k1 k2 k3
   refine (St.rex HS true s d (by have := HL.out; simp; omega)).mono ?_
   rintro e W3 ⟨rfl, F3, hs⟩
   have HS := hide hs
   clear hs
   obtain ⟨c0, c1, c2, c3, c4, c5⟩ := box_at (HS.out.keep HBX.out)
   go_wp2_with fail
   refine (St.op HS [137] 1 _ rfl rfl (by have := HL.out; simp; omega)).mono ?_
   rintro e W4 ⟨rfl, F4, hs⟩
   have HS := hide hs
   clear c0 c1 c2 c3 c4 c5 hs
   obtain ⟨c0, c1, c2, c3, c4, c5⟩ := box_at (HS.out.keep HBX.out)
   go_wp2_with fail
   refine (St.memory HS s d i (by have := HL.out; simp; omega)).mono ?_
   rintro e W5 ⟨rfl, F5, hs⟩
   have HS := hide hs
   clear c0 c1 c2 c3 c4 c5 hs
   go_wp2
   go_ret
   refine ⟨rfl, F5, HS.out.c.cast ?_ ?_, ((Fr.refl F w).alloc' (boxed 20 d s 8 i wd)).trans HS.out.f⟩
   ·
    simp only [List.append_assoc]; rfl
   ·
    rfl
set_option maxRecDepth 100000 in
set_option maxHeartbeats 4000000 in
theorem storeN (w : World) (x : Nat) (F : List Nat) (bs : List Int) (bad : Bool) (h : Cod w x F bs bad) (d s i wd : Int) (n : Int) (h1 : n ≠ 1) (h2 : n ≠ 2) (h4 : n ≠ 4) (h8 : n ≠ 8) (hl : bs.length + 40 ≤ 100000000000000) :
  Calls Try.prog 27 #[.pointer (some ⟨x, 0, none⟩), .agg #[.int .i64 20, .int .i64 d, .int .i64 s, .int .i64 n, .int .i64 i, .int .u64 wd]] w
   (SizedPost w x F (bs ++ storeB d s n i) (bad || out2 d s || !okSize n || !fits32 i) true) := by
  have hu2 := Try.underlying41
  have hu3 := Try.underlying32
  have HL := hide hl
  have hbl := hide h.lt
  have hx0 : ¬ (w.heap.size = x) := fun e => by have := hbl.out x h.mem; omega
  have hx1 : ¬ (x = w.heap.size) := fun e => hx0 e.symm
  have HBX : Hid ((w.alloc (boxed 20 d s n i wd)).heap[w.heap.size]? = some (boxed 20 d s n i wd) ∧ w.heap.size ∉ F) := hide ⟨heap_alloc_new w _, fun hk => by have := hbl.out _ hk; omega⟩
  have HS : Hid (St (w.alloc (boxed 20 d s n i wd)) (w.alloc (boxed 20 d s n i wd)) x F F bs bad) := hide ⟨h.alloc _, Fr.refl _ _⟩
  obtain ⟨c0, c1, c2, c3, c4, c5⟩ := box_at HBX.out.1
  have n1 : (n != 1) = true := by rw [bne_iff_ne]; exact h1
  have n2 : (n != 2) = true := by rw [bne_iff_ne]; exact h2
  have n4 : (n != 4) = true := by rw [bne_iff_ne]; exact h4
  have n8 : (n != 8) = true := by rw [bne_iff_ne]; exact h8
  have m1 : (n == 1) = false := by rw [beq_eq_false_iff_ne]; exact h1
  have m2 : (n == 2) = false := by rw [beq_eq_false_iff_ne]; exact h2
  have m8 : (n == 8) = false := by rw [beq_eq_false_iff_ne]; exact h8
  have HH := hide (show n ≠ 1 ∧ n ≠ 2 ∧ n ≠ 4 ∧ n ≠ 8 from ⟨h1, h2, h4, h8⟩)
  clear h1 h2 h4 h8
  unfold boxed at HS
  clear hl h
  go_enter Try.func27, Try.ntmps27
  go_wp2_with fail
  refine (St.regB HS [d, s] 2 (w.heap.size + 1) (by simp) _ rfl rfl (by simp)).mono ?_
  rintro e W2 ⟨rfl, F2, hs⟩
  rw [any2] at hs
  generalize hq : (bad || out2 d s) = q at *
  have HQ' := hide hq
  clear hq
  have HS := hide hs
  clear c0 c1 c2 c3 c4 c5 hs
  obtain ⟨c0, c1, c2, c3, c4, c5⟩ := box_at (HS.out.keep HBX.out)
  obtain ⟨v, k0, k1, k2, k3⟩ := HS.out.c.cells
  have HT := hide (HS.out.bad (q || true))
  cases q
  all_goals
   go_wp2_with fail
   have HS := HT
   clear c0 c1 c2 c3 c4 c5 k0 k1 k2 k3
   refine (St.rex HS false s d (by have := HL.out; simp; omega)).mono ?_
   rintro e W3 ⟨rfl, F3, hs⟩
   have HS := hide hs
   clear hs
   obtain ⟨c0, c1, c2, c3, c4, c5⟩ := box_at (HS.out.keep HBX.out)
   go_wp2_with fail
   refine (St.op HS [137] 1 _ rfl rfl (by have := HL.out; simp; omega)).mono ?_
   rintro e W4 ⟨rfl, F4, hs⟩
   have HS := hide hs
   clear c0 c1 c2 c3 c4 c5 hs
   obtain ⟨c0, c1, c2, c3, c4, c5⟩ := box_at (HS.out.keep HBX.out)
   go_wp2_with fail
   refine (St.memory HS s d i (by have := HL.out; simp; omega)).mono ?_
   rintro e W5 ⟨rfl, F5, hs⟩
   have HS := hide hs
   clear c0 c1 c2 c3 c4 c5 hs
   go_wp2
   go_ret
   refine ⟨rfl, F5, HS.out.c.cast ?_ ?_, ((Fr.refl F w).alloc' (boxed 20 d s n i wd)).trans HS.out.f⟩
   ·
    unfold storeB; rw [if_neg HH.out.2.1, if_neg HH.out.1, m8, List.append_assoc, List.append_assoc]; rfl
   ·
    rw [show okSize n = false by simp [okSize, HH.out.1, HH.out.2.1, HH.out.2.2.1, HH.out.2.2.2]]; rfl
theorem sized_20 (w : World) (x : Nat) (F : List Nat) (bs : List Int) (bad : Bool) (h : Cod w x F bs bad) (d s n i wd : Int) (hl : bs.length + 40 ≤ 100000000000000) :
  Calls Try.prog 27 #[.pointer (some ⟨x, 0, none⟩), .agg #[.int .i64 20, .int .i64 d, .int .i64 s, .int .i64 n, .int .i64 i, .int .u64 wd]] w
   (SizedPost w x F (bs ++ storeB d s n i) (bad || out2 d s || !okSize n || !fits32 i) true) := by
 by_cases h1 : n = 1
 ·
  subst h1; exact store1 w x F bs bad h d s i wd hl
 by_cases h2 : n = 2
 ·
  subst h2; exact store2 w x F bs bad h d s i wd hl
 by_cases h4 : n = 4
 ·
  subst h4; exact store4 w x F bs bad h d s i wd hl
 by_cases h8 : n = 8
 ·
  subst h8; exact store8 w x F bs bad h d s i wd hl
 exact storeN w x F bs bad h d s i wd n h1 h2 h4 h8 hl
set_option maxRecDepth 100000 in
set_option maxHeartbeats 4000000 in
theorem sized_other (w : World) (x : Nat) (F : List Nat) (bs : List Int) (bad : Bool) (h : Cod w x F bs bad) (kd d s n i wd : Int) (hk : ¬ (kd = 18 ∨ kd = 19 ∨ kd = 20 ∨ kd = 26 ∨ kd = 27)) :
  Calls Try.prog 27 #[.pointer (some ⟨x, 0, none⟩), .agg #[.int .i64 kd, .int .i64 d, .int .i64 s, .int .i64 n, .int .i64 i, .int .u64 wd]] w
   (SizedPost w x F bs bad false) := by
  have hu2 := Try.underlying41
  have hu3 := Try.underlying32
  have HP : Hid (SizedPost w x F bs bad false (.returned (.bool false)) (w.alloc (boxed kd d s n i wd))) := hide ⟨rfl, F, h.alloc _, (Fr.refl F w).alloc' _⟩
  obtain ⟨c0, c1, c2, c3, c4, c5⟩ := box_at (heap_alloc_new w (boxed kd d s n i wd))
  have n1 : (kd == 18) = false := by rw [beq_eq_false_iff_ne]; omega
  have n2 : (kd == 19) = false := by rw [beq_eq_false_iff_ne]; omega
  have n4 : (kd == 20) = false := by rw [beq_eq_false_iff_ne]; omega
  have n8 : (kd == 26) = false := by rw [beq_eq_false_iff_ne]; omega
  have m1 : (kd == 27) = false := by rw [beq_eq_false_iff_ne]; omega
  unfold boxed at *
  clear hk h
  go_enter Try.func27, Try.ntmps27
  go_wp2
  go_ret
  exact HP.out
end Go.Proofs.Ytpahjllcomejbaa
