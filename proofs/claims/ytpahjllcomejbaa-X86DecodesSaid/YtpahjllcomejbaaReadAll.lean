/- What was laid is read as it was, whatever the instruction; condition: the bytes lie in the text. -/
import Derived.Test.YtpahjllcomejbaaReadLaw
set_option linter.unusedVariables false
set_option linter.unusedSimpArgs false
set_option linter.unusedSectionVars false
namespace Go.Proofs.Ytpahjllcomejbaa
open Go.RowKit Go.MapKept
open Go.Proofs.YtpahjllcomejbaaW.PrintWords Go.Proofs.YtpahjllcomejbaaW.PrintLast Go.Proofs.YtpahjllcomejbaaW.PrintMore
open PX86Encodes

theorem rr_of {d : Int} (h : outReg d = false) : RR d := by simp [outReg] at h; unfold RR; omega
theorem rr_of2 {d t : Int} (h : out2 d t = false) : RR d ∧ RR t := by simp [out2] at h; exact ⟨rr_of h.1, rr_of h.2⟩
section
variable {s : ByteArray} (hs : s.size ≤ 9223372036854775807) (k : Nat) (hk : 8 < k)
include hs hk
theorem read_139 {a p q : Int} {l rest : List Int} (w : Bool) (h1 : RR p) (h2 : RR q) (h : At s a (rexB w p q :: 139 :: (l ++ rest))) : readX k s a = x86_reader_load.f k s (a + 2) false (rexB w p q) (if w = true then 8 else 4) false ∧ At s (a + 2) (l ++ rest) := by
 obtain ⟨e1, h'⟩ := rex_op hs k w h1 h2 h
 obtain ⟨_, _, _, _, r5⟩ := rex_range w p q h1 h2
 refine ⟨?_, h'⟩
 rw [e1]
 unfold shortT
 rw [if_neg (by decide), if_neg (by decide), if_neg (by decide), if_neg (by decide), if_neg (by decide), if_neg (by decide), if_pos rfl, r5]
 cases w <;> rfl
theorem read_99 {a p q : Int} {l rest : List Int} (w : Bool) (h1 : RR p) (h2 : RR q) (h : At s a (rexB w p q :: 99 :: (l ++ rest))) : readX k s a = x86_reader_load.f k s (a + 2) false (rexB w p q) 4 true ∧ At s (a + 2) (l ++ rest) := by
 obtain ⟨e1, h'⟩ := rex_op hs k w h1 h2 h
 refine ⟨?_, h'⟩
 rw [e1]
 unfold shortT
 rw [if_neg (by decide), if_neg (by decide), if_neg (by decide), if_neg (by decide), if_neg (by decide), if_pos rfl]
theorem read_15 {a p q op m : Int} {g : Bool} {l rest : List Int} (hop : (op = 182 ∧ m = 1 ∧ g = false) ∨ (op = 183 ∧ m = 2 ∧ g = false) ∨ (op = 190 ∧ m = 1 ∧ g = true) ∨ (op = 191 ∧ m = 2 ∧ g = true)) (w : Bool) (h1 : RR p) (h2 : RR q) (h : At s a (rexB w p q :: 15 :: op :: (l ++ rest))) :
  readX k s a = x86_reader_load.f k s (a + 3) false (rexB w p q) m g ∧ At s (a + 3) (l ++ rest) := by
 obtain ⟨e1, h'⟩ := rex_long hs k w h1 h2 h
 have e2 := long_load hs k hk (p := p) (q := q) (i := 0) (rex := rexB w p q) hop false h'
 obtain ⟨_, _, _, h''⟩ := h'.cons
 have e3 : a + 2 + 1 = a + 3 := by omega
 rw [e3] at e2 h''
 exact ⟨e1.trans e2, h''⟩
theorem read_13x {a p q op : Int} {l rest : List Int} (w : Bool) (hop : (op = 136 ∧ w = false) ∨ op = 137) (h1 : RR p) (h2 : RR q) (h : At s a (rexB w p q :: op :: (l ++ rest))) :
  readX k s a = x86_reader_store.f k s (a + 2) false (rexB w p q) (if op = 136 then 1 else if w = true then 8 else 4) ∧ At s (a + 2) (l ++ rest) := by
 obtain ⟨e1, h'⟩ := rex_op hs k w h1 h2 h
 obtain ⟨_, _, _, _, r5⟩ := rex_range w p q h1 h2
 refine ⟨?_, h'⟩
 rw [e1]
 unfold shortT
 rcases hop with ⟨rfl, rfl⟩ | rfl
 ·
  rw [if_neg (by decide), if_neg (by decide), if_neg (by decide), if_neg (by decide), if_neg (by decide), if_neg (by decide), if_neg (by decide), if_pos rfl, if_pos rfl]
 ·
  rw [if_neg (by decide), if_neg (by decide), if_neg (by decide), if_neg (by decide), if_neg (by decide), if_neg (by decide), if_neg (by decide), if_neg (by decide), if_pos rfl, r5]
  cases w <;> simp
theorem read_half {a p q : Int} {l rest : List Int} (h1 : RR p) (h2 : RR q) (h : At s a (102 :: rexB false p q :: 137 :: (l ++ rest))) :
  readX k s a = x86_reader_store.f k s (a + 3) false (rexB false p q) 2 ∧ At s (a + 3) (l ++ rest) := by
 obtain ⟨hn, hat⟩ := next_at hs h false
 obtain ⟨hn2, hat2⟩ := next_at hs hat false
 obtain ⟨e2, h''⟩ := short_at hs k hat2 false (rexB false p q) true
 have e3 : a + 1 + 1 + 1 = a + 3 := by omega
 rw [e3] at e2 h''
 refine ⟨?_, h''⟩
 unfold readX
 rw [hn, Option.bind_some]
 dsimp only
 rw [if_neg (by decide), if_neg (by decide), if_neg (by decide), if_pos rfl, hn2, Option.bind_some]
 dsimp only
 rw [e2]
 unfold shortT
 rw [if_neg (by decide), if_neg (by decide), if_neg (by decide), if_neg (by decide), if_neg (by decide), if_neg (by decide), if_neg (by decide), if_neg (by decide), if_pos rfl, if_pos rfl]
/-- All that a kind may say of its bytes. -/
def Reads (kd d t n i wd : Int) : Prop := ∀ (a : Int) (rest : List Int), At s a ((layS kd d t n i wd).1 ++ rest) → readX k s a = some (kd, d, t, n, i, wd, s, a + ((layS kd d t n i wd).1.length : Nat), false)
theorem reads_of {kd d t n i wd : Int} {bs : List Int} (e : (layS kd d t n i wd).1 = bs) (m : Int) (hm : (bs.length : Int) = m) (h : ∀ (a : Int) (rest : List Int), At s a (bs ++ rest) → readX k s a = some (kd, d, t, n, i, wd, s, a + m, false)) : Reads (s := s) k kd d t n i wd := by
 intro a rest hat
 rw [e] at hat ⊢
 rw [hm]
 exact h a rest hat
set_option maxHeartbeats 4000000 in
theorem read_all (kd d t n i wd : Int) (hb : bareS kd d t n i wd = (kd, d, t, n, i, wd)) (hq : (layS kd d t n i wd).2 = false) (hw : 0 ≤ wd ∧ wd < 18446744073709551616) : Reads (s := s) k kd d t n i wd := by
 have two : ∀ op, op ≠ 0 → twoB kd = op → RR d ∧ RR t := fun op h0 h => rr_of2 (by
  unfold layS at hq
  rw [if_pos (by rw [h]; exact h0)] at hq
  exact hq)
 by_cases c1 : kd = 1
 ·
  subst c1
  obtain ⟨h1, h2⟩ := two 137 (by decide) (by decide)
  simp [bareS] at hb
  obtain ⟨rfl, rfl, rfl⟩ := hb
  refine reads_of hs k hk (bs := [rexB true t d, 137, dirB t d]) (by simp [layS, twoB]) 3 rfl fun a rest h => ?_
  obtain ⟨e1, h'⟩ := read_13x hs k hk (l := [dirB t d]) true (.inr rfl) h2 h1 h
  rw [e1, store_dir hs k hk true h2 h1 h', show a + 2 + 1 = a + 3 by omega]
 by_cases cT : kd = 3 ∨ kd = 4 ∨ kd = 5 ∨ kd = 6 ∨ kd = 7 ∨ kd = 8 ∨ kd = 9
 ·
  have ht : twoB kd ≠ 0 := by rcases cT with rfl | rfl | rfl | rfl | rfl | rfl | rfl <;> decide
  obtain ⟨h1, h2⟩ := two _ ht rfl
  have hbb : n = 0 ∧ i = 0 ∧ wd = 0 := by
   rcases cT with rfl | rfl | rfl | rfl | rfl | rfl | rfl <;> (simp [bareS] at hb; obtain ⟨rfl, rfl, rfl⟩ := hb; exact ⟨rfl, rfl, rfl⟩)
  obtain ⟨rfl, rfl, rfl⟩ := hbb
  refine reads_of hs k hk (bs := [rexB true t d, twoB kd, dirB t d]) (by unfold layS; rw [if_pos ht]) 3 rfl fun a rest h => ?_
  refine read_two hs k hk h1 h2 (op := twoB kd) ?_ h
  rcases cT with rfl | rfl | rfl | rfl | rfl | rfl | rfl <;> decide
 by_cases cO : kd = 11 ∨ kd = 12 ∨ kd = 13 ∨ kd = 14 ∨ kd = 15 ∨ kd = 16
 ·
  have ht : twoB kd = 0 := by rcases cO with rfl | rfl | rfl | rfl | rfl | rfl <;> decide
  have ho : (oneB kd).1 ≠ 0 := oneB_ne kd (by omega)
  have hbb : t = 0 ∧ n = 0 ∧ i = 0 ∧ wd = 0 := by
   rcases cO with rfl | rfl | rfl | rfl | rfl | rfl <;> (simp [bareS] at hb; obtain ⟨rfl, rfl, rfl, rfl⟩ := hb; exact ⟨rfl, rfl, rfl, rfl⟩)
  obtain ⟨rfl, rfl, rfl, rfl⟩ := hbb
  have e : layS kd d 0 0 0 0 = ([rexB true 0 d, (oneB kd).1, dirB (oneB kd).2 d], outReg d) := by unfold layS; rw [if_neg (by simp [ht]), if_pos ho]
  have h1 : RR d := rr_of (by rw [e] at hq; exact hq)
  refine reads_of hs k hk (congrArg Prod.fst e) 3 rfl fun a rest h => ?_
  refine read_one hs k hk h1 (op := (oneB kd).1) (v := (oneB kd).2) ?_ h
  rcases cO with rfl | rfl | rfl | rfl | rfl | rfl <;> decide
 by_cases c18 : kd = 18
 ·
  subst c18
  simp [bareS] at hb
  subst hb
  have e : layS 18 d t n i 0 = ([rexB (readsB n false).1 d t] ++ (readsB n false).2 ++ memB d t i, out2 d t || ((readsB n false).2 == []) || !fits32 i) := by simp [layS, twoB, oneB]
  rw [e] at hq
  simp only [Bool.or_eq_false_iff, Bool.not_eq_false'] at hq
  obtain ⟨⟨q1, q2⟩, q3⟩ := hq
  obtain ⟨h1, h2⟩ := rr_of2 q1
  by_cases n8 : n = 8
  ·
   subst n8
   refine reads_of hs k hk (bs := [rexB true d t, 139] ++ memB d t i) (by rw [e]; simp [readsB]) (2 + (memB d t i).length) (by simp; omega) fun a rest h => ?_
   obtain ⟨e1, h'⟩ := read_139 hs k hk (l := memB d t i) true h1 h2 (by simpa using h)
   rw [e1, if_pos rfl, load_mem hs k hk true h1 h2 h' false 8 false q3, Int.add_assoc]; rfl
  by_cases n4 : n = 4
  ·
   subst n4
   refine reads_of hs k hk (bs := [rexB false d t, 139] ++ memB d t i) (by rw [e]; simp [readsB]) (2 + (memB d t i).length) (by simp; omega) fun a rest h => ?_
   obtain ⟨e1, h'⟩ := read_139 hs k hk (l := memB d t i) false h1 h2 (by simpa using h)
   rw [e1, if_neg (by simp), load_mem hs k hk false h1 h2 h' false 4 false q3, Int.add_assoc]; rfl
  by_cases n2 : n = 2
  ·
   subst n2
   refine reads_of hs k hk (bs := [rexB true d t, 15, 183] ++ memB d t i) (by rw [e]; simp [readsB]) (3 + (memB d t i).length) (by simp; omega) fun a rest h => ?_
   obtain ⟨e1, h'⟩ := read_15 hs k hk (l := memB d t i) (op := 183) (m := 2) (g := false) (by decide) true h1 h2 (by simpa using h)
   rw [e1, load_mem hs k hk true h1 h2 h' false 2 false q3, Int.add_assoc]; rfl
  by_cases n1 : n = 1
  ·
   subst n1
   refine reads_of hs k hk (bs := [rexB true d t, 15, 182] ++ memB d t i) (by rw [e]; simp [readsB]) (3 + (memB d t i).length) (by simp; omega) fun a rest h => ?_
   obtain ⟨e1, h'⟩ := read_15 hs k hk (l := memB d t i) (op := 182) (m := 1) (g := false) (by decide) true h1 h2 (by simpa using h)
   rw [e1, load_mem hs k hk true h1 h2 h' false 1 false q3, Int.add_assoc]; rfl
  simp [readsB, n8, n4, n2, n1] at q2
 by_cases c19 : kd = 19
 ·
  subst c19
  simp [bareS] at hb
  subst hb
  have e : layS 19 d t n i 0 = ([rexB (readsB n true).1 d t] ++ (readsB n true).2 ++ memB d t i, out2 d t || ((readsB n true).2 == []) || !fits32 i) := by simp [layS, twoB, oneB]
  rw [e] at hq
  simp only [Bool.or_eq_false_iff, Bool.not_eq_false'] at hq
  obtain ⟨⟨q1, q2⟩, q3⟩ := hq
  obtain ⟨h1, h2⟩ := rr_of2 q1
  by_cases n4 : n = 4
  ·
   subst n4
   refine reads_of hs k hk (bs := [rexB true d t, 99] ++ memB d t i) (by rw [e]; simp [readsB]) (2 + (memB d t i).length) (by simp; omega) fun a rest h => ?_
   obtain ⟨e1, h'⟩ := read_99 hs k hk (l := memB d t i) true h1 h2 (by simpa using h)
   rw [e1, load_mem hs k hk true h1 h2 h' false 4 true q3, Int.add_assoc]; rfl
  by_cases n2 : n = 2
  ·
   subst n2
   refine reads_of hs k hk (bs := [rexB true d t, 15, 191] ++ memB d t i) (by rw [e]; simp [readsB]) (3 + (memB d t i).length) (by simp; omega) fun a rest h => ?_
   obtain ⟨e1, h'⟩ := read_15 hs k hk (l := memB d t i) (op := 191) (m := 2) (g := true) (by decide) true h1 h2 (by simpa using h)
   rw [e1, load_mem hs k hk true h1 h2 h' false 2 true q3, Int.add_assoc]; rfl
  by_cases n1 : n = 1
  ·
   subst n1
   refine reads_of hs k hk (bs := [rexB true d t, 15, 190] ++ memB d t i) (by rw [e]; simp [readsB]) (3 + (memB d t i).length) (by simp; omega) fun a rest h => ?_
   obtain ⟨e1, h'⟩ := read_15 hs k hk (l := memB d t i) (op := 190) (m := 1) (g := true) (by decide) true h1 h2 (by simpa using h)
   rw [e1, load_mem hs k hk true h1 h2 h' false 1 true q3, Int.add_assoc]; rfl
  simp [readsB, n4, n2, n1] at q2
 by_cases c26 : kd = 26
 ·
  subst c26
  simp [bareS] at hb
  obtain ⟨rfl, rfl⟩ := hb
  have e : layS 26 d t n 0 0 = ([rexB (readsB n false).1 d t] ++ (readsB n false).2 ++ [dirB d t], out2 d t || ((readsB n false).2 == []) || (decide (n ≠ 2) && decide (n ≠ 4))) := by simp [layS, twoB, oneB]
  rw [e] at hq
  simp only [Bool.or_eq_false_iff] at hq
  obtain ⟨⟨q1, q2⟩, q3⟩ := hq
  obtain ⟨h1, h2⟩ := rr_of2 q1
  by_cases n4 : n = 4
  ·
   subst n4
   refine reads_of hs k hk (bs := [rexB false d t, 139] ++ [dirB d t]) (by rw [e]; simp [readsB]) 3 (by simp) fun a rest h => ?_
   obtain ⟨e1, h'⟩ := read_139 hs k hk (l := [dirB d t]) false h1 h2 (by simpa using h)
   rw [e1, if_neg (by simp), load_dir hs k hk false h1 h2 h' false 4 false, Int.add_assoc]; rfl
  by_cases n2 : n = 2
  ·
   subst n2
   refine reads_of hs k hk (bs := [rexB true d t, 15, 183] ++ [dirB d t]) (by rw [e]; simp [readsB]) 4 (by simp) fun a rest h => ?_
   obtain ⟨e1, h'⟩ := read_15 hs k hk (l := [dirB d t]) (op := 183) (m := 2) (g := false) (by decide) true h1 h2 (by simpa using h)
   rw [e1, load_dir hs k hk true h1 h2 h' false 2 false, Int.add_assoc]; rfl
  simp [n4, n2] at q3
 by_cases c27 : kd = 27
 ·
  subst c27
  simp [bareS] at hb
  obtain ⟨rfl, rfl⟩ := hb
  have e : layS 27 d t n 0 0 = ([rexB (readsB n true).1 d t] ++ (readsB n true).2 ++ [dirB d t], out2 d t || ((readsB n true).2 == [])) := by simp [layS, twoB, oneB]
  rw [e] at hq
  simp only [Bool.or_eq_false_iff] at hq
  obtain ⟨q1, q2⟩ := hq
  obtain ⟨h1, h2⟩ := rr_of2 q1
  by_cases n4 : n = 4
  ·
   subst n4
   refine reads_of hs k hk (bs := [rexB true d t, 99] ++ [dirB d t]) (by rw [e]; simp [readsB]) 3 (by simp) fun a rest h => ?_
   obtain ⟨e1, h'⟩ := read_99 hs k hk (l := [dirB d t]) true h1 h2 (by simpa using h)
   rw [e1, load_dir hs k hk true h1 h2 h' false 4 true, Int.add_assoc]; rfl
  by_cases n2 : n = 2
  ·
   subst n2
   refine reads_of hs k hk (bs := [rexB true d t, 15, 191] ++ [dirB d t]) (by rw [e]; simp [readsB]) 4 (by simp) fun a rest h => ?_
   obtain ⟨e1, h'⟩ := read_15 hs k hk (l := [dirB d t]) (op := 191) (m := 2) (g := true) (by decide) true h1 h2 (by simpa using h)
   rw [e1, load_dir hs k hk true h1 h2 h' false 2 true, Int.add_assoc]; rfl
  by_cases n1 : n = 1
  ·
   subst n1
   refine reads_of hs k hk (bs := [rexB true d t, 15, 190] ++ [dirB d t]) (by rw [e]; simp [readsB]) 4 (by simp) fun a rest h => ?_
   obtain ⟨e1, h'⟩ := read_15 hs k hk (l := [dirB d t]) (op := 190) (m := 1) (g := true) (by decide) true h1 h2 (by simpa using h)
   rw [e1, load_dir hs k hk true h1 h2 h' false 1 true, Int.add_assoc]; rfl
  simp [readsB, n4, n2, n1] at q2
 by_cases c20 : kd = 20
 ·
  subst c20
  simp [bareS] at hb
  subst hb
  have e : layS 20 d t n i 0 = (storeB d t n i, out2 d t || !okSize n || !fits32 i) := by simp [layS, twoB, oneB]
  rw [e] at hq
  simp only [Bool.or_eq_false_iff, Bool.not_eq_false'] at hq
  obtain ⟨⟨q1, q2⟩, q3⟩ := hq
  obtain ⟨h1, h2⟩ := rr_of2 q1
  by_cases n8 : n = 8
  ·
   subst n8
   refine reads_of hs k hk (bs := [rexB true t d, 137] ++ memB t d i) (by rw [e]; simp [storeB]) (2 + (memB t d i).length) (by simp; omega) fun a rest h => ?_
   obtain ⟨e1, h'⟩ := read_13x hs k hk (l := memB t d i) true (.inr rfl) h2 h1 (by simpa using h)
   rw [e1, store_mem hs k hk true h2 h1 h' false _ q3, Int.add_assoc]; rfl
  by_cases n4 : n = 4
  ·
   subst n4
   refine reads_of hs k hk (bs := [rexB false t d, 137] ++ memB t d i) (by rw [e]; simp [storeB]) (2 + (memB t d i).length) (by simp; omega) fun a rest h => ?_
   obtain ⟨e1, h'⟩ := read_13x hs k hk (l := memB t d i) false (.inr rfl) h2 h1 (by simpa using h)
   rw [e1, store_mem hs k hk false h2 h1 h' false _ q3, Int.add_assoc]; rfl
  by_cases n1 : n = 1
  ·
   subst n1
   refine reads_of hs k hk (bs := [rexB false t d, 136] ++ memB t d i) (by rw [e]; simp [storeB]) (2 + (memB t d i).length) (by simp; omega) fun a rest h => ?_
   obtain ⟨e1, h'⟩ := read_13x hs k hk (l := memB t d i) false (.inl ⟨rfl, rfl⟩) h2 h1 (by simpa using h)
   rw [e1, store_mem hs k hk false h2 h1 h' false _ q3, Int.add_assoc]; rfl
  by_cases n2 : n = 2
  ·
   subst n2
   refine reads_of hs k hk (bs := [102, rexB false t d, 137] ++ memB t d i) (by rw [e]; simp [storeB]) (3 + (memB t d i).length) (by simp; omega) fun a rest h => ?_
   obtain ⟨e1, h'⟩ := read_half hs k hk (l := memB t d i) h2 h1 (by simpa using h)
   rw [e1, store_mem hs k hk false h2 h1 h' false _ q3, Int.add_assoc]
  simp [okSize, n8, n4, n2, n1] at q2
 by_cases c2 : kd = 2
 ·
  subst c2
  simp [bareS] at hb
  obtain ⟨rfl, rfl, rfl⟩ := hb
  have e : layS 2 d 0 0 0 wd = ([rexB true 0 d, 184 + d % 8] ++ leB wd 8, outReg d) := by simp [layS, twoB, oneB]
  rw [e] at hq
  exact reads_of hs k hk (congrArg Prod.fst e) 10 (by simp [leB]) fun a rest h => read_2 hs k hk (rr_of hq) hw h
 by_cases c10 : kd = 10
 ·
  subst c10
  simp [bareS] at hb
  obtain ⟨rfl, rfl, rfl⟩ := hb
  have e : layS 10 d t 0 0 0 = ([rexB true d t, 15, 175, dirB d t], out2 d t) := by simp [layS, twoB, oneB]
  rw [e] at hq
  obtain ⟨h1, h2⟩ := rr_of2 hq
  exact reads_of hs k hk (congrArg Prod.fst e) 4 rfl fun a rest h => read_10 hs k hk h1 h2 h
 by_cases c17 : kd = 17
 ·
  subst c17
  simp [bareS] at hb
  obtain ⟨rfl, rfl, rfl, rfl, rfl⟩ := hb
  exact reads_of hs k hk (bs := [72, 153]) (by simp [layS, twoB, oneB]) 2 rfl fun a rest h => read_17 hs k hk h
 by_cases c21 : kd = 21
 ·
  subst c21
  simp [bareS] at hb
  obtain ⟨rfl, rfl, rfl, rfl⟩ := hb
  have e : layS 21 0 0 0 i 0 = ([233] ++ b4 i, !fits32 i) := by simp [layS, twoB, oneB]
  rw [e] at hq
  exact reads_of hs k hk (congrArg Prod.fst e) 5 rfl fun a rest h => read_21 hs k hk (by simpa using hq) h
 by_cases c22 : kd = 22
 ·
  subst c22
  simp [bareS] at hb
  obtain ⟨rfl, rfl, rfl⟩ := hb
  have e : layS 22 d 0 0 i 0 = ([15, 128 + d % 16] ++ b4 i, !okCond d || !fits32 i) := by simp [layS, twoB, oneB]
  rw [e] at hq
  simp only [Bool.or_eq_false_iff, Bool.not_eq_false'] at hq
  exact reads_of hs k hk (congrArg Prod.fst e) 6 rfl fun a rest h => read_22 hs k hk hq.1 hq.2 h
 by_cases c23 : kd = 23
 ·
  subst c23
  simp [bareS] at hb
  obtain ⟨rfl, rfl, rfl, rfl⟩ := hb
  have e : layS 23 d 0 0 0 0 = ([rexB false 0 d, 80 + d % 8], outReg d) := by simp [layS, twoB, oneB]
  rw [e] at hq
  exact reads_of hs k hk (congrArg Prod.fst e) 2 rfl fun a rest h => read_push hs k hk 23 80 (by decide) (rr_of hq) h
 by_cases c24 : kd = 24
 ·
  subst c24
  simp [bareS] at hb
  obtain ⟨rfl, rfl, rfl, rfl⟩ := hb
  have e : layS 24 d 0 0 0 0 = ([rexB false 0 d, 88 + d % 8], outReg d) := by simp [layS, twoB, oneB]
  rw [e] at hq
  exact reads_of hs k hk (congrArg Prod.fst e) 2 rfl fun a rest h => read_push hs k hk 24 88 (by decide) (rr_of hq) h
 by_cases c25 : kd = 25
 ·
  subst c25
  simp [bareS] at hb
  obtain ⟨rfl, rfl, rfl, rfl⟩ := hb
  have e : layS 25 d 0 0 0 0 = ([rexB true 0 d, 15, 200 + d % 8], outReg d) := by simp [layS, twoB, oneB]
  rw [e] at hq
  exact reads_of hs k hk (congrArg Prod.fst e) 3 rfl fun a rest h => read_25 hs k hk (rr_of hq) h
 by_cases c28 : kd = 28
 ·
  subst c28
  simp [bareS] at hb
  obtain ⟨rfl, rfl, rfl, rfl, rfl⟩ := hb
  exact reads_of hs k hk (bs := [15, 5]) (by simp [layS, twoB, oneB]) 2 rfl fun a rest h => read_28 hs k hk h
 by_cases c29 : kd = 29
 ·
  subst c29
  simp [bareS] at hb
  obtain ⟨rfl, rfl, rfl, rfl, rfl⟩ := hb
  exact reads_of hs k hk (bs := [195]) (by simp [layS, twoB, oneB]) 1 rfl fun a rest h => read_29 hs k hk h
 exfalso
 have ht : twoB kd = 0 := twoB_zero kd (by omega)
 have ho : oneB kd = (0, 0) := oneB_zero kd (by omega)
 simp [layS, ht, ho, *] at hq
end
end Go.Proofs.Ytpahjllcomejbaa
