/- The coder's lay: what it lays, whatever the instruction; condition: the coder lies in memory. -/
import Derived.Test.YtpahjllcomejbaaLay2
import Derived.Test.YtpahjllcomejbaaLay4
set_option linter.unusedVariables false
set_option linter.unusedSimpArgs false
namespace Go.Proofs.Ytpahjllcomejbaa
open Go.RowKit Go.MapKept

/-- An instruction's bytes, whatever stands in fields that its kind does not name; whether it may not be. -/
def layS (kd d s n i wd : Int) : List Int × Bool :=
  if twoB kd ≠ 0 then ([rexB true s d, twoB kd, dirB s d], out2 d s)
  else if (oneB kd).1 ≠ 0 then ([rexB true 0 d, (oneB kd).1, dirB (oneB kd).2 d], outReg d)
  else if kd = 18 then ([rexB (readsB n false).1 d s] ++ (readsB n false).2 ++ memB d s i, out2 d s || ((readsB n false).2 == []) || !fits32 i)
  else if kd = 19 then ([rexB (readsB n true).1 d s] ++ (readsB n true).2 ++ memB d s i, out2 d s || ((readsB n true).2 == []) || !fits32 i)
  else if kd = 26 then ([rexB (readsB n false).1 d s] ++ (readsB n false).2 ++ [dirB d s], out2 d s || ((readsB n false).2 == []) || (decide (n ≠ 2) && decide (n ≠ 4)))
  else if kd = 27 then ([rexB (readsB n true).1 d s] ++ (readsB n true).2 ++ [dirB d s], out2 d s || ((readsB n true).2 == []))
  else if kd = 20 then (storeB d s n i, out2 d s || !okSize n || !fits32 i)
  else if kd = 2 then ([rexB true 0 d, 184 + d % 8] ++ leB wd 8, outReg d)
  else if kd = 10 then ([rexB true d s, 15, 175, dirB d s], out2 d s)
  else if kd = 17 then ([72, 153], false)
  else if kd = 21 then ([233] ++ b4 i, !fits32 i)
  else if kd = 22 then ([15, 128 + d % 16] ++ b4 i, !okCond d || !fits32 i)
  else if kd = 23 then ([rexB false 0 d, 80 + d % 8], outReg d)
  else if kd = 24 then ([rexB false 0 d, 88 + d % 8], outReg d)
  else if kd = 25 then ([rexB true 0 d, 15, 200 + d % 8], outReg d)
  else if kd = 28 then ([15, 5], false)
  else if kd = 29 then ([195], false)
  else ([], true)
theorem CodPost.cast {w : World} {x : Nat} {F : List Nat} {bs bs' : List Int} {bad bad' : Bool} {Q : Ending → World → Prop} (h : ∀ e w', CodPost w x F bs bad e w' → Q e w') (e1 : bs' = bs) (e2 : bad' = bad) : ∀ e w', CodPost w x F bs' bad' e w' → Q e w' := by subst e1 e2; exact h
theorem cod_calls {f : Nat} {args : Array Value} {w : World} {x : Nat} {F : List Nat} {bs bs' : List Int} {bad bad' : Bool} (h : Calls Try.prog f args w (CodPost w x F bs' bad')) (e1 : bs' = bs) (e2 : bad' = bad) : Calls Try.prog f args w (CodPost w x F bs bad) := by subst e1 e2; exact h
theorem twoB_ne (kd : Int) (h : twoB kd ≠ 0) : kd = 1 ∨ kd = 3 ∨ kd = 4 ∨ kd = 5 ∨ kd = 6 ∨ kd = 7 ∨ kd = 8 ∨ kd = 9 := by
  refine Decidable.byContradiction fun c => h ?_
  unfold twoB
  rw [if_neg (by omega), if_neg (by omega), if_neg (by omega), if_neg (by omega), if_neg (by omega), if_neg (by omega), if_neg (by omega), if_neg (by omega)]
theorem twoB_zero (kd : Int) (h : ¬ (kd = 1 ∨ kd = 3 ∨ kd = 4 ∨ kd = 5 ∨ kd = 6 ∨ kd = 7 ∨ kd = 8 ∨ kd = 9)) : twoB kd = 0 :=
  Decidable.byContradiction fun c => h (twoB_ne kd c)
theorem oneB_zero (kd : Int) (h : ¬ (11 ≤ kd ∧ kd ≤ 16)) : oneB kd = (0, 0) := by
  unfold oneB
  rw [if_neg (by omega), if_neg (by omega), if_neg (by omega), if_neg (by omega), if_neg (by omega), if_neg (by omega)]
theorem oneB_ne (kd : Int) (h : 11 ≤ kd ∧ kd ≤ 16) : (oneB kd).1 ≠ 0 := by
  have : kd = 11 ∨ kd = 12 ∨ kd = 13 ∨ kd = 14 ∨ kd = 15 ∨ kd = 16 := by omega
  rcases this with rfl | rfl | rfl | rfl | rfl | rfl <;> decide
theorem lay_calls (w : World) (x : Nat) (F : List Nat) (bs : List Int) (bad : Bool) (h : Cod w x F bs bad) (kd d s n i wd : Int) (hw : 0 ≤ wd ∧ wd < 18446744073709551616) (hl : bs.length + 40 ≤ 100000000000000) :
    Calls Try.prog 11 #[.pointer (some ⟨x, 0, none⟩), .agg #[.int .i64 kd, .int .i64 d, .int .i64 s, .int .i64 n, .int .i64 i, .int .u64 wd]] w
      (CodPost w x F (bs ++ (layS kd d s n i wd).1) (bad || (layS kd d s n i wd).2)) := by
  unfold layS
  by_cases ht : twoB kd ≠ 0
  · rw [if_pos ht]; exact lay_two w x F bs bad h kd d s n i wd ht hl
  rw [if_neg ht]
  have ht : twoB kd = 0 := by omega
  by_cases ho : (oneB kd).1 ≠ 0
  · rw [if_pos ho]; exact lay_one w x F bs bad h kd (oneB kd).1 (oneB kd).2 d s n i wd ht rfl hl ho
  rw [if_neg ho]
  have ho : oneB kd = (0, 0) := by
    by_cases c : 11 ≤ kd ∧ kd ≤ 16
    · exact absurd (oneB_ne kd c) ho
    · exact oneB_zero kd c
  by_cases c18 : kd = 18
  · rw [if_pos c18]; subst c18
    exact cod_calls (lay_sized w x F bs bad h 18 d s n i wd ht ho hl _ _ (fun W F' h' => sized_18 W x F' bs bad h' d s n i wd hl)) rfl (by simp only [Bool.or_assoc])
  rw [if_neg c18]
  by_cases c19 : kd = 19
  · rw [if_pos c19]; subst c19
    exact cod_calls (lay_sized w x F bs bad h 19 d s n i wd ht ho hl _ _ (fun W F' h' => sized_19 W x F' bs bad h' d s n i wd hl)) rfl (by simp only [Bool.or_assoc])
  rw [if_neg c19]
  by_cases c26 : kd = 26
  · rw [if_pos c26]; subst c26
    exact cod_calls (lay_sized w x F bs bad h 26 d s n i wd ht ho hl _ _ (fun W F' h' => sized_26 W x F' bs bad h' d s n i wd hl)) rfl (by simp only [Bool.or_assoc])
  rw [if_neg c26]
  by_cases c27 : kd = 27
  · rw [if_pos c27]; subst c27
    exact cod_calls (lay_sized w x F bs bad h 27 d s n i wd ht ho hl _ _ (fun W F' h' => sized_27 W x F' bs bad h' d s n i wd hl)) rfl (by simp only [Bool.or_assoc])
  rw [if_neg c27]
  by_cases c20 : kd = 20
  · rw [if_pos c20]; subst c20
    exact cod_calls (lay_sized w x F bs bad h 20 d s n i wd ht ho hl _ _ (fun W F' h' => sized_20 W x F' bs bad h' d s n i wd hl)) rfl (by simp only [Bool.or_assoc])
  rw [if_neg c20]
  have hz : ∀ W F, Cod W x F bs bad → Calls Try.prog 27 #[.pointer (some ⟨x, 0, none⟩), .agg #[.int .i64 kd, .int .i64 d, .int .i64 s, .int .i64 n, .int .i64 i, .int .u64 wd]] W (SizedPost W x F bs bad false) :=
    fun W F' h' => sized_other W x F' bs bad h' kd d s n i wd (by omega)
  by_cases c2 : kd = 2
  · rw [if_pos c2]; subst c2
    exact cod_calls (lay_2 w x F bs bad h d s n i wd ht ho hl hw hz) rfl (by simp)
  rw [if_neg c2]
  by_cases c10 : kd = 10
  · rw [if_pos c10]; subst c10
    exact cod_calls (lay_10 w x F bs bad h d s n i wd ht ho hl hz) rfl (by simp)
  rw [if_neg c10]
  by_cases c17 : kd = 17
  · rw [if_pos c17]; subst c17
    exact cod_calls (lay_17 w x F bs bad h d s n i wd ht ho hl hz) rfl (by simp)
  rw [if_neg c17]
  by_cases c21 : kd = 21
  · rw [if_pos c21]; subst c21
    exact cod_calls (lay_21 w x F bs bad h d s n i wd ht ho hl hz) rfl (by simp)
  rw [if_neg c21]
  by_cases c22 : kd = 22
  · rw [if_pos c22]; subst c22
    by_cases a1 : d < 2
    · exact cod_calls (lay_22a w x F bs bad h d s n i wd ht ho hl a1 hz) rfl (by simp [okCond, show ¬ 2 ≤ d by omega, show ¬ 12 ≤ d by omega])
    by_cases a2 : d ≤ 7
    · exact cod_calls (lay_22b w x F bs bad h d s n i wd ht ho hl (by omega) a2 hz) rfl (by simp [okCond, show 2 ≤ d by omega, a2])
    by_cases a3 : d < 12
    · exact cod_calls (lay_22c w x F bs bad h d s n i wd ht ho hl (by omega) a3 hz) rfl (by simp [okCond, a2, show ¬ 12 ≤ d by omega])
    by_cases a4 : d ≤ 15
    · exact cod_calls (lay_22d w x F bs bad h d s n i wd ht ho hl (by omega) a4 hz) rfl (by simp [okCond, a4, show 12 ≤ d by omega])
    · exact cod_calls (lay_22e w x F bs bad h d s n i wd ht ho hl (by omega) hz) rfl (by simp [okCond, a2, a4])
  rw [if_neg c22]
  by_cases c23 : kd = 23
  · rw [if_pos c23]; subst c23
    exact cod_calls (lay_23 w x F bs bad h d s n i wd ht ho hl hz) rfl (by simp)
  rw [if_neg c23]
  by_cases c24 : kd = 24
  · rw [if_pos c24]; subst c24
    exact cod_calls (lay_24 w x F bs bad h d s n i wd ht ho hl hz) rfl (by simp)
  rw [if_neg c24]
  by_cases c25 : kd = 25
  · rw [if_pos c25]; subst c25
    exact cod_calls (lay_25 w x F bs bad h d s n i wd ht ho hl hz) rfl (by simp)
  rw [if_neg c25]
  by_cases c28 : kd = 28
  · rw [if_pos c28]; subst c28
    exact cod_calls (lay_28 w x F bs bad h d s n i wd ht ho hl hz) rfl (by simp)
  rw [if_neg c28]
  by_cases c29 : kd = 29
  · rw [if_pos c29]; subst c29
    exact cod_calls (lay_29 w x F bs bad h d s n i wd ht ho hl hz) rfl (by simp)
  rw [if_neg c29]
  exact cod_calls (lay_none w x F bs bad h kd d s n i wd ht ho hl (by omega) hz) rfl (by simp)
end Go.Proofs.Ytpahjllcomejbaa
