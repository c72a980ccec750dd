/- What the program encodes, and the law's examples; no condition but that the list fits. -/
import Derived.Test.YthkbncoklgpobaaAGuess2
import Derived.Test.YthkbncoklgpobaaQArmDecodesx4
import Derived.Lib.Bytes
set_option linter.unusedVariables false
set_option linter.unusedSimpArgs false
namespace Go.Proofs.Ythkbncoklgpobaa
open Go.RowKit
open Go.Proofs.YthkbncoklgpobaaW.PrintWords Go.Proofs.YthkbncoklgpobaaW.PrintLast Go.Proofs.YthkbncoklgpobaaW.PrintMore
open QArmDecodes

def wordBytes (w : Int) : List Int := [w % 256, w / 256 % 256, w / 65536 % 256, w / 16777216 % 256]
def sw (x : S32) : Int := armW x.f0 x.f1 x.f2 x.f3 x.f4
def encAll : List S32 → Option (List Int)
  | [] => some []
  | x :: l => if sw x < 0 then none else (encAll l).map (wordBytes (sw x) ++ ·)
def encRes (o : Option (List Int)) : ByteArray × Int := match o with
  | some bs => (strOfNums bs, 0)
  | none => (⟨#[]⟩, 30)
theorem encode_l0 (l : List S32) (hl : l.length * 4 < 100000000000000) : ∀ (n i k : Nat) (acc : List Int), i + n = l.length → n < k → acc.length = 4 * i →
    arm_Encode.l0 k acc l l.length i = some (encRes ((encAll (l.drop i)).map (acc ++ ·))) := by
  intro n
  induction n with
  | zero =>
    intro i k acc hi hk ha
    obtain ⟨k, rfl⟩ : ∃ m, k = m + 1 := ⟨k - 1, by omega⟩
    rw [arm_Encode.l0, if_neg (by omega), List.drop_eq_nil_of_le (by omega)]
    simp [encAll, encRes]
  | succ n ih =>
    intro i k acc hi hk ha
    obtain ⟨k, rfl⟩ : ∃ m, k = m + 1 := ⟨k - 1, by omega⟩
    have e : rd_T32 l i = l[i] := by simp [rd_T32, List.getD, show i < l.length by omega]
    rw [arm_Encode.l0, if_pos (by omega), if_pos (by omega), if_pos (by omega), e, arm_word.f, Option.bind_some, List.drop_eq_getElem_cons (by omega)]
    show (if sw l[i] < 0 then _ else _) = _
    by_cases c : sw l[i] < 0
    · rw [if_pos c, encAll, if_pos c]; rfl
    · rw [if_neg c, Option.bind_some, if_pos (by simp; omega), show wrap64 ((i : Int) + 1) = ((i + 1 : Nat) : Int) by unfold wrap64; omega]
      have := ih (i + 1) k (acc ++ wordBytes (sw l[i])) (by omega) (by omega) (by simp [wordBytes]; omega)
      rw [show ((i + 1 : Nat) : Int) = (i : Int) + 1 by omega] at this ⊢
      refine this.trans ?_
      rw [encAll, if_neg c, Option.map_map]
      congr 3
      funext x
      simp
theorem encode_eq (l : List S32) (hl : l.length * 4 < 100000000000000) (k : Nat) (hk : l.length < k) : arm_Encode.f k l = some (encRes (encAll l)) := by
  have := encode_l0 l hl l.length 0 k [] (by omega) hk (by simp)
  unfold arm_Encode.f
  simpa using this
theorem Enc.pos {kd d a b i w : Int} (h : Enc kd d a b i w) : 335544320 ≤ w := by
  cases h with
  | three _ _ _ _ h3 hd ha hb => unfold Reg at *; have := t3_cases kd h3; omega
  | move _ _ _ _ _ _ hk => unfold Reg at *; have := mvBase_cases kd hk; omega
  | _ => (try unfold Reg at *); omega
theorem awake_true (k : Nat) : portcullislaw25_awake.f (k + 100) = some true := by
  unfold portcullislaw25_awake.f
  rw [encode_eq _ (by simp) _ (by simp), encode_eq _ (by simp) _ (by simp)]
  have e1 : encAll [⟨1, 0, 0, 0, 2⟩, ⟨3, 0, 1, 2, 0⟩, ⟨26, 0, 0, 0, 0⟩] = some [64, 0, 128, 210, 32, 0, 2, 139, 192, 3, 95, 214] := by decide +kernel
  have e2 : encAll [⟨3, 32, 0, 0, 0⟩] = none := by decide +kernel
  have e3 : Enc 3 0 1 2 0 2332164128 := (Enc.three 3 0 1 2 (by decide) (by unfold Reg; omega) (by unfold Reg; omega) (by unfold Reg; omega)).cast (by decide)
  rw [e1, e2, decode_enc e3 (k + 80), decode_none (w := 0) (fun _ _ _ _ _ h => by have := h.pos; omega) (k + 80)]
  simp only [Option.bind_some, encRes]
  rw [if_pos trivial, if_pos]
  · rfl
  · rw [Lib.strOfNums_toList]; decide
end Go.Proofs.Ythkbncoklgpobaa
