/- Several texts of this claim in one: each is told where it begins. -/
import Derived.Test.YtpahjllcomejbaaReadAll
import Derived.Test.YtpahjllcomejbaaProg
import Derived.Below
import Derived.Deep.Draws
import Derived.Deep.AppendLies
import Derived.Maps.AppendAt
import Derived.OwnWalk
import Derived.Laws.BytesArg
import Derived.Laws.MakeOwn
import Derived.Laws.OwnMore
import Derived.Deep.OwnRows
import Derived.Tactics
import Derived.Lib.ConvBytes
import Derived.Laws.Slices
import Derived.WalkKit
import Derived.KernelRfl
import Derived.RowKit3
import Derived.Deep.LoopGhost
import Derived.Deep.QuietTactic
import Derived.BigQuiet
import Derived.WideLaws
import Derived.Deep.DeepCutAuto
import Derived.Deep.CutBlock
import Derived.Deep.RegionHeld3
import Derived.Laws.Rows
import Derived.Lib.AppendStr
import Derived.ArgAppend
import Derived.Laws.IdiomCopy
import Derived.OrdersHeld
import Derived.Laws.BitsLemmas
import Derived.RowKit
import Derived.Test.YtpahjllcomejbaaWWords
import Derived.Test.YtpahjllcomejbaaWEqStruct
import Derived.Test.YtpahjllcomejbaaWMore
/- What was encoded is decoded as it was: Decode at an instruction's place; condition: the bytes lie in the text. -/
set_option linter.unusedVariables false
set_option linter.unusedSimpArgs false
namespace Go.Proofs.Ytpahjllcomejbaa
open Go.RowKit Go.MapKept
open Go.Proofs.YtpahjllcomejbaaW.PrintWords Go.Proofs.YtpahjllcomejbaaW.PrintLast Go.Proofs.YtpahjllcomejbaaW.PrintMore
open PX86Encodes (S32)

def ByteL (l : List Int) : Prop := ∀ b ∈ l, 0 ≤ b ∧ b < 256
theorem ByteL.append {a b : List Int} (h1 : ByteL a) (h2 : ByteL b) : ByteL (a ++ b) := fun c hc => (List.mem_append.1 hc).elim (h1 c) (h2 c)
theorem ByteL.cons {a : Int} {b : List Int} (h1 : 0 ≤ a ∧ a < 256) (h2 : ByteL b) : ByteL (a :: b) := fun c hc => by
  rcases List.mem_cons.1 hc with rfl | hc
  · exact h1
  · exact h2 c hc
theorem ByteL.nil : ByteL [] := fun c hc => by simp at hc
theorem b_rex (w : Bool) (p q : Int) : 0 ≤ rexB w p q ∧ rexB w p q < 256 := by unfold rexB; cases w <;> simp <;> omega
theorem b_dir (p q : Int) : 0 ≤ dirB p q ∧ dirB p q < 256 := by unfold dirB; omega
theorem b_b4 (n : Int) : ByteL (b4 n) := .cons (by omega) (.cons (by omega) (.cons (by omega) (.cons (by omega) .nil)))
theorem b_leB (n : Int) (m : Nat) : ByteL (leB n m) := fun c hc => by
  obtain ⟨j, _, rfl⟩ := List.mem_map.1 hc
  omega
theorem b_mem (p q n : Int) : ByteL (memB p q n) := by
  unfold memB
  refine ((ByteL.cons (by omega) .nil).append ?_).append (b_b4 n)
  split
  · exact .cons (by decide) .nil
  · exact .nil
theorem b_two (kd : Int) : 0 ≤ twoB kd ∧ twoB kd < 256 := by unfold twoB; (repeat' split) <;> decide
theorem b_one (kd : Int) : 0 ≤ (oneB kd).1 ∧ (oneB kd).1 < 256 := by unfold oneB; (repeat' split) <;> decide
theorem b_reads (n : Int) (g : Bool) : ByteL (readsB n g).2 := by
  unfold readsB
  (repeat' split) <;> first | exact .nil | exact .cons (by decide) .nil | exact .cons (by decide) (.cons (by decide) .nil)
theorem b_store (d t n i : Int) : ByteL (storeB d t n i) := by
  unfold storeB
  refine (((ByteL.append ?_ (.cons (b_rex _ _ _) .nil)).append ?_).append (b_mem _ _ _))
  · split
    · exact .cons (by decide) .nil
    · exact .nil
  · split
    · exact .cons (by decide) .nil
    · exact .cons (by decide) .nil
theorem ite_b {c : Prop} [Decidable c] {a b : List Int × Bool} (ha : ByteL a.1) (hb : ByteL b.1) : ByteL (if c then a else b).1 := by split <;> assumption
theorem layS_bytes (kd d s n i wd : Int) : ByteL (layS kd d s n i wd).1 := by
  unfold layS
  refine ite_b (.cons (b_rex _ _ _) (.cons (b_two _) (.cons (b_dir _ _) .nil))) ?_
  refine ite_b (.cons (b_rex _ _ _) (.cons (b_one _) (.cons (b_dir _ _) .nil))) ?_
  refine ite_b (((ByteL.cons (b_rex _ _ _) .nil).append (b_reads _ _)).append (b_mem _ _ _)) ?_
  refine ite_b (((ByteL.cons (b_rex _ _ _) .nil).append (b_reads _ _)).append (b_mem _ _ _)) ?_
  refine ite_b (((ByteL.cons (b_rex _ _ _) .nil).append (b_reads _ _)).append (.cons (b_dir _ _) .nil)) ?_
  refine ite_b (((ByteL.cons (b_rex _ _ _) .nil).append (b_reads _ _)).append (.cons (b_dir _ _) .nil)) ?_
  refine ite_b (b_store _ _ _ _) ?_
  refine ite_b ((ByteL.cons (b_rex _ _ _) (.cons (by omega) .nil)).append (b_leB _ _)) ?_
  refine ite_b (.cons (b_rex _ _ _) (.cons (by decide) (.cons (by decide) (.cons (b_dir _ _) .nil)))) ?_
  refine ite_b (.cons (by decide) (.cons (by decide) .nil)) ?_
  refine ite_b ((ByteL.cons (by decide) .nil).append (b_b4 _)) ?_
  refine ite_b ((ByteL.cons (by decide) (.cons (by omega) .nil)).append (b_b4 _)) ?_
  refine ite_b (.cons (b_rex _ _ _) (.cons (by omega) .nil)) ?_
  refine ite_b (.cons (b_rex _ _ _) (.cons (by omega) .nil)) ?_
  refine ite_b (.cons (b_rex _ _ _) (.cons (by decide) (.cons (by omega) .nil))) ?_
  refine ite_b (.cons (by decide) (.cons (by decide) .nil)) ?_
  exact ite_b (.cons (by decide) .nil) .nil
theorem ite_ne {c : Prop} [Decidable c] {a b : List Int × Bool} (ha : a.2 = false → a.1 ≠ []) (hb : b.2 = false → b.1 ≠ []) : (if c then a else b).2 = false → (if c then a else b).1 ≠ [] := by split <;> assumption
theorem layS_ne (kd d s n i wd : Int) : (layS kd d s n i wd).2 = false → (layS kd d s n i wd).1 ≠ [] := by
  unfold layS
  repeat' (refine ite_ne ?_ ?_)
  all_goals first
    | (intro _; simp; done)
    | (intro _; simp [storeB]; done)
    | (intro h; simp at h; done)
theorem bt_str (l : List Int) (hl : ByteL l) (i : Nat) (hi : i < l.length) : bt (strOfNums l) i = l.getD i 0 := by
  have h1 : ((i : Int)).toNat < (strOfNums l).size := by rw [strOfNums_size]; simpa using hi
  have hb := hl l[i] (List.getElem_mem hi)
  unfold bt
  rw [dif_pos h1]
  have e : (strOfNums l)[((i : Int)).toNat]'h1 = UInt8.ofNat (l[i]).toNat := by
    simp [strOfNums, ByteArray.getElem_eq_getElem_data]
  rw [e, List.getD_eq_getElem?_getD, List.getElem?_eq_getElem hi]
  simp
  omega
theorem at_str (pre bs rest : List Int) (hl : ByteL (pre ++ bs ++ rest)) : At (strOfNums (pre ++ bs ++ rest)) pre.length bs := by
  refine ⟨by omega, by rw [strOfNums_size]; simp; omega, fun i hi => ?_⟩
  have := bt_str _ hl (pre.length + i) (by simp; omega)
  rw [show ((pre.length : Int) + (i : Int)) = ((pre.length + i : Nat) : Int) by omega, this]
  simp only [List.getD_eq_getElem?_getD]
  rw [List.append_assoc, List.getElem?_append_right (by omega), Nat.add_sub_cancel_left, List.getElem?_append_left hi]
theorem ext_str (pre bs rest : List Int) : (strOfNums (pre ++ bs ++ rest)).extract pre.length (pre.length + bs.length) = strOfNums bs := by
  apply ByteArray.ext
  simp only [strOfNums, ByteArray.data_extract]
  apply Array.ext'
  simp
theorem encX_one (x : S32) (h : goodX x = true) : encX [x] = some (layX x).1 := by
  rw [encX, if_pos h]; simp [encX]
theorem good_bare (x : S32) (h : goodX x = true) : (layX x).2 = false ∧ bareS x.f0 x.f1 x.f2 x.f3 x.f4 x.f5 = (x.f0, x.f1, x.f2, x.f3, x.f4, x.f5) := by
  unfold goodX at h
  simp only [Bool.and_eq_true, Bool.not_eq_true'] at h
  exact ⟨h.1, ((sameX_iff _ _).1 h.2).symm⟩
/-- Decode at an instruction's place. -/
theorem dec_good (x : S32) (hg : goodX x = true) (h5 : 0 ≤ x.f5 ∧ x.f5 < 18446744073709551616) (pre rest : List Int) (hl : ByteL (pre ++ (layX x).1 ++ rest)) (hn : (layX x).1 ≠ []) (hs : (pre ++ (layX x).1 ++ rest).length ≤ 9223372036854775807) (w : World) :
    Calls Try.prog 9 #[.string (strOfNums (pre ++ (layX x).1 ++ rest)), .int .i64 pre.length] w (DecPost w (sx x, (((layX x).1.length : Nat) : Int), 0)) := by
  have hsz : (strOfNums (pre ++ (layX x).1 ++ rest)).size = (pre ++ (layX x).1 ++ rest).length := strOfNums_size _
  have hpos : 0 < (layX x).1.length := List.length_pos_iff.2 hn
  obtain ⟨g1, g2⟩ := good_bare x hg
  have hat := at_str pre ((layX x).1 ++ rest) [] (by simpa using hl)
  rw [List.append_nil, ← List.append_assoc] at hat
  have hr := read_all (s := strOfNums (pre ++ (layX x).1 ++ rest)) (by rw [hsz]; exact hs) 20 (by omega) x.f0 x.f1 x.f2 x.f3 x.f4 x.f5 g2 g1 h5 pre.length rest hat
  have hd := decode_calls 20 (strOfNums (pre ++ (layX x).1 ++ rest)) pre.length (pre.length + ((layX x).1.length : Nat)) false x.f0 x.f1 x.f2 x.f3 x.f4 x.f5 w (by rw [hsz]; exact hs) ⟨by omega, by rw [hsz]; simp; omega⟩ hr (fun _ => ⟨by omega, by rw [hsz]; simp; omega⟩) h5
  have he : decE (strOfNums (pre ++ (layX x).1 ++ rest)) pre.length x (pre.length + ((layX x).1.length : Nat)) false = (sx x, (((layX x).1.length : Nat) : Int), 0) := by
    unfold decE
    have e1 : encR (encX [x]) = (strOfNums (layX x).1, 0) := by rw [encX_one x hg]; rfl
    have e2 : ((pre.length : Int) + ((layX x).1.length : Nat)).toNat = pre.length + (layX x).1.length := by omega
    have e3 : ((pre.length : Int)).toNat = pre.length := by omega
    rw [e1, e2, e3, ext_str, if_pos ⟨rfl, rfl, rfl⟩, Nat.add_sub_cancel_left]
  rw [← he]
  exact hd
end Go.Proofs.Ytpahjllcomejbaa

-- written by a program of this session: a changed copy of the print
namespace Go.Proofs.Ytpahjllcomejbaa.QRef
open Go.RowKit Go.Proofs.YtpahjllcomejbaaW.PrintWords Go.Proofs.YtpahjllcomejbaaW.PrintLast Go.Proofs.YtpahjllcomejbaaW.PrintMore
attribute [local go_sem] max2_int min2_int max_two min_two max_three min_three max_four min_four   -- for this text's walks alone
set_option linter.unusedVariables false
set_option linter.unusedSimpArgs false

def errW : Option Int → Value
 | none => .nilIface
 | some c => .iface 0 (.int .i64 c)
theorem errW_none : errW none = .nilIface := rfl
theorem errW_some (c : Int) : errW (some c) = .iface 0 (.int .i64 c) := rfl

theorem info5 : (Try.prog.info? 5).map (fun i => (i.zero, i.size, i.bytes)) = some (some (.int .u8 0), 1, 1) := by kernel_rfl
-- the values' own types

end Go.Proofs.Ytpahjllcomejbaa.QRef
