/- The reference's memory: Regions; condition: the memory is held. -/
import Derived.Test.YtmgocjclopfeeaaRK9
import Derived.StillTailTactics
set_option linter.unusedVariables false
set_option linter.unusedSimpArgs false
namespace Go.Proofs.Ytmgocjclopfeeaa
open Go.RowKit Go.MapKept

def rcells (l : List (Nat × RA)) : List Value := l.flatMap fun y => [Value.int .i64 (y.1 : Nat), Value.int .i64 (y.2.perm : Nat), Value.string (bstr y.2.bytes)]
theorem rcells_append (a b : List (Nat × RA)) : rcells (a ++ b) = rcells a ++ rcells b := by simp [rcells]
theorem reg_info : (Try.prog.info? 97).map (fun i => (i.zero, i.size, i.bytes)) = some (some (.agg #[.int .i64 0, .int .i64 0, .string ⟨#[]⟩]), 3, 32) := by kernel_rfl
theorem regs_und : Try.prog.underlying 59 = some (.slice 97) := by kernel_rfl
theorem liveOf_take (ls : List RE) (j : Nat) (ent : RE) (h : ls[j]? = some ent) : liveOf 1 (ls.take (j + 1)) = liveOf 1 (ls.take j) ++ (match ent.a with | some a => [(j + 1, a)] | none => []) := by
  obtain ⟨hj, rfl⟩ := List.getElem?_eq_some_iff.1 h
  rw [List.take_succ_eq_append_getElem hj, liveOf_append, List.length_take, Nat.min_eq_left (by omega), Nat.add_comm 1 j]
  cases (ls[j]).a <;> rfl
theorem liveOf_len : ∀ (ls : List RE) (s j : Nat), (liveOf s (ls.take j)).length ≤ (liveOf s ls).length
  | [], s, j => by simp [liveOf]
  | e :: l, s, 0 => by simp [liveOf]
  | e :: l, s, j + 1 => by
    rw [List.take_succ_cons, liveOf, liveOf, List.length_append, List.length_append]
    have := liveOf_len l (s + 1) j
    omega
def RegRel (w : World) (ls : List RE) (v4 v3 : Value) (wr : World) : Prop := ∃ j : Nat, j ≤ ls.length ∧ v4 = .int .i64 j ∧ wr.ownsRow w.heap.size 97 3 v3 (liveOf 1 (ls.take j)).length (rcells (liveOf 1 (ls.take j))) ∧ Fr [] [] w wr
def RegPost (w : World) (k : KA) (e : Ending) (W : World) : Prop := ∃ v, e = .returned v ∧ W.ownsRow w.heap.size 97 3 v k.live.length (rcells k.live) ∧ Fr [] [] w W
theorem fr_grown {w w1 w2 : World} {row : Option Nat} (h : Fr [] [] w w1) (g : w1.grownBy w2 row) (hr : ∀ b, row = some b → w.heap.size ≤ b) : Fr [] [] w w2 :=
  ⟨g.os.trans h.os, g.tape.trans h.tape, g.output.trans h.output, Nat.le_trans h.size g.size, fun k hk hn => by
    rw [g.block k (Nat.lt_of_lt_of_le hk h.size) (fun e => by have := hr k e.symm; omega), h.block k hk hn], fun _ hk => by simp at hk⟩
theorem own_base {w : World} {base e size n : Nat} {v : Value} {xs : List Value} (h : w.ownsRow base e size v n xs) : ∀ b, v.ownBlock = some b → base ≤ b := by
  intro b hb
  rcases h.2 with ⟨rfl, _⟩ | ⟨g, cap, cur, rfl, h1, _⟩
  · cases hb
  · cases hb; exact h1
def regO (n : Int) (a : RA) : Obj := .cells #[.int .i64 n, .int .i64 a.perm, .string (bstr a.bytes)] 97 (0, 0)
theorem regO_own {w wr : World} {v : Value} {n : Nat} {xs : List Value} (h : wr.ownsRow w.heap.size 97 3 v n xs) (o : Obj) (W : World) (hW : W.heap = (wr.alloc o).heap) : W.ownsRow w.heap.size 97 3 v n xs :=
  ownsRow_keep (h.alloc o) (fun g _ => by rw [hW])
theorem regO_new (wr : World) (o : Obj) (W : World) (hW : W.heap = (wr.alloc o).heap) : W.heap[wr.heap.size]? = some o ∧ W.heap.size = wr.heap.size + 1 := by
  rw [hW]; exact ⟨heap_alloc_new wr o, by simp⟩
theorem reg_done {w wr W3 W4 : World} {ls : List RE} {j : Nat} (hj : j < ls.length) {q : RA} {v : Value} {n g cap : Nat} (hn : n = (liveOf 1 (ls.take j)).length) (hf : Fr [] [] w wr) (ho : wr.ownsRow w.heap.size 97 3 v n (rcells (liveOf 1 (ls.take j)))) (hT : liveOf 1 (ls.take (j + 1)) = liveOf 1 (ls.take j) ++ [(j + 1, q)])
    (h1 : W3.heap = (wr.alloc (regO ((j : Int) + 1) q)).heap) (h2 : W3.os = wr.os) (h3 : W3.tape = wr.tape) (h4 : W3.output = wr.output)
    (hown : W4.ownsRow w.heap.size 97 3 (.slice (some ⟨g, 0, none⟩) (n + 1) cap) (n + 1) (rcells (liveOf 1 (ls.take j)) ++ [.int .i64 ((j : Int) + 1), .int .i64 q.perm, .string (bstr q.bytes)])) (hgrow : W3.grownBy W4 v.ownBlock) :
    RegRel w ls (.int .i64 ((j : Int) + 1)) (.slice (some ⟨g, 0, none⟩) (n + 1) cap) W4 := by
  subst hn
  refine ⟨j + 1, by omega, by simp, ?_, ?_⟩
  · rw [hT, List.length_append, rcells_append]
    exact hown
  · have hf3 : Fr [] [] w W3 := by
      have := (Fr.refl [] wr).alloc (regO ((j : Int) + 1) q)
      have hfa := hf.trans this
      exact ⟨h2.trans hf.os, h3.trans hf.tape, h4.trans hf.output, by rw [h1]; exact hfa.size, fun k hk hn => by rw [h1]; exact hfa.block k hk hn, fun _ hk => by simp at hk⟩
    exact fr_grown hf3 hgrow (fun b hb => own_base ho b hb)
set_option maxRecDepth 100000 in
set_option maxHeartbeats 8000000 in
theorem regions_R {w : World} {x : Nat} {ls : List RE} {sv : Value} {k : KA} (h : RM w x ls sv k) (hw : WF k) :
    Calls Try.prog 24 #[.pointer (some ⟨x, 0, none⟩)] w (RegPost w k) := by
  obtain ⟨i0, hi, hz0, hz1, hz2⟩ := info_parts reg_info
  have hneq := rk_neqn
  have hn32 : ls.length < 4294967296 := by rw [← h.md]; exact hw.mx
  have H := hide h
  have HW := hide hw
  have HLV := hide (fun j => liveOf_len ls 1 j)
  have hlv : k.live.length ≤ 4096 := hw.lv
  have HKL := hide h.lv
  clear h hw
  go_enter Try.func24, Try.ntmps24
  go_wp2_with fail
  go_loopw [4, 3] (fun v4 v3 wr => RegRel w ls v4 v3 wr) (fun v _ _ => ls.length - (intOf v).toNat)
  case atStart => exact ⟨0, by omega, rfl, World.ownsRow_nil _ _ _ _, Fr.refl _ _⟩
  case round =>
    obtain ⟨j, hj, rfl, ho, hf⟩ := hrel
    have HO := hide ho
    have HF := hide hf
    have hm := H.out.frame (w' := wr) (fun b hb => hf.block b (H.out.lt b hb) (by simp)) hf.size
    obtain ⟨A, cap, hsv, hel⟩ := hm.form
    obtain ⟨c0, -, -, -⟩ := hm.cells
    rw [hsv] at c0
    clear ho hf
    by_cases hlt : j < ls.length
    · obtain ⟨ent, hli⟩ : ∃ ent, ls[j]? = some ent := ⟨ls[j], List.getElem?_eq_getElem hlt⟩
      obtain ⟨g, rfl, hc⟩ := hel j ent hli
      have hrd := hm.hr ent (List.mem_of_getElem? hli)
      have hj0 : (0 : Int) ≤ j := by omega
      have hj1 : (j : Int) < ls.length := by omega
      have HTK := hide (liveOf_take ls j ent hli)
      rcases RE.reads hrd with ⟨ha, r0, r2⟩ | ⟨q, ha, r0, r1, r2⟩
      · have HS : Hid (RegRel w ls (.int .i64 ((j : Int) + 1)) u3 wr) := hide ⟨j + 1, by omega, by simp, by rw [HTK.out, ha, List.append_nil]; exact HO.out, HF.out⟩
        clear hm hel hsv hli hrd ha H
        go_wp2
        exact ⟨HS.out, by show ls.length - ((j : Int) + 1).toNat < ls.length - ((j : Int)).toNat; omega⟩
      · have hln : 1 ≤ q.bytes.length ∧ q.bytes.length ≤ 1048576 := HW.out.ln _ (hm.mem_live hli ha)
        have hd := hm.hd ent (List.mem_of_getElem? hli) q ha
        have hv : ∀ W c, W.heap = wr.heap → (convert 39 9 (.slice (some ⟨ent.d, 0, none⟩) q.bytes.length c)).run Try.prog W = .ok (.string (bstr q.bytes)) W := fun W c hW => run_bytes q.bytes rfl (fun i hi => by
          have := byte_reads (w := W) (by rw [hW]; exact hd) i hi
          simpa using this)
        have hv1 := fun c => hv wr c rfl
        have hv2 := fun c => hv wr.drew c rfl
        have hv4 := fun c t d o u => hv ({ heap := wr.heap, tape := t, drawn := d, os := o, output := u } : World) c rfl
        clear hv
        have hlen : (liveOf 1 (ls.take j)).length ≤ 4096 := by have := HLV.out j; rw [← HKL.out] at this; omega
        have HLEN := hide hlen
        have HOD := hide (regO_own HO.out (regO ((j : Int) + 1) q))
        have HNB := hide (regO_new wr (regO ((j : Int) + 1) q))
        have hTK := HTK.out
        rw [ha] at hTK
        have HDN := hide (fun W3 W4 g cap' a b c d e f => reg_done (W3 := W3) (W4 := W4) (g := g) (cap := cap') hlt rfl HF.out HO.out hTK a b c d e f)
        unfold regO at HOD HNB HDN
        clear hTK
        clear hm hel hsv hli hrd ha H hd hlen
        go_wp2_with fail
        have hlw : IntKind.i64.wrap ((j : Int) + 1) = (j : Int) + 1 := by rw [IntKind.wrap_i64]; omega
        go_region_law (refine step_append_lies _ rfl (.tmp 25) (.tmp 50) 59 rfl w.heap.size 97 i0 _ 3 32 regs_und hi hz0 hz1 hz2 rfl (by decide) u3 (liveOf 1 (ls.take j)).length (rcells (liveOf 1 (ls.take j))) (by simp [Act.eval, Act.put]) (by refine HOD.out _ ?_; rfl) ⟨wr.heap.size, 0, none⟩ 1 1 [.int .i64 ((j : Int) + 1), .int .i64 q.perm, .string (bstr q.bytes)] (by simp [Act.eval, Act.put]) rfl (by refine World.news_of_block (HNB.out _ ?_).1; rfl) (by simp [Value.oneCell']) (by decide) (by have := HLEN.out; unfold maxLen; omega) (by have := HLEN.out; omega) (by refine Nat.le_trans HF.out.size (Nat.le_trans (Nat.le_succ _) (Nat.le_of_eq (HNB.out _ ?_).2.symm)); rfl) (wr.heap.size + 1) (by refine (HNB.out _ ?_).2; rfl) ?_; intro g cap' w4 hown hgrow hat hlt; have HD := hide (HDN.out _ _ _ _ (by rfl) (by rfl) (by rfl) (by rfl) hown hgrow); clear hown hgrow hat hlt)
        all_goals
          go_wp2
          exact ⟨HD.out, by show ls.length - ((j : Int) + 1).toNat < ls.length - ((j : Int)).toNat; omega⟩
    · obtain rfl : j = ls.length := by omega
      have HP : Hid (RegPost w k (.returned u3) wr) := hide ⟨u3, rfl, by have := HO.out; rw [List.take_length, ← HKL.out] at this; exact this, HF.out⟩
      clear hm hel H
      go_wp2
      go_ret
      exact HP.out
end Go.Proofs.Ytmgocjclopfeeaa
