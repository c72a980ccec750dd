/- The reference's memory: Write, Put, Read; condition: the memory is held. -/
import Derived.Test.YtmgocjclopfeeaaRK4
set_option linter.unusedVariables false
set_option linter.unusedSimpArgs false
namespace Go.Proofs.Ytmgocjclopfeeaa
open Go.RowKit Go.MapKept

/-- Some bytes of a region are written over. -/
theorem RM.splice {w w' : World} {x : Nat} {ls : List RE} {sv : Value} {k : KA} (h : RM w x ls sv k) {i : Nat} {ent : RE} (hi : ls[i]? = some ent) {q : RA} (ha : ent.a = some q) {o : Nat} {s : List Nat} (hl : o + s.length ≤ q.bytes.length)
    (ho : Only ent.d w w') (hh : w'.heap[ent.d]? = some (byteCells (splice q.bytes o s))) {n : Nat} (hn : n = i + 1) : RS w' x (k.upd n fun r => { r with bytes := Go.Proofs.Ytmgocjclopfeeaa.splice r.bytes o s }) (rfoot x sv ls) ∧ Fr (rfoot x sv ls) (rfoot x sv ls) w w' := by
  subst hn
  obtain ⟨a1, a2, a3, a4, a5, a6, a7⟩ := h.apart hi
  have hupd := liveOf_upd (fun r => { r with bytes := Go.Proofs.Ytmgocjclopfeeaa.splice r.bytes o s }) ls 1 i ent { ent with a := some { q with bytes := Go.Proofs.Ytmgocjclopfeeaa.splice q.bytes o s } } q hi ha rfl
  rw [← h.lv, show 1 + i = i + 1 by omega] at hupd
  have hfoot := foot_set x sv hi (ent' := { ent with a := some { q with bytes := Go.Proofs.Ytmgocjclopfeeaa.splice q.bytes o s } }) rfl rfl
  refine ⟨⟨_, sv, h.change (k' := k.upd (i + 1) fun r => { r with bytes := Go.Proofs.Ytmgocjclopfeeaa.splice r.bytes o s }) hi { ent with a := some { q with bytes := Go.Proofs.Ytmgocjclopfeeaa.splice q.bytes o s } } rfl rfl ?_ ?_ (fun b hb => ?_) (fun b _ _ _ hb => ho.block b hb) (Nat.le_of_eq ho.size.symm) rfl hupd.symm, hfoot⟩, ?_⟩
  · rw [ho.block x (fun e => a2 e.symm)]
    simpa [KA.upd] using h.hx
  · rw [ho.block ent.r a3]
    have h0 := h.hr ent (List.mem_of_getElem? hi)
    unfold RE.cells at h0 ⊢
    rw [ha] at h0
    simp only [length_splice _ _ _ hl]
    exact h0
  · cases hb; exact hh
  · exact fr_one ho.os ho.tape ho.output (Nat.le_of_eq ho.size.symm) fun b _ hb => ho.block b (fun e => hb (by rw [e]; exact (foot_r hi).2.1))
set_option maxRecDepth 100000 in
set_option maxHeartbeats 1000000 in
theorem write_R {w : World} {x : Nat} {k k' : KA} {G : List Nat} (h : RS w x k G) (hw : WF k) {A U : Int} (a u : Nat) (hA : A = a) (hU : U = u) (h1 : a < 18446744073709551616) {n e : Int} (E : k.write a n u = (e, k')) :
    Calls Try.prog 40 #[.pointer (some ⟨x, 0, none⟩), .int .u64 A, .int .i64 n, .int .u64 U] w (RPostS x G w (.int .i64 e) k') := by
  obtain ⟨ls, sv, h2, rfl⟩ := h
  subst hU
  unfold KA.write at E
  have same : ∀ c : Int, RPostS x (rfoot x sv ls) w (.int .i64 c) k (.returned (.int .i64 c)) w := fun c => ⟨_, rfl, ⟨ls, sv, h2, rfl⟩, Fr.refl _ _⟩
  cases hs : sizedB n with
  | false =>
    rw [hs] at E
    simp only [Bool.false_eq_true, if_false] at E
    cases E
    have HP := hide (same 1)
    clear same h2 hw
    go_enter Try.func40, Try.ntmps40
    go_wp2_with (go_at_call 48; refine (wide_R n _).mono ?_; rintro e w' ⟨rfl, rfl⟩; rw [hs])
    go_ret
    exact HP.out
  | true =>
    rw [hs] at E
    simp only [if_true] at E
    have hb := sizedB_pos hs
    obtain ⟨N, rfl⟩ : ∃ N : Nat, n = N := ⟨n.toNat, by omega⟩
    have hN8 : N ≤ 8 := by omega
    have HAT := hide (at_R' (A := A) (N := N) (P := 2) h2 hw a N 2 hA rfl rfl h1 (by omega) (by omega))
    have H := hide h2
    have HW := hide hw
    have HS := hide same
    have hlo := (lo_facts a h1).2
    have hN0 : ((N : Int)).toNat = N := by omega
    rw [hN0] at E
    have hN1 : (0 : Int) ≤ N := by omega
    have hN2 : (N : Int) ≤ 8 := by omega
    clear h2 hw same hA h1 hb hN0
    go_enter Try.func40, Try.ntmps40
    go_wp2_with (go_at_call 48; refine (wide_R N _).mono ?_; rintro e w' ⟨rfl, rfl⟩; rw [hs])
    refine HAT.out.mono ?_
    rintro e1 W ⟨rfl, ⟨c, hsp, hc, rfl⟩ | ⟨i, ent, q, hli, ha, hi, hsp, hb, rfl⟩⟩
    · have hcb : (c != 0) = true := by simpa using hc
      rw [hsp] at E
      cases E
      clear hsp hc HAT H
      go_wp2
      go_ret
      exact HS.out _
    · rw [hsp] at E
      cases E
      have hrd := H.out.hr ent (List.mem_of_getElem? hli)
      have HD := hide (H.out.hd ent (List.mem_of_getElem? hli) q ha)
      have hln : 1 ≤ q.bytes.length ∧ q.bytes.length ≤ 1048576 := HW.out.ln _ (H.out.mem_live hli ha)
      obtain ⟨a1, a2, a3, a4, a5, a6, a7⟩ := H.out.apart hli
      have HR0 : Hid (∀ W, Only ent.d w W → W.cell? ⟨ent.r, 0, none⟩ = some (.slice (some ⟨ent.d, 0, none⟩) q.bytes.length q.bytes.length)) := hide fun W ho => by
        have := ho.block ent.r a3
        rw [hrd] at this
        rcases RE.reads this with ⟨ha', _, _⟩ | ⟨q', ha', r0, _, _⟩
        · rw [ha] at ha'; cases ha'
        · rw [ha] at ha'; cases ha'; exact r0
      have HSP := hide (fun W (ho : Only ent.d w W) hh => H.out.splice hli ha (o := lo32 a) (s := leBytes u N) (by rw [length_leBytes]; exact hb) ho hh hi)
      have HHI := hide hi
      clear hsp hrd hli ha hi HAT HS H HW a1 a2 a3 a4 a5 a6 a7
      generalize lo32 a = o at *
      generalize hll : q.bytes = l at *
      have HB := hide hb
      have ho0 : (0 : Int) ≤ o := by omega
      have hb1 : (o : Int) + N ≤ l.length := by omega
      have hl1 : (l.length : Int) ≤ 1048576 := by omega
      clear hb hll
      go_wp2_with fail
      go_loopw [12] (fun i wr => ∃ j : Nat, j ≤ N ∧ i = .int .i64 j ∧ Only ent.d w wr ∧ wr.heap[ent.d]? = some (byteCells (splice l o ((leBytes u N).take j)))) (fun i _ => N - (intOf i).toNat)
      case atStart => exact ⟨0, Nat.zero_le _, rfl, Only.refl _ _, by rw [HD.out]; simp [splice]⟩
      case round =>
        obtain ⟨j, hj, rfl, ho, hh⟩ := hrel
        have hr0 := HR0.out wr ho
        by_cases hlt : j < N
        · have hol := HB.out
          have hlk : ((leBytes u N).take j).length = j := by rw [List.length_take, length_leBytes]; omega
          have hlen := length_splice l o ((leBytes u N).take j) (by omega)
          have hcell := byte_reads hh (o + j) (by omega)
          have hfree := byte_free hh (o + j)
          have HB2 := hide (shr_byte u j)
          have HRR : Hid (Only ent.d w (wr.setCell ⟨ent.d, o + j, none⟩ (.int .u8 ((u / 256 ^ j % 256 : Nat) : Int))) ∧ (wr.setCell ⟨ent.d, o + j, none⟩ (.int .u8 ((u / 256 ^ j % 256 : Nat) : Int))).heap[ent.d]? = some (byteCells (splice l o ((leBytes u N).take (j + 1))))) := hide (by
            refine ⟨ho.setCell _ _, ?_⟩
            rw [heap_store_byte hh, set_splice _ _ _ _ _ hlk (by omega), List.take_succ_eq_append_getElem (by rw [length_leBytes]; omega), ← getD_leBytes u N j hlt]
            simp [List.getD_eq_getElem?_getD, List.getElem?_eq_getElem (show j < (leBytes u N).length by rw [length_leBytes]; omega)])
          have hj0 : (0 : Int) ≤ j := by omega
          have hj1 : (j : Int) < N := by omega
          clear ho hh hlk hol hlen
          generalize (splice l o ((leBytes u N).take j)).getD (o + j) 0 = qq at hcell
          go_wp2_with fail
          rw [HB2.out]
          exact ⟨⟨j + 1, by omega, by go_num, HRR.out.1, HRR.out.2⟩, by simp [intOf]; omega⟩
        · obtain rfl : j = N := by omega
          rw [List.take_of_length_le (by rw [length_leBytes]; omega)] at hh
          have HE := hide (HSP.out _ ho hh)
          clear ho hh hr0
          go_wp2
          go_ret
          exact ⟨_, rfl, HE.out.1, HE.out.2⟩
/-- copy of a text into bytes that have room. -/
theorem run_copy_room {w : World} {d o n c : Nat} {l : List Nat} (hd : w.heap[d]? = some (byteCells l)) (s : ByteArray) (hl : o + s.size ≤ l.length) (hn : s.size ≤ n) (ty : TypeId) :
    ∃ w', (Builtin.copy_ #[39, 9] ty #[.slice (some ⟨d, o, none⟩) n c, .string s]).run Try.prog w = .ok (.int .i64 s.size) w' ∧ Only d w w' ∧ w'.heap[d]? = some (byteCells (splice l o (nats s))) := by
  obtain ⟨w', h1, h2, h3⟩ := run_storeCells_bytes (P := Try.prog) (o := o) (nats s) 0 l w hd (by rw [length_nats]; omega)
  refine ⟨w', ?_, h2, h3⟩
  obtain ⟨i0, hi, hz⟩ := Option.map_eq_some_iff.1 K.infoU8
  have hcells : List.take s.size (List.map (fun b : UInt8 => Value.int IntKind.u8 (b.toNat : Int)) s.data.toList) = (nats s).map fun (x : Nat) => Value.int .u8 x := by
    rw [List.take_of_length_le (by simp)]
    simp [nats, Function.comp_def]
  have hmin : Nat.min s.size n = s.size := Nat.min_eq_left hn
  simp [Builtin.copy_, run_underlying K.undBytes, Builtin.lenOf, Builtin.firstCells, sizeOf, typeInfo, hi, Sem.run, Result.andThen, goInt, hmin, hcells, h1]
theorem or_low (v b : Nat) (hv : v < 72057594037927936) (hb : b < 256) : bits BinOp.or IntKind.u64 ((v : Int) * 256) (b : Int) = ((b + 256 * v : Nat) : Int) := by
  have ew : ((v : Int) * 256) = ((v * 256 : Nat) : Int) := by omega
  rw [ew]
  have e0 : ∀ x y : Int, bits BinOp.or IntKind.u64 x y = IntKind.u64.wrap (((BitVec.ofInt 64 x) ||| (BitVec.ofInt 64 y)).toNat : Int) := fun _ _ => rfl
  have e1 : ∀ y : Nat, y < 18446744073709551616 → (BitVec.ofInt 64 (y : Int)).toNat = y := fun y hy => by rw [BitVec.toNat_ofInt]; omega
  have e2 : v * 256 ||| b = 256 * v + b := by
    rw [Nat.mul_comm, show (256 : Nat) = 2 ^ 8 from rfl, ← Nat.two_pow_add_eq_or_of_lt (show b < 2 ^ 8 by omega)]
  rw [e0, BitVec.toNat_or, e1 _ (by omega), e1 b (by omega), e2, IntKind.wrap_u64]
  omega
theorem leNum_drop (l : List Nat) (j : Nat) (h : j < l.length) : leNum (l.drop j) = l.getD j 0 + 256 * leNum (l.drop (j + 1)) := by
  rw [List.drop_eq_getElem_cons h, leNum, List.getD_eq_getElem?_getD, List.getElem?_eq_getElem h]
  rfl
set_option maxRecDepth 100000 in
set_option maxHeartbeats 1000000 in
theorem put_R {w : World} {x : Nat} {k k' : KA} {G : List Nat} (h : RS w x k G) (hw : WF k) {A : Int} (a : Nat) (hA : A = a) (h1 : a < 18446744073709551616) (t : ByteArray) {e : Int} (E : k.put a (nats t) = (e, k')) :
    Calls Try.prog 46 #[.pointer (some ⟨x, 0, none⟩), .int .u64 A, .string t] w (RPostS x G w (.int .i64 e) k') := by
  obtain ⟨ls, sv, h2, rfl⟩ := h
  unfold KA.put at E
  rw [length_nats] at E
  have same : ∀ c : Int, RPostS x (rfoot x sv ls) w (.int .i64 c) k (.returned (.int .i64 c)) w := fun c => ⟨_, rfl, ⟨ls, sv, h2, rfl⟩, Fr.refl _ _⟩
  by_cases hn : 1048576 < t.size
  · rw [if_pos hn] at E
    cases E
    have HP := hide (same 1)
    have hn' : (1048576 : Int) < t.size := by omega
    clear same h2 hw
    go_enter Try.func46, Try.ntmps46
    go_wp2
    go_ret
    exact HP.out
  · rw [if_neg hn] at E
    have hn' : ¬ (1048576 : Int) < t.size := by omega
    have HAT := hide (at_R' (A := A) (N := t.size) (P := 0) h2 hw a t.size 0 hA rfl rfl h1 (by omega) (by omega))
    have H := hide h2
    have HW := hide hw
    have HS := hide same
    have hlo := (lo_facts a h1).2
    clear h2 hw same hA h1
    go_enter Try.func46, Try.ntmps46
    go_wp2_with fail
    refine HAT.out.mono ?_
    rintro e1 W ⟨rfl, ⟨c, hsp, hc, rfl⟩ | ⟨i, ent, q, hli, ha, hi, hsp, hb, rfl⟩⟩
    · have hcb : (c != 0) = true := by simpa using hc
      rw [hsp] at E
      cases E
      clear hsp hc HAT H
      go_wp2
      go_ret
      exact HS.out _
    · rw [hsp] at E
      cases E
      have hrd := H.out.hr ent (List.mem_of_getElem? hli)
      have HD := hide (H.out.hd ent (List.mem_of_getElem? hli) q ha)
      have hln : 1 ≤ q.bytes.length ∧ q.bytes.length ≤ 1048576 := HW.out.ln _ (H.out.mem_live hli ha)
      rcases RE.reads hrd with ⟨ha', _, _⟩ | ⟨q', ha', r0, _, _⟩
      · rw [ha] at ha'; cases ha'
      rw [ha] at ha'
      cases ha'
      have HSP := hide (fun W (ho : Only ent.d w W) hh => H.out.splice hli ha (o := lo32 a) (s := nats t) (by rw [length_nats]; exact hb) ho hh hi)
      clear hsp hrd hli ha hi HAT HS H HW
      generalize lo32 a = o at *
      generalize hll : q.bytes = l at *
      have ho0 : (0 : Int) ≤ o := by omega
      have hb1 : (o : Int) ≤ l.length := by omega
      have hl1 : (l.length : Int) ≤ 1048576 := by omega
      by_cases hz : l.length = o
      · obtain ⟨w1, hc, ho, hh⟩ := run_copy_room (o := 0) (n := 0) (c := 0) HD.out t (by omega) (by omega) 3
        have hnil : nats t = [] := by rw [← List.length_eq_zero_iff, length_nats]; omega
        have e1 : splice l 0 (nats t) = splice l o (nats t) := by rw [hnil]; simp [splice]
        rw [e1] at hh
        have HE := hide (HSP.out w1 ho hh)
        clear hh ho hnil e1 hb hll HD
        go_wp2
        all_goals first | omega | (go_ret; exact ⟨_, rfl, HE.out.1, HE.out.2⟩)
      · obtain ⟨w1, hc, ho, hh⟩ := run_copy_room (o := o) (n := l.length - o) (c := l.length - o) HD.out t (by omega) (by omega) 3
        have HE := hide (HSP.out w1 ho hh)
        clear hh ho hb hll HD
        go_wp2
        all_goals first | omega | (go_ret; exact ⟨_, rfl, HE.out.1, HE.out.2⟩)
end Go.Proofs.Ytmgocjclopfeeaa
