/- Contract of flat's New where an allocation fails: what was made before is freed again; conditions: the spec may be, the memory is held. -/
import Derived.Test.YtmgocjclopfeeaaFNew
set_option linter.unusedVariables false
set_option linter.unusedSimpArgs false
namespace Go.Proofs.Ytmgocjclopfeeaa
open Go.RowKit Go.MapKept
open Go.ChangeMaps (setBlock)

def boxK (kd : Int) (v n : Nat) : Obj := .cells #[.int .i64 kd, .int .i64 4, .int .i64 v, .int .i64 n] 29 (0, 0)
def NWK (w : World) (m : Nat) (kd : Int) (v n : Nat) (F : List Nat) (A : Nat → KA) (ad : Nat → Nat) (j : Nat) (l : Value) (wr : World) : Prop :=
  ∃ F', KS wr m (A j) F' ∧ Fr F F' w wr ∧ wr.ownsRow 0 33 1 l j ((List.range j).map fun i => Value.int .u64 (ad i)) ∧ (∀ g, l.ownBlock = some g → w.heap.size < g ∧ g ∉ F') ∧ wr.heap[w.heap.size]? = some (boxK kd v n) ∧ w.heap.size ∉ F'
theorem boxK_cells {W : World} {b v n : Nat} {kd : Int} (h : W.heap[b]? = some (boxK kd v n)) : W.cell? ⟨b, 0, none⟩ = some (.int .i64 kd) ∧ W.cell? ⟨b, 1, none⟩ = some (.int .i64 4) ∧ W.cell? ⟨b, 2, none⟩ = some (.int .i64 v) ∧ W.cell? ⟨b, 3, none⟩ = some (.int .i64 n) := by
  simp [World.cell?, h, boxK]
theorem boxK_new (W : World) (kd : Int) (v n : Nat) : (W.alloc (.cells #[.int .i64 kd, .int .i64 4, .int .i64 v, .int .i64 n] 29)).heap[W.heap.size]? = some (boxK kd v n) := heap_alloc_new _ _
theorem own_form1 {w : World} {base : Nat} {v : Value} {L : List Nat} (h : w.ownsRow base 33 1 v L.length (L.map fun (a : Nat) => Value.int .u64 a)) : ∃ A cap, v = .slice A L.length cap ∧ ∀ (i a : Nat), L[i]? = some a → ∃ g, A = some ⟨g, 0, none⟩ ∧ v.ownBlock = some g ∧ w.cell? ⟨g, i, none⟩ = some (.int .u64 a) := by
  have hcell : ∀ g, v.ownBlock = some g → ∀ (i a : Nat), L[i]? = some a → w.cell? ⟨g, i, none⟩ = some (.int .u64 a) := fun g hg i a hi => by
    have := h.cells (g := g) hg i (.int .u64 a) (by simp [hi])
    rwa [show (⟨g, 0, none⟩ : Addr).add i = ⟨g, i, none⟩ by unfold Addr.add; split <;> simp_all] at this
  rcases h.2 with ⟨h1, h2⟩ | ⟨g, cap, cur, hv, _⟩
  · refine ⟨none, 0, by rw [h1, h2], fun i a hi => ?_⟩
    have := (List.getElem?_eq_some_iff.1 hi).1
    omega
  · exact ⟨some ⟨g, 0, none⟩, cap, hv, fun i a hi => ⟨g, rfl, by rw [hv]; rfl, hcell g (by rw [hv]; rfl) i a hi⟩⟩
theorem own_form_range {w : World} {v : Value} {j : Nat} {ad : Nat → Nat} (h : w.ownsRow 0 33 1 v j ((List.range j).map fun i => Value.int .u64 (ad i))) : ∃ A cap, v = .slice A j cap ∧ ∀ (i a : Nat), ((List.range j).map ad)[i]? = some a → ∃ g, A = some ⟨g, 0, none⟩ ∧ v.ownBlock = some g ∧ w.cell? ⟨g, i, none⟩ = some (.int .u64 a) := by
  have e1 : ((List.range j).map ad).length = j := by simp
  have e2 : ((List.range j).map ad).map (fun (a : Nat) => Value.int .u64 a) = (List.range j).map fun i => Value.int .u64 (ad i) := by rw [List.map_map]; rfl
  have := own_form1 (L := (List.range j).map ad) (by rw [e1, e2]; exact h)
  rwa [e1] at this
def NFPost (w : World) (m : Nat) (F : List Nat) (e : Int) (l : List Nat) (k : KA) (en : Ending) (w' : World) : Prop := ∃ F', en = .returned (.tuple #[.pointer none, .int .i64 e]) ∧ KS w' m (ffrees l k) F' ∧ Fr F F' w w'
set_option maxRecDepth 100000 in
set_option maxHeartbeats 4000000 in
theorem fnew_fail {w : World} {m v n N cpus J : Nat} {kd : Int} {F : List Nat} (A : Nat → KA) (ad : Nat → Nat) (a' : Nat) (er : Int) (kf : KA) (hk : KS w m (A 0) F) (hN : (kd = 2 ∧ N = 1) ∨ (kd = 6 ∧ N = cpus)) (hc : 1 ≤ cpus ∧ cpus ≤ 8) (hv : 1 ≤ v ∧ v ≤ 4096) (hn : 1 ≤ n ∧ n ≤ 4096) (hs : n * fwide v ≤ 1048576)
    (hJ : J < N) (hm : ∀ j, j < N → (A j).made + 1 < 4294967296) (ha : ∀ j, j < J → (A j).alloc (n * fwide v : Nat) 3 = (ad j, 0, A (j + 1))) (he : (A J).alloc (n * fwide v : Nat) 3 = (a', er, kf)) (her : er ≠ 0) (hal : ∀ a ∈ (List.range J).map ad, a < 9223372036854775808) :
    Calls Try.prog 9 #[.pointer (some ⟨m, 0, none⟩), .agg #[.int .i64 kd, .int .i64 4, .int .i64 v, .int .i64 n], .int .i64 cpus] w (NFPost w m F er ((List.range J).map ad) kf) := by
  have hw8 := wide_calls v hv.2
  have HW := fun w => hide (hw8 w)
  have hb1 : (1 : Int) ≤ v := by omega
  have hb2 : (v : Int) ≤ 4096 := by omega
  have hb3 : (1 : Int) ≤ n := by omega
  have hb4 : (n : Int) ≤ 4096 := by omega
  have hfw := fwide_le v hv.2
  have hp : ((n : Int) * (fwide v : Nat)) ≤ 1048576 := by rw [← Int.natCast_mul]; omega
  have HA : ∀ j, j < J → ∀ W z F, KS W m (A j) F → z = ((n * fwide v : Nat) : Int) → Hid (Calls Try.prog 26 #[.pointer (some ⟨m, 0, none⟩), .int .i64 z, .int .i64 3] W (KPostS m F W (.tuple #[.int .u64 (ad j), .int .i64 0]) (A (j + 1)))) := fun j hj W z F hW hz =>
    hide (by subst hz; exact alloc_S hW (hm j (by omega)) (ha j hj))
  have HB : ∀ W z F, KS W m (A J) F → z = ((n * fwide v : Nat) : Int) → Hid (Calls Try.prog 26 #[.pointer (some ⟨m, 0, none⟩), .int .i64 z, .int .i64 3] W (KPostS m F W (.tuple #[.int .u64 a', .int .i64 er]) kf)) := fun W z F hW hz =>
    hide (by subst hz; exact alloc_S hW (hm J hJ) he)
  have hp1 : wrap64 ((n : Int) * (fwide v : Nat)) = ((n * fwide v : Nat) : Int) := by rw [Int.natCast_mul]; unfold wrap64; omega
  have hp2 : IntKind.i64.wrap ((n : Int) * (fwide v : Nat)) = ((n * fwide v : Nat) : Int) := by rw [IntWalk.i64_left]; exact hp1
  have hp1 := hide hp1
  have hp2 := hide hp2
  have HAL := hide hal
  have heb : (er != 0) = true := by simpa using her
  obtain ⟨hc1, hc2⟩ := hc
  have hc1' : (1 : Int) ≤ cpus := by omega
  have hc2' : (cpus : Int) ≤ 8 := by omega
  have hN8 : N ≤ 8 := by omega
  clear hw8 hm ha hal he her
  obtain ⟨i0, hi, hz0, hz1, hz2⟩ := info_parts K.info64
  have hst := boxK_new w kd v n
  have H0 := hide (show ∀ q, NWK w m kd v n F A ad 0 (.slice none 0 0) ((w.alloc (.cells #[.int .i64 kd, .int .i64 4, .int .i64 v, .int .i64 n] 29)).drewN q) from fun q => ⟨F, (hk.alloc _).drewN _, ((Fr.refl F w).alloc _).drewN _, World.ownsRow_nil _ _ _ _, (fun g hg => by cases hg), hst, fun hf => Nat.lt_irrefl _ (hk.lt _ hf)⟩)
  clear hk hst
  rcases hN with ⟨rfl, rfl⟩ | ⟨rfl, rfl⟩
  · go_enter Try.func9, Try.ntmps9
    go_wp2_with fail
    go_quiet ((go_at_call 25; exact Calls.quiet_of_same ((HW _).out.mono (fun e w' h => ⟨h.1, h.2.symm⟩))))
    go_wp2_with fail
    go_loopw [10, 70] (fun l i wr => ∃ j : Nat, j ≤ J ∧ i = .int .i64 j ∧ NWK w m 2 v n F A ad j l wr) (fun _ i _ => J + 1 - (intOf i).toNat)
    case atStart => exact ⟨0, Nat.zero_le _, rfl, H0.out _⟩
    case round =>
      obtain ⟨j, hj, rfl, F1, hk1, f1, o1, nb1, hst1, hni⟩ := hrel
      have hjn : (j : Int) < 1 := by omega
      clear H0
      have hlt : ¬ j < J := by omega
      · obtain rfl : j = J := by omega
        obtain ⟨c0, c1, c2, c3⟩ := boxK_cells hst1
        obtain ⟨A', cap, hsv, hA'⟩ := own_form_range o1
        clear HA
        go_wp2_with fail
        go_region_with (first | (go_at_call 25; refine (HW _).out.mono ?_; rintro e w' ⟨rfl, rfl⟩) | (go_at_call 26; refine (HB _ _ F1 ?_ ?_).out.mono ?_; (first | exact hk1 | exact hk1.drew | exact hk1.drewN _); (first | exact (Int.natCast_mul _ _).symm | exact hp1.out | exact hp2.out); rintro e w2 ⟨F2, rfl, hk2, f2⟩))
        all_goals
          have hf2 : Fr F F2 w w2 := by first | exact f1.trans f2 | exact f1.drew.trans f2 | exact (f1.drewN _).trans f2
          have HC : Hid (∀ W F3 (i a : Nat), Fr F2 F3 w2 W → ((List.range j).map ad)[i]? = some a → ∃ g, A' = some ⟨g, 0, none⟩ ∧ W.cell? ⟨g, i, none⟩ = some (.int .u64 a)) := hide fun W F3 i a hfw hia => by
            obtain ⟨g, e1, e2, e3⟩ := hA' i a hia
            have hg2 := nb1 g e2
            have hgl := ownsRow_lt o1 g e2
            have hsz := f2.size
            refine ⟨g, e1, ?_⟩
            rw [← e3]
            simp only [World.cell?]
            rw [hfw.block g (Nat.lt_of_lt_of_le hgl hsz) (f2.notin hgl hg2.2), show w2.heap[g]? = wr.heap[g]? from f2.block g hgl hg2.2]
          have HK2 := hide hk2
          have HF2 := hide hf2
          have hrl : ((List.range j).map ad).length = j := by simp
          have HRL := hide hrl
          obtain ⟨L, hL⟩ : ∃ L, L = (List.range j).map ad := ⟨_, rfl⟩
          rw [← hL] at HC HRL HAL
          have HLL := hide hL
          clear hL
          subst hsv
          clear hA' o1 nb1 hk1 f1 f2 hst1 hni c0 c1 c2 c3 hk2 hf2 hrl
          go_wp2_with fail
          go_loopw [87] (fun iv wr' => ∃ (c : Nat) (F3 : List Nat), c ≤ j ∧ iv = .int .i64 c ∧ KS wr' m (ffrees (L.take c) kf) F3 ∧ Fr F2 F3 w2 wr') (fun iv _ => j - (intOf iv).toNat)
          case atStart => exact ⟨0, F2, Nat.zero_le _, rfl, HK2.out, Fr.refl _ _⟩
          case round =>
            obtain ⟨c, F3, hc, rfl, hk3, f3⟩ := hrel
            by_cases hlc : c < j
            · obtain ⟨a3, ha3⟩ : ∃ a3, L[c]? = some a3 := ⟨L[c]'(by rw [HRL.out]; exact hlc), List.getElem?_eq_getElem _⟩
              obtain ⟨g, rfl, hcell⟩ := HC.out _ F3 c a3 f3 ha3
              have hli : (c : Int) < j := by omega
              have hadc : a3 < 18446744073709551616 := by have := HAL.out a3 (List.mem_of_getElem? ha3); omega
              have HT := hide (ffrees_step ha3 kf)
              have HS := hide hk3
              have HF := hide f3
              obtain ⟨kq, hkq⟩ : ∃ kq, kq = ffrees (L.take c) kf := ⟨_, rfl⟩
              obtain ⟨n3, hn3⟩ : ∃ n, n = (kq.free a3).1 := ⟨_, rfl⟩
              obtain ⟨k3, hk4⟩ : ∃ n, n = (kq.free a3).2 := ⟨_, rfl⟩
              rw [← hkq] at HS HT
              rw [← hk4] at HT
              have HP : Hid (Calls Try.prog 27 #[.pointer (some ⟨m, 0, none⟩), .int .u64 (a3 : Nat)] wr (KPostS m F3 wr (.int .i64 n3) k3)) := hide (free_S HS.out rfl hadc (by rw [hn3, hk4]))
              have HE : Hid (∀ W F4, KS W m k3 F4 → Fr F3 F4 wr W → ∃ (c' : Nat) (F3 : List Nat), c' ≤ j ∧ Value.int .i64 ((c : Int) + 1) = .int .i64 c' ∧ KS W m (ffrees (L.take c') kf) F3 ∧ Fr F2 F3 w2 W) := hide fun W F4 hr hf3 =>
                ⟨c + 1, F4, by omega, by simp, by rw [HT.out]; exact hr, HF.out.trans hf3⟩
              clear hk3 f3 HT HS HF hkq hn3 hk4 ha3 HC
              go_wp2_with fail
              refine HP.out.mono ?_
              rintro e w3 ⟨F4, rfl, hr3, hf3⟩
              have HN := hide (HE.out w3 F4 hr3 hf3)
              clear hr3 hf3
              go_wp2
              exact ⟨HN.out, by show j - ((c : Int) + 1).toNat < j - ((c : Int)).toNat; omega⟩
            · have hcl : c = j := by omega
              have HE : Hid (NFPost w m F er ((List.range j).map ad) kf (.returned (.tuple #[.pointer none, .int .i64 er])) wr) := hide (by rw [← HLL.out]; exact ⟨F3, rfl, by rw [List.take_of_length_le (by rw [HRL.out]; omega)] at hk3; exact hk3, HF2.out.trans f3⟩)
              have hni : ¬ (c : Int) < j := by omega
              clear hk3 f3 HC
              go_wp2
              go_ret2
              exact HE.out
  · go_enter Try.func9, Try.ntmps9
    go_wp2_with fail
    go_quiet ((go_at_call 25; exact Calls.quiet_of_same ((HW _).out.mono (fun e w' h => ⟨h.1, h.2.symm⟩))))
    go_wp2_with fail
    go_loopw [10, 70] (fun l i wr => ∃ j : Nat, j ≤ J ∧ i = .int .i64 j ∧ NWK w m 6 v n F A ad j l wr) (fun _ i _ => J + 1 - (intOf i).toNat)
    case atStart => exact ⟨0, Nat.zero_le _, rfl, H0.out _⟩
    case round =>
      obtain ⟨j, hj, rfl, F1, hk1, f1, o1, nb1, hst1, hni⟩ := hrel
      have hjn : (j : Int) < (N : Nat) := by omega
      clear H0
      by_cases hlt : j < J
      · have HAj := HA j hlt
        obtain ⟨c0, c1, c2, c3⟩ := boxK_cells hst1
        clear HA HB
        go_wp2_with fail
        go_region_with (first | (go_at_call 25; refine (HW _).out.mono ?_; rintro e w' ⟨rfl, rfl⟩) | (go_at_call 26; refine (HAj _ _ F1 ?_ ?_).out.mono ?_; (first | exact hk1 | exact hk1.drew | exact hk1.drewN _); (first | exact (Int.natCast_mul _ _).symm | exact hp1.out | exact hp2.out); rintro e w2 ⟨F2, rfl, hk2, f2⟩))
        all_goals
          have hf2 : Fr F F2 w w2 := by first | exact f1.trans f2 | exact f1.drew.trans f2 | exact (f1.drewN _).trans f2
          have hst2 : w2.heap[w.heap.size]? = some (boxK 6 v n) := f2.keep hst1 hni
          have hni2 : w.heap.size ∉ F2 := f2.notin (lt_of_heap hst1) hni
          have HO := ownsRow_keep o1 (w' := w2) (fun g hg => f2.block g (ownsRow_lt o1 g hg) (nb1 g hg).2)
          have HN : ∀ g, (u10 : Value).ownBlock = some g → w.heap.size < g ∧ g ∉ F2 := fun g hg => ⟨(nb1 g hg).1, f2.notin (ownsRow_lt o1 g hg) (nb1 g hg).2⟩
          clear o1 nb1 hk1 f1 f2 hst1 hni c0 c1 c2 c3
          have hw2 := hf2.size
          have hwb := lt_of_heap hst2
          go_wp2_with (at_builtin; refine wpList_append_own_at _ rfl _ _ 66 rfl 0 33 i0 (.int .u64 0) 1 8 K.undOwn hi hz0 hz1 hz2 rfl (by decide) _ _ _ rfl (HO.alloc _) ⟨w2.heap.size, 0, none⟩ 1 1 [.int .u64 (ad j)] rfl rfl (cell_one_new _ _ _) ?c1 ?c2 ?c3 (Nat.zero_le _) ?_)
          case c1 => simp [Value.oneCell']
          case c2 => unfold maxLen; omega
          case c3 => omega
          intro v' w6 hown' hgrow hnil hat
          have HR2 : Hid (NWK w m 6 v n F A ad (j + 1) v' w6) := by
            have e1 : (List.range (j + 1)).map (fun i => Value.int .u64 (ad i)) = (List.range j).map (fun i => Value.int .u64 (ad i)) ++ [.int .u64 (ad j)] := by
              rw [List.range_succ]; simp
            refine ⟨F2, ?_, ?_, by rw [e1]; exact hown', ?_, ?_, hni2⟩
            · exact (hk2.alloc _).own hgrow (fun b hb => (HN b hb).2)
            · exact (hf2.alloc _).own hgrow (fun b hb => Nat.le_of_lt (HN b hb).1)
            · intro g hg
              rw [hg] at hat
              rcases hat with hat | hat
              · exact ⟨(HN g hat.symm).1, (HN g hat.symm).2⟩
              · have hg' : g = w2.heap.size + 1 := by simpa using hat
                exact ⟨by omega, fun hf => by have := hk2.lt g hf; omega⟩
            · rw [hgrow.block _ (by rw [World.size_alloc]; omega) (fun e => Nat.lt_irrefl _ (HN _ e.symm).1)]
              exact heap_alloc_some hst2
          clear hown' hgrow hnil hat HN HO hf2 hk2 hst2 hni2
          go_wp2
          exact ⟨⟨j + 1, by omega, by go_num, HR2.out⟩, by simp [intOf]; omega⟩
      · obtain rfl : j = J := by omega
        obtain ⟨c0, c1, c2, c3⟩ := boxK_cells hst1
        obtain ⟨A', cap, hsv, hA'⟩ := own_form_range o1
        clear HA
        go_wp2_with fail
        go_region_with (first | (go_at_call 25; refine (HW _).out.mono ?_; rintro e w' ⟨rfl, rfl⟩) | (go_at_call 26; refine (HB _ _ F1 ?_ ?_).out.mono ?_; (first | exact hk1 | exact hk1.drew | exact hk1.drewN _); (first | exact (Int.natCast_mul _ _).symm | exact hp1.out | exact hp2.out); rintro e w2 ⟨F2, rfl, hk2, f2⟩))
        all_goals
          have hf2 : Fr F F2 w w2 := by first | exact f1.trans f2 | exact f1.drew.trans f2 | exact (f1.drewN _).trans f2
          have HC : Hid (∀ W F3 (i a : Nat), Fr F2 F3 w2 W → ((List.range j).map ad)[i]? = some a → ∃ g, A' = some ⟨g, 0, none⟩ ∧ W.cell? ⟨g, i, none⟩ = some (.int .u64 a)) := hide fun W F3 i a hfw hia => by
            obtain ⟨g, e1, e2, e3⟩ := hA' i a hia
            have hg2 := nb1 g e2
            have hgl := ownsRow_lt o1 g e2
            have hsz := f2.size
            refine ⟨g, e1, ?_⟩
            rw [← e3]
            simp only [World.cell?]
            rw [hfw.block g (Nat.lt_of_lt_of_le hgl hsz) (f2.notin hgl hg2.2), show w2.heap[g]? = wr.heap[g]? from f2.block g hgl hg2.2]
          have HK2 := hide hk2
          have HF2 := hide hf2
          have hrl : ((List.range j).map ad).length = j := by simp
          have HRL := hide hrl
          obtain ⟨L, hL⟩ : ∃ L, L = (List.range j).map ad := ⟨_, rfl⟩
          rw [← hL] at HC HRL HAL
          have HLL := hide hL
          clear hL
          subst hsv
          clear hA' o1 nb1 hk1 f1 f2 hst1 hni c0 c1 c2 c3 hk2 hf2 hrl
          go_wp2_with fail
          go_loopw [87] (fun iv wr' => ∃ (c : Nat) (F3 : List Nat), c ≤ j ∧ iv = .int .i64 c ∧ KS wr' m (ffrees (L.take c) kf) F3 ∧ Fr F2 F3 w2 wr') (fun iv _ => j - (intOf iv).toNat)
          case atStart => exact ⟨0, F2, Nat.zero_le _, rfl, HK2.out, Fr.refl _ _⟩
          case round =>
            obtain ⟨c, F3, hc, rfl, hk3, f3⟩ := hrel
            by_cases hlc : c < j
            · obtain ⟨a3, ha3⟩ : ∃ a3, L[c]? = some a3 := ⟨L[c]'(by rw [HRL.out]; exact hlc), List.getElem?_eq_getElem _⟩
              obtain ⟨g, rfl, hcell⟩ := HC.out _ F3 c a3 f3 ha3
              have hli : (c : Int) < j := by omega
              have hadc : a3 < 18446744073709551616 := by have := HAL.out a3 (List.mem_of_getElem? ha3); omega
              have HT := hide (ffrees_step ha3 kf)
              have HS := hide hk3
              have HF := hide f3
              obtain ⟨kq, hkq⟩ : ∃ kq, kq = ffrees (L.take c) kf := ⟨_, rfl⟩
              obtain ⟨n3, hn3⟩ : ∃ n, n = (kq.free a3).1 := ⟨_, rfl⟩
              obtain ⟨k3, hk4⟩ : ∃ n, n = (kq.free a3).2 := ⟨_, rfl⟩
              rw [← hkq] at HS HT
              rw [← hk4] at HT
              have HP : Hid (Calls Try.prog 27 #[.pointer (some ⟨m, 0, none⟩), .int .u64 (a3 : Nat)] wr (KPostS m F3 wr (.int .i64 n3) k3)) := hide (free_S HS.out rfl hadc (by rw [hn3, hk4]))
              have HE : Hid (∀ W F4, KS W m k3 F4 → Fr F3 F4 wr W → ∃ (c' : Nat) (F3 : List Nat), c' ≤ j ∧ Value.int .i64 ((c : Int) + 1) = .int .i64 c' ∧ KS W m (ffrees (L.take c') kf) F3 ∧ Fr F2 F3 w2 W) := hide fun W F4 hr hf3 =>
                ⟨c + 1, F4, by omega, by simp, by rw [HT.out]; exact hr, HF.out.trans hf3⟩
              clear hk3 f3 HT HS HF hkq hn3 hk4 ha3 HC
              go_wp2_with fail
              refine HP.out.mono ?_
              rintro e w3 ⟨F4, rfl, hr3, hf3⟩
              have HN := hide (HE.out w3 F4 hr3 hf3)
              clear hr3 hf3
              go_wp2
              exact ⟨HN.out, by show j - ((c : Int) + 1).toNat < j - ((c : Int)).toNat; omega⟩
            · have hcl : c = j := by omega
              have HE : Hid (NFPost w m F er ((List.range j).map ad) kf (.returned (.tuple #[.pointer none, .int .i64 er])) wr) := hide (by rw [← HLL.out]; exact ⟨F3, rfl, by rw [List.take_of_length_le (by rw [HRL.out]; omega)] at hk3; exact hk3, HF2.out.trans f3⟩)
              have hni : ¬ (c : Int) < j := by omega
              clear hk3 f3 HC
              go_wp2
              go_ret2
              exact HE.out
end Go.Proofs.Ytmgocjclopfeeaa
