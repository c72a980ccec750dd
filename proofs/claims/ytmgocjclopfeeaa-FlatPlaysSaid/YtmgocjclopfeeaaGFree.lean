/- Contracts of Free of an array, the program's and the reference's: all its regions are freed, one behind the other; condition: the array lies in the world, apart from its memory. -/
import Derived.Test.YtmgocjclopfeeaaGUpd
import Derived.Test.YtmgocjclopfeeaaFUpd
set_option linter.unusedVariables false
set_option linter.unusedSimpArgs false
namespace Go.Proofs.Ytmgocjclopfeeaa
open Go.RowKit Go.MapKept

def ffrees (l : List Nat) (k : KA) : KA := l.foldl (fun k a => (k.free a).2) k
theorem ffrees_snoc (l : List Nat) (a : Nat) (k : KA) : ffrees (l ++ [a]) k = ((ffrees l k).free a).2 := by simp [ffrees, List.foldl_append]
theorem ffrees_wu {k : KA} (h : WU k) (l : List Nat) : WU (ffrees l k) := by
  unfold ffrees
  induction l generalizing k with
  | nil => exact h
  | cons a l ih => exact ih (h.free a)
theorem ffrees_step {l : List Nat} {c a : Nat} (ha : l[c]? = some a) (k : KA) : ffrees (l.take (c + 1)) k = ((ffrees (l.take c) k).free a).2 := by
  obtain ⟨hc, rfl⟩ := List.getElem?_eq_some_iff.1 ha
  rw [List.take_succ_eq_append_getElem hc, ffrees_snoc]
theorem Fr.cons {F F' : List Nat} {w w' : World} (h : Fr F F' w w') (y : Nat) : Fr (y :: F) (y :: F') w w' :=
  ⟨h.os, h.tape, h.output, h.size, fun k hk hn => h.block k hk (fun e => hn (List.mem_cons_of_mem _ e)), fun k hk => by
    rcases List.mem_cons.1 hk with rfl | hk
    · exact .inl (List.mem_cons_self ..)
    · rcases h.foot k hk with h1 | h1
      · exact .inl (List.mem_cons_of_mem _ h1)
      · exact .inr h1⟩
theorem fr_store {w : World} {a : Addr} {v : Value} {F : List Nat} (h : a.block ∈ F) : Fr F F w (w.setCell a v) :=
  fr_one rfl rfl rfl (by simp [World.setCell]) fun b _ hb => Below.heap_setCell _ _ _ _ (fun e => hb (e ▸ h))
theorem gmap_gone {w : World} {y n : Nat} {s : FSpec} {cpus : Int} {sv : Value} {gone : Bool} (h : w.heap[y]? = some (gmapO n s cpus sv gone)) (b : Bool) : (w.setCell ⟨y, 7, none⟩ (.bool b)).heap[y]? = some (gmapO n s cpus sv b) := by
  unfold gmapO at h ⊢
  exact heap_setCell_same h
def GFRel (w : World) (y n : Nat) (s : FSpec) (cpus : Int) (l : List Nat) (sv : Value) (k : KA) (G : List Nat) (iv : Value) (wr : World) : Prop :=
  ∃ (c : Nat) (G1 : List Nat), c ≤ l.length ∧ iv = .int .i64 c ∧ RS wr n (ffrees (l.take c) k) G1 ∧ GM wr y n s cpus l sv true ∧ (∀ b ∈ gfoot y sv, b ∉ G1) ∧ Fr (y :: G) (y :: G1) w wr
def GFPost (w : World) (y n : Nat) (s : FSpec) (cpus : Int) (l : List Nat) (sv : Value) (k : KA) (G : List Nat) (e : Ending) (w' : World) : Prop :=
  ∃ G', e = .returned (.int .i64 0) ∧ RS w' n (ffrees l k) G' ∧ GM w' y n s cpus l sv true ∧ (∀ b ∈ gfoot y sv, b ∉ G') ∧ Fr (y :: G) (y :: G') w w'
theorem gfree_gone {w : World} {y n : Nat} {s : FSpec} {cpus : Int} {l : List Nat} {sv : Value} (h : GM w y n s cpus l sv true) :
    Calls Try.prog 35 #[.pointer (some ⟨y, 0, none⟩)] w (Tells w (.int .i64 1)) := by
  obtain ⟨c0, c1, c2, c3, c4, c5, c6, c7, -⟩ := h.cells
  clear h
  go_enter Try.func35, Try.ntmps35
  go_wp2
  go_ret
  exact ⟨rfl, rfl⟩
set_option maxRecDepth 100000 in
set_option maxHeartbeats 4000000 in
theorem gfree_calls {w : World} {y n : Nat} {s : FSpec} {cpus : Int} {l : List Nat} {sv : Value} {k : KA} {G : List Nat} (h : GM w y n s cpus l sv false) (hrs : RS w n k G) (hw : WU k) (hd : ∀ b ∈ gfoot y sv, b ∉ G) :
    Calls Try.prog 35 #[.pointer (some ⟨y, 0, none⟩)] w (GFPost w y n s cpus l sv k G) := by
  obtain ⟨c0, c1, c2, c3, c4, c5, c6, c7, hfz⟩ := h.cells
  have f7 := hfz 7
  have hyG : y ∉ G := hd y (by simp [gfoot])
  have hgm1 : GM (w.setCell ⟨y, 7, none⟩ (.bool true)) y n s cpus l sv true := ⟨gmap_gone h.hy true, ownsRow_keep h.own fun g hg => setCell_other (h.ne g hg), h.ne, h.v1, h.m1, h.ad, h.l8⟩
  have H0 := hide (show GFRel w y n s cpus l sv k G (.int .i64 0) (w.setCell ⟨y, 7, none⟩ (.bool true)) from ⟨0, G, Nat.zero_le _, rfl, hrs.frame (fun b hb => setCell_other (fun e => hyG (by have e2 : b = y := e; exact e2 ▸ hb))) (by simp [World.setCell]), hgm1, hd, fr_store (List.mem_cons_self ..)⟩)
  have HWU := hide (ffrees_wu hw)
  have HAD := hide h.ad
  have hL8 := h.l8
  generalize hL : l.length = L at hL8
  have HL := hide hL
  clear h hrs hw hd hL hgm1 hfz hyG
  go_enter Try.func35, Try.ntmps35
  go_wp2_with fail
  go_loopw [3] (fun iv wr => GFRel w y n s cpus l sv k G iv wr) (fun iv _ => L - (intOf iv).toNat)
  case atStart => exact H0.out
  case round =>
    clear H0
    obtain ⟨c, G1, hc, rfl, hs, hgm, hd1, hfr⟩ := hrel
    rw [HL.out] at hc
    have HS := hide hs
    have HF := hide hfr
    have HGM := hide hgm
    have HD := hide hd1
    clear c0 c1 c2 c3 c4 c5 c6 c7 f7
    obtain ⟨c0, c1, c2, c3, c4, c5, c6, c7, -⟩ := hgm.cells
    obtain ⟨A, cap, hsv, hA⟩ := hgm.form
    rw [HL.out] at hsv
    rw [hsv] at c6
    clear hs hfr hgm hd1
    by_cases hlt : c < L
    · have hcl : c < l.length := by rw [HL.out]; exact hlt
      obtain ⟨a, ha⟩ : ∃ a, l[c]? = some a := ⟨l[c], List.getElem?_eq_getElem hcl⟩
      obtain ⟨g, rfl, hcell⟩ := hA c a ha
      have hli : (c : Int) < L := by omega
      have hadc : a < 18446744073709551616 := by have := HAD.out a (List.mem_of_getElem? ha); omega
      have HT := hide (ffrees_step ha k)
      have HY := hide (HWU.out (l.take c)).wf
      obtain ⟨kq, hkq⟩ : ∃ kq, kq = ffrees (l.take c) k := ⟨_, rfl⟩
      obtain ⟨n3, hn3⟩ : ∃ n, n = (kq.free a).1 := ⟨_, rfl⟩
      obtain ⟨k3, hk4⟩ : ∃ n, n = (kq.free a).2 := ⟨_, rfl⟩
      rw [← hkq] at HS HY HT
      rw [← hk4] at HT
      have HP : Hid (∀ W, Same wr W → Calls Try.prog 44 #[.pointer (some ⟨n, 0, none⟩), .int .u64 (a : Nat)] W (RPostS n G1 W (.int .i64 n3) k3)) := hide fun W hW =>
        free_R (HS.out.frame (fun b _ => by rw [hW.heap]) (by rw [hW.heap]; exact Nat.le_refl _)) HY.out a rfl hadc (by rw [hn3, hk4])
      have HE : Hid (∀ W G3 W2, Same wr W → RS W2 n k3 G3 → Fr G1 G3 W W2 → GFRel w y n s cpus l sv k G (.int .i64 ((c : Int) + 1)) W2) := hide fun W G3 W2 hW hr hf3 => by
        have hf4 : Fr G1 G3 wr W2 := (hW.fr G1).trans hf3
        exact ⟨c + 1, G3, by rw [HL.out]; omega, by simp, by rw [HT.out]; exact hr, HGM.out.fr hf4 HD.out, fun b hb => hf4.notin (HGM.out.lt b hb) (HD.out b hb), HF.out.trans (hf4.cons y)⟩
      clear HT hkq hn3 hk4 HY HS HF HWU HAD HGM HD hA ha hcl
      go_wp2_with fail
      go_region_with (go_at_call 44; refine (HP.out _ ?_).mono ?_; exact ⟨rfl, rfl, rfl, rfl⟩; rintro e w3 ⟨G3, rfl, hr3, hf3⟩; have HN := hide (HE.out wr G3 w3 (Same.refl _) hr3 ⟨hf3.os, hf3.tape, hf3.output, hf3.size, hf3.block, hf3.foot⟩))
      all_goals
        clear hr3 hf3
        go_wp2
        try go_big_round
        exact ⟨HN.out, by show L - ((c : Int) + 1).toNat < L - ((c : Int)).toNat; omega⟩
    · obtain rfl : c = L := by omega
      have HE : Hid (GFPost w y n s cpus l sv k G (.returned (.int .i64 0)) wr) := hide ⟨G1, rfl, by have := HS.out; rwa [List.take_of_length_le (by rw [HL.out]; exact Nat.le_refl _)] at this, HGM.out, HD.out, HF.out⟩
      go_wp2
      go_ret
      exact HE.out

/-! ### the program's -/
def FFRel (m : Nat) (l : List Nat) (k : KA) (F : List Nat) (w2 : World) (iv : Value) (wr : World) : Prop :=
  ∃ (c : Nat) (F1 : List Nat), c ≤ l.length ∧ iv = .int .i64 c ∧ KS wr m (ffrees (l.take c) k) F1 ∧ Fr F F1 w2 wr
def FFPost (w : World) (x m : Nat) (s : FSpec) (l : List Nat) (k : KA) (F : List Nat) (e : Ending) (w' : World) : Prop :=
  ∃ F', e = .returned (.int .i64 0) ∧ KS w' m (ffrees l k) F' ∧ FM w' x m s .gone ∧ x ∉ F' ∧ Fr (x :: F) (x :: F') w w'
theorem ffree_gone {w : World} {x m : Nat} {s : FSpec} {R : FR} (h : FM w x m s R) (hR : R.isB = false) : Calls Try.prog 17 #[.pointer (some ⟨x, 0, none⟩)] w (Tells w (.int .i64 1)) := by
  have HT := hide (there_calls h)
  rw [hR] at HT
  clear hR h
  go_enter Try.func17, Try.ntmps17
  go_wp2_with (go_at_call 28; refine HT.out.mono ?_; rintro e w' ⟨rfl, rfl⟩)
  go_ret
  exact ⟨rfl, rfl⟩
theorem fmap_gone {w : World} {x m : Nat} {s : FSpec} {R : FR} (h : FM w x m s R) : FM (w.setCell ⟨x, 5, none⟩ .nilIface) x m s .gone where
  hx := by have := h.hx; exact heap_setCell_same this
  own := fun g cap l e => by cases e
  v1 := h.v1
  m1 := h.m1
  ad := fun a ha => by simp [FR.ads] at ha
set_option maxRecDepth 100000 in
set_option maxHeartbeats 4000000 in
theorem ffree_calls {w : World} {x m : Nat} {s : FSpec} {R : FR} {k : KA} {F : List Nat} (h : FM w x m s R) (hR : R.isB = true) (hk : KS w m k F) (hd : ∀ b ∈ R.foot x, b ∉ F) :
    Calls Try.prog 17 #[.pointer (some ⟨x, 0, none⟩)] w (FFPost w x m s R.ads k F) := by
  have HT := hide (there_calls h)
  rw [hR] at HT
  have HFM := hide h
  have HK := hide hk
  have HD := hide hd
  have hxF := hide (hd x (by cases R <;> simp [FR.foot]))
  have HAD := hide h.ad
  obtain ⟨c0, c1, c2, c3, c4, c5, f5⟩ := h.cells
  have key : ∀ (l : List Nat) (g' cap' : Nat) (w2 : World), l = R.ads → Fr [] [] w w2 → (∀ j a : Nat, l[j]? = some a → w2.cell? ⟨g', j, none⟩ = some (.int .u64 a)) → g' ∉ F →
      FFRel m l k F w2 (.int .i64 0) w2 ∧
      (∀ (c a : Nat) (wr : World) (F1 : List Nat), l[c]? = some a → Fr F F1 w2 wr → wr.cell? ⟨g', c, none⟩ = some (.int .u64 a) ∧ wr.cell? ⟨x, 0, none⟩ = some (.pointer (some ⟨m, 0, none⟩))) ∧
      (∀ (wr : World) (F1 : List Nat), Fr F F1 w2 wr → wr.frozen? ⟨x, 5, none⟩ = false ∧ (∃ v, wr.cell? ⟨x, 5, none⟩ = some v) ∧ (KS wr m (ffrees l k) F1 → FFPost w x m s R.ads k F (.returned (.int .i64 0)) (wr.setCell ⟨x, 5, none⟩ .nilIface))) := by
    intro l g' cap' w2 hl hf hc hg
    refine ⟨⟨0, F, Nat.zero_le _, rfl, HK.out.fr hf, Fr.refl _ _⟩, fun c a wr F1 ha hfr => ⟨?_, ?_⟩, fun wr F1 hfr => ?_⟩
    · have := hc c a ha
      rw [← this]
      exact World.cell?_of_block (a := ⟨g', c, none⟩) (hfr.block g' (lt_of_cell this) hg)
    · exact ((HFM.out.fr hf (by simp)).fr hfr HD.out).cells.1
    · have hfm := (HFM.out.fr hf (by simp)).fr hfr HD.out
      obtain ⟨_, _, _, _, _, e5, e6⟩ := hfm.cells
      refine ⟨e6, ⟨_, e5⟩, fun hks => ?_⟩
      have hfw : Fr F F1 w wr := ⟨hfr.os.trans hf.os, hfr.tape.trans hf.tape, hfr.output.trans hf.output, Nat.le_trans hf.size hfr.size, fun b hb hn => by rw [hfr.block b (Nat.lt_of_lt_of_le hb hf.size) hn, hf.block b hb (by simp)], fun b hb => by
        rcases hfr.foot b hb with h1 | h1
        · exact .inl h1
        · exact .inr (Nat.le_trans hf.size h1)⟩
      have hxl := lt_of_heap HFM.out.hx
      have hx1 : x ∉ F1 := hfw.notin hxl hxF.out
      exact ⟨F1, rfl, by rw [← hl]; exact hks.setCell (a := ⟨x, 5, none⟩) hx1 _, fmap_gone hfm, hx1, (hfw.cons x).trans (fr_store (List.mem_cons_self ..))⟩
  have KEY := hide key
  clear key h hk hd
  cases R with
  | gone => cases hR
  | shared a =>
    simp only [FR.val, FR.ads] at *
    clear hR
    go_enter Try.func17, Try.ntmps17
    go_wp2_with fail
    refine HT.out.mono ?_
    rintro e w' ⟨rfl, rfl⟩
    go_wp2_with fail
    refine (sh_all _ _).mono ?_
    rintro e w2 ⟨rfl, rfl⟩
    obtain ⟨K1, K2, K3⟩ := KEY.out [a] w.heap.size 1 (w.alloc (.cells #[.int .u64 a] 33)) rfl ((Fr.refl [] w).alloc _) (fun j b hj => by
      cases j with
      | zero => simp at hj; subst hj; simp only [World.cell?, heap_alloc_new]; rfl
      | succ j => simp at hj) (fun hf => Nat.lt_irrefl _ (HK.out.lt _ hf))
    have K1 := hide K1
    have K2 := hide K2
    have K3 := hide K3
    generalize hW2 : w.alloc (.cells #[.int .u64 a] 33) = W2 at *
    generalize w.heap.size = g' at *
    clear hW2 c0 c1 c2 c3 c4 c5 f5
    go_wp2_with fail
    go_loopw [14] (fun iv wr => FFRel m [a] k F W2 iv wr) (fun iv _ => 1 - (intOf iv).toNat)
    case atStart => exact K1.out
    case round =>
      clear K1
      obtain ⟨c, F1, hc, rfl, hks, hfr⟩ := hrel
      by_cases hlt : c < 1
      · obtain ⟨a', ha⟩ : ∃ a', ([a])[c]? = some a' := ⟨([a])[c]'(by first | exact hlt | (simp; omega)), List.getElem?_eq_getElem _⟩
        obtain ⟨hcell, c0⟩ := K2.out c a' wr F1 ha hfr
        have hli : (c : Int) < 1 := by omega
        have hadc : a' < 18446744073709551616 := by have := HAD.out a' (List.mem_of_getElem? ha); omega
        have HT := hide (ffrees_step ha k)
        have HS := hide hks
        have HF := hide hfr
        have hc1 : c + 1 ≤ ([a]).length := by have := (List.getElem?_eq_some_iff.1 ha).1; omega
        obtain ⟨kq, hkq⟩ : ∃ kq, kq = ffrees (([a]).take c) k := ⟨_, rfl⟩
        obtain ⟨n3, hn3⟩ : ∃ n, n = (kq.free a').1 := ⟨_, rfl⟩
        obtain ⟨k3, hk4⟩ : ∃ n, n = (kq.free a').2 := ⟨_, rfl⟩
        rw [← hkq] at HS HT
        rw [← hk4] at HT
        have HP : Hid (Calls Try.prog 27 #[.pointer (some ⟨m, 0, none⟩), .int .u64 (a' : Nat)] wr (KPostS m F1 wr (.int .i64 n3) k3)) := hide (free_S HS.out rfl hadc (by rw [hn3, hk4]))
        have HE : Hid (∀ W F3, KS W m k3 F3 → Fr F1 F3 wr W → FFRel m [a] k F W2 (.int .i64 ((c : Int) + 1)) W) := hide fun W F3 hr hf3 =>
          ⟨c + 1, F3, hc1, by simp, by rw [HT.out]; exact hr, HF.out.trans hf3⟩
        clear hks hfr HT HS HF hkq hn3 hk4 hc1 ha
        go_wp2_with fail
        refine HP.out.mono ?_
        rintro e w3 ⟨F3, rfl, hr3, hf3⟩
        have HN := hide (HE.out w3 F3 hr3 hf3)
        clear hr3 hf3
        go_wp2
        exact ⟨HN.out, by show 1 - ((c : Int) + 1).toNat < 1 - ((c : Int)).toNat; omega⟩
      · have hcl : c = 1 := by have : c ≤ 1 := hc; omega
        obtain ⟨k1, ⟨v5, k2⟩, k3⟩ := K3.out wr F1 hfr
        have HE := hide (k3 (by rw [List.take_of_length_le (by first | (simp; omega) | omega)] at hks; exact hks))
        have hni : ¬ (c : Int) < 1 := by omega
        clear k3 hks hfr
        go_wp2
        go_ret
        exact HE.out
  | own g cap l =>
    simp only [FR.val, FR.ads] at *
    clear hR
    obtain ⟨-, -, -, hl8, -⟩ := HFM.out.own g cap l rfl
    go_enter Try.func17, Try.ntmps17
    go_wp2_with fail
    refine HT.out.mono ?_
    rintro e w' ⟨rfl, rfl⟩
    go_wp2_with fail
    refine (own_all _ _).mono ?_
    rintro e w2 ⟨rfl, rfl⟩
    obtain ⟨K1, K2, K3⟩ := KEY.out l g cap w rfl (Fr.refl [] w) (fun j b hj => HFM.out.ownCells j b hj) (HD.out g (by simp [FR.foot]))
    have K1 := hide K1
    have K2 := hide K2
    have K3 := hide K3
    clear c0 c1 c2 c3 c4 c5 f5
    go_wp2_with fail
    go_loopw [14] (fun iv wr => FFRel m l k F w iv wr) (fun iv _ => l.length - (intOf iv).toNat)
    case atStart => exact K1.out
    case round =>
      clear K1
      obtain ⟨c, F1, hc, rfl, hks, hfr⟩ := hrel
      by_cases hlt : c < l.length
      · obtain ⟨a', ha⟩ : ∃ a', (l)[c]? = some a' := ⟨(l)[c]'(by first | exact hlt | (simp; omega)), List.getElem?_eq_getElem _⟩
        obtain ⟨hcell, c0⟩ := K2.out c a' wr F1 ha hfr
        have hli : (c : Int) < l.length := by omega
        have hadc : a' < 18446744073709551616 := by have := HAD.out a' (List.mem_of_getElem? ha); omega
        have HT := hide (ffrees_step ha k)
        have HS := hide hks
        have HF := hide hfr
        have hc1 : c + 1 ≤ (l).length := by have := (List.getElem?_eq_some_iff.1 ha).1; omega
        obtain ⟨kq, hkq⟩ : ∃ kq, kq = ffrees ((l).take c) k := ⟨_, rfl⟩
        obtain ⟨n3, hn3⟩ : ∃ n, n = (kq.free a').1 := ⟨_, rfl⟩
        obtain ⟨k3, hk4⟩ : ∃ n, n = (kq.free a').2 := ⟨_, rfl⟩
        rw [← hkq] at HS HT
        rw [← hk4] at HT
        have HP : Hid (Calls Try.prog 27 #[.pointer (some ⟨m, 0, none⟩), .int .u64 (a' : Nat)] wr (KPostS m F1 wr (.int .i64 n3) k3)) := hide (free_S HS.out rfl hadc (by rw [hn3, hk4]))
        have HE : Hid (∀ W F3, KS W m k3 F3 → Fr F1 F3 wr W → FFRel m l k F w (.int .i64 ((c : Int) + 1)) W) := hide fun W F3 hr hf3 =>
          ⟨c + 1, F3, hc1, by simp, by rw [HT.out]; exact hr, HF.out.trans hf3⟩
        clear hks hfr HT HS HF hkq hn3 hk4 hc1 ha
        go_wp2_with fail
        refine HP.out.mono ?_
        rintro e w3 ⟨F3, rfl, hr3, hf3⟩
        have HN := hide (HE.out w3 F3 hr3 hf3)
        clear hr3 hf3
        go_wp2
        exact ⟨HN.out, by show l.length - ((c : Int) + 1).toNat < l.length - ((c : Int)).toNat; omega⟩
      · have hcl : c = l.length := by have : c ≤ l.length := hc; omega
        obtain ⟨k1, ⟨v5, k2⟩, k3⟩ := K3.out wr F1 hfr
        have HE := hide (k3 (by rw [List.take_of_length_le (by first | (simp; omega) | omega)] at hks; exact hks))
        have hni : ¬ (c : Int) < l.length := by omega
        clear k3 hks hfr
        go_wp2
        go_ret
        exact HE.out
end Go.Proofs.Ytmgocjclopfeeaa
