/- A face over numbers of programs: Update, Prog; a face over a hash table: New, Update, Lookup, Push; conditions: each contract's own. -/
import Derived.Test.YtgkbiknokpmjmaaMFace2
set_option linter.unusedVariables false
set_option linter.unusedSimpArgs false
namespace Go.Proofs.Ytgkbiknokpmjmaa
open Go.RowKit Go.MapKept Go.Maps

theorem nats_w64 (s : ByteArray) (hs : s.size = 4) : W64 (leNum (nats s) : Nat) ∧ leNum (nats s) < 4294967296 := by
  have := leNum_lt (nats s) (nats_lt s)
  rw [length_nats, hs] at this
  have h2 : leNum (nats s) < 4294967296 := by omega
  exact ⟨(w64_iff _).2 (by omega), h2⟩
theorem turned_one {w w' : World} {b : Nat} (h : w.mapTurned w' b) : Fr [b] [b] w w' := by
  have g := h.grown
  exact ⟨g.os, g.tape, g.output, g.size, fun k hk hn => g.block k hk (fun e => hn (by cases e; simp)), fun k hk => .inl hk⟩
theorem PM.turn {w w' : World} {x b n n' mx : Nat} {fr : Bool} {f g : Lit → Option Int} (h : PM w x b n mx fr f) (ht : w.mapTurned w' b) (hm : MII w' b n' g) : PM w' x b n' mx fr g :=
  ⟨(ht.grown.block x h.lt.1 (fun e => h.ne (by cases e; rfl))).trans h.hx, hm, h.ne⟩
def PPost (w : World) (x b n mx : Nat) (fr : Bool) (f : Lit → Option Int) (v : Value) (e : Ending) (w' : World) : Prop := e = .returned v ∧ PM w' x b n mx fr f ∧ Fr [b] [b] w w'
theorem Same.one {w w' : World} (h : Same w w') (b : Nat) : Fr [b] [b] w w' := h.fr [b]
set_option maxRecDepth 100000 in
set_option maxHeartbeats 2000000 in
theorem pupdate_calls {w : World} {x b n mx : Nat} {f : Lit → Option Int} (h : PM w x b n mx false f) (hn : n < 1099511627776) (key value : ByteArray) (hk : key.size = 4) (hv : value.size = 4) (hm : leNum (nats key) < mx) (cpu : Int) :
    Calls Try.prog 7 #[.pointer (some ⟨x, 0, none⟩), .string key, .string value, .int .i64 0, .int .i64 cpu] w (PPost w x b (n + 1) mx false (upd f (ik (leNum (nats key) : Nat)) (some ((leNum (nats value) : Nat) : Int))) (.int .i64 0)) := by
  have HI := hide (fun W (hp : PM W x b n mx false f) => min_calls hp.hx (.inl ⟨b, rfl⟩))
  have HK := hide (fun W => number_calls key hk W)
  have HV := hide (fun W => number_calls value hv W)
  have a0 := MA.pa0
  have a1 := MA.pa1
  have a2 := MA.pa2
  have a5 := MA.pa5
  have hkb : ((key.size : Int) != 4) = false := by rw [hk]; rfl
  have hvb : ((value.size : Int) != 4) = false := by rw [hv]; rfl
  obtain ⟨wk, hk4⟩ := nats_w64 key hk
  obtain ⟨wv, hv4⟩ := nats_w64 value hv
  have HWK := hide wk
  have HWV := hide wv
  generalize leNum (nats key) = K at *
  generalize leNum (nats value) = V at *
  have hmi : ¬ (mx : Int) ≤ K := by omega
  have hmd : decide ((mx : Int) ≤ K) = false := by rw [decide_eq_false_iff_not]; exact hmi
  have HP := hide h
  obtain ⟨c0, c1, c2, c3, c4, c5⟩ := face_cells h.hx
  clear wk wv hm h
  go_enter Try.func7, Try.ntmps7
  go_wp2_with fail
  refine (HI.out w HP.out).mono ?_
  rintro e w' ⟨rfl, rfl⟩
  go_wp2_with fail
  refine (HK.out _).mono ?_
  rintro e w1 ⟨rfl, s1⟩
  have HP1 := hide (HP.out.same s1)
  have HS1 := hide s1
  clear c0 c1 c2 c3 c4 c5 s1
  obtain ⟨c0, c1, c2, c3, c4, c5⟩ := face_cells HP1.out.hx
  obtain ⟨l1, l2, l3⟩ := HP1.out.mi.at HWK.out
  clear l1 l3
  have HQ : Hid (∀ W, Same w1 W → Calls Try.prog 28 #[.string key] W fun e w' => e = .returned (.int .i64 (K : Nat)) ∧ Same w1 w') := hide (fun W hW => (HK.out W).mono fun e w' ⟨q1, q2⟩ => ⟨q1, hW.trans q2⟩)
  cases hf : f (.int .i64 (K : Nat)) with
  | none =>
    rw [hf] at l2
    simp only [Option.isSome_none, Option.getD_none] at l2
    go_wp2_with fail
    go_region_held3 (fun W => W.cell? ⟨x, 3, none⟩ = some (.int .i64 mx)) (first | exact c3 | exact d3) (first
      | (go_at_call 28; refine (HQ.out _ ?_).mono ?_; (first | with_reducible exact Same.refl _ | exact (Same.refl _).drew); rintro e2 W2 ⟨rfl, s2⟩; have HS2 := hide s2; have HP2 := hide (HP1.out.same s2); have ⟨d0, d1, d2, d3, d4, d5⟩ := face_cells HP2.out.hx; clear s2))
    all_goals
      clear l2 c0 c1 c2 c3 c4 c5 d0 d1 d2 d3 d4 d5
      have HQ3 : Hid (∀ W, Same W2 W → Calls Try.prog 28 #[.string key] W fun e w' => e = .returned (.int .i64 (K : Nat)) ∧ Same W2 w') := hide (fun W hW => (HK.out W).mono fun e w' ⟨q1, q2⟩ => ⟨q1, hW.trans q2⟩)
      go_wp2_with fail
      refine (HQ3.out _ (by first | with_reducible exact Same.refl _ | exact (Same.refl _).drew)).mono ?_
      rintro e W3 ⟨rfl, s3⟩
      have HS3 := hide s3
      clear s3
      go_wp2_with fail
      refine (HV.out _).mono ?_
      rintro e W4 ⟨rfl, s4⟩
      have hs4 := HS3.out.trans s4
      have HP4 := hide (HP2.out.same hs4)
      have HF4 := hide (((HS1.out.trans HS2.out).trans hs4).fr [b])
      clear s4 hs4
      go_wp2_with (at_mapUpdate; refine wpList_store_MI _ rfl _ _ _ 68 rfl P.ki P.und P.undInt HP4.out.mi (by unfold maxLen; omega) rfl _ (ik (K : Nat)) _ rfl rfl (P.keyi HWK.out) HWV.out ?_)
      intro W5 hm5 ht5
      have HE := hide (And.intro (HP4.out.turn ht5 hm5) (HF4.out.trans (turned_one ht5)))
      clear hm5 ht5
      go_wp2
      go_ret
      exact ⟨rfl, HE.out.1, HE.out.2⟩
  | some v =>
    rw [hf] at l2
    simp only [Option.isSome_some, Option.getD_some] at l2
    go_wp2_with fail
    go_region_held3 (fun W => W.cell? ⟨x, 3, none⟩ = some (.int .i64 mx)) (first | exact c3 | exact d3) (first
      | (go_at_call 28; refine (HQ.out _ ?_).mono ?_; (first | with_reducible exact Same.refl _ | exact (Same.refl _).drew); rintro e2 W2 ⟨rfl, s2⟩; have HS2 := hide s2; have HP2 := hide (HP1.out.same s2); have ⟨d0, d1, d2, d3, d4, d5⟩ := face_cells HP2.out.hx; clear s2))
    all_goals
      clear l2 c0 c1 c2 c3 c4 c5 d0 d1 d2 d3 d4 d5
      have HQ3 : Hid (∀ W, Same W2 W → Calls Try.prog 28 #[.string key] W fun e w' => e = .returned (.int .i64 (K : Nat)) ∧ Same W2 w') := hide (fun W hW => (HK.out W).mono fun e w' ⟨q1, q2⟩ => ⟨q1, hW.trans q2⟩)
      go_wp2_with fail
      refine (HQ3.out _ (by first | with_reducible exact Same.refl _ | exact (Same.refl _).drew)).mono ?_
      rintro e W3 ⟨rfl, s3⟩
      have HS3 := hide s3
      clear s3
      go_wp2_with fail
      refine (HV.out _).mono ?_
      rintro e W4 ⟨rfl, s4⟩
      have hs4 := HS3.out.trans s4
      have HP4 := hide (HP2.out.same hs4)
      have HF4 := hide (((HS1.out.trans HS2.out).trans hs4).fr [b])
      clear s4 hs4
      go_wp2_with (at_mapUpdate; refine wpList_store_MI _ rfl _ _ _ 68 rfl P.ki P.und P.undInt HP4.out.mi (by unfold maxLen; omega) rfl _ (ik (K : Nat)) _ rfl rfl (P.keyi HWK.out) HWV.out ?_)
      intro W5 hm5 ht5
      have HE := hide (And.intro (HP4.out.turn ht5 hm5) (HF4.out.trans (turned_one ht5)))
      clear hm5 ht5
      go_wp2
      go_ret
      exact ⟨rfl, HE.out.1, HE.out.2⟩
def PTells (w : World) (v : Value) (e : Ending) (w' : World) : Prop := e = .returned v ∧ w = w'
set_option maxRecDepth 100000 in
theorem pprog_calls {w : World} {x b n mx : Nat} {fr : Bool} {f : Lit → Option Int} (h : PM w x b n mx fr f) {i : Int} (hi : W64 i) :
    Calls Try.prog 10 #[.pointer (some ⟨x, 0, none⟩), .int .i64 i] w (PTells w (.tuple #[.int .i64 ((f (ik i)).getD 0), .bool (f (ik i)).isSome])) := by
  have HI := hide (min_calls h.hx (.inl ⟨b, rfl⟩))
  obtain ⟨l1, l2, l3⟩ := h.mi.at hi
  have a5 := MA.pa5
  clear l1 l3 h
  go_enter Try.func10, Try.ntmps10
  go_wp2_with fail
  refine HI.out.mono ?_
  rintro e w' ⟨rfl, rfl⟩
  go_wp2
  go_ret2
  exact ⟨rfl, rfl⟩

/-! ### over a hash table -/
set_option maxRecDepth 100000 in
theorem hline_calls {w : World} {y hx : Nat} {kd key v mx : Int} {fr : Bool} (h : w.heap[y]? = some (faceO kd key v mx (.iface 64 (.pointer (some ⟨hx, 0, none⟩))) fr)) :
    Calls Try.prog 36 #[.pointer (some ⟨y, 0, none⟩)] w (MTells w (.pointer none)) := by
  have HI := hide (min_calls h (.inr ⟨hx, rfl⟩))
  have a3 := MA.ha3
  clear h
  go_enter Try.func36, Try.ntmps36
  go_wp2_with fail
  refine HI.out.mono ?_
  rintro e w' ⟨rfl, rfl⟩
  go_wp2
  go_ret
  exact ⟨rfl, rfl⟩
set_option maxRecDepth 100000 in
theorem hpush_calls {w : World} {y hx : Nat} {kd key v mx : Int} {fr : Bool} (h : w.heap[y]? = some (faceO kd key v mx (.iface 64 (.pointer (some ⟨hx, 0, none⟩))) fr)) (value : ByteArray) (fl : Int) :
    Calls Try.prog 17 #[.pointer (some ⟨y, 0, none⟩), .string value, .int .i64 fl] w (MTells w (.int .i64 1)) := by
  have HL := hide (hline_calls h)
  have HQ := hide (fun W => qpush_nil value fl W)
  clear h
  go_enter Try.func17, Try.ntmps17
  go_wp2_with fail
  refine HL.out.mono ?_
  rintro e w' ⟨rfl, rfl⟩
  go_wp2_with fail
  refine (HQ.out _).mono ?_
  rintro e w' ⟨rfl, rfl⟩
  go_wp2
  go_ret
  exact ⟨rfl, rfl⟩
set_option maxRecDepth 100000 in
theorem hlook_calls {w : World} {y hx : Nat} {kd key v mx : Int} {fr : Bool} (h : w.heap[y]? = some (faceO kd key v mx (.iface 64 (.pointer (some ⟨hx, 0, none⟩))) fr)) (k : ByteArray) (cpu : Int) {u : Int} {R : World → Prop}
    (hc : Calls Try.prog 42 #[.pointer (some ⟨hx, 0, none⟩), .string k] w fun e w' => e = .returned (.int .u64 u) ∧ R w') :
    Calls Try.prog 16 #[.pointer (some ⟨y, 0, none⟩), .string k, .int .i64 cpu] w fun e w' => e = .returned (.int .u64 u) ∧ R w' := by
  have HI := hide (min_calls h (.inr ⟨hx, rfl⟩))
  have HC := hide hc
  have a0 := MA.ha0
  have a1 := MA.ha1
  clear h hc
  go_enter Try.func16, Try.ntmps16
  go_wp2_with fail
  refine HI.out.mono ?_
  rintro e w' ⟨rfl, rfl⟩
  go_wp2_with fail
  refine HC.out.mono ?_
  rintro e w2 ⟨rfl, hr⟩
  have HR := hide hr
  clear hr
  go_wp2
  go_ret
  exact ⟨rfl, HR.out⟩
set_option maxRecDepth 100000 in
theorem hupd_calls {w : World} {y hx : Nat} {kd key v mx : Int} {fr : Bool} (h : w.heap[y]? = some (faceO kd key v mx (.iface 64 (.pointer (some ⟨hx, 0, none⟩))) fr)) (k value : ByteArray) (fl cpu : Int) {u : Int} {R : World → Prop}
    (hc : Calls Try.prog 26 #[.pointer (some ⟨hx, 0, none⟩), .string k, .string value, .int .i64 fl] w fun e w' => e = .returned (.int .i64 u) ∧ R w') :
    Calls Try.prog 7 #[.pointer (some ⟨y, 0, none⟩), .string k, .string value, .int .i64 fl, .int .i64 cpu] w fun e w' => e = .returned (.int .i64 u) ∧ R w' := by
  have HI := hide (min_calls h (.inr ⟨hx, rfl⟩))
  have HC := hide hc
  have a0 := MA.ha0
  have a1 := MA.ha1
  clear h hc
  go_enter Try.func7, Try.ntmps7
  go_wp2_with fail
  refine HI.out.mono ?_
  rintro e w' ⟨rfl, rfl⟩
  go_wp2_with fail
  refine HC.out.mono ?_
  rintro e w2 ⟨rfl, hr⟩
  have HR := hide hr
  clear hr
  go_wp2
  go_ret
  exact ⟨rfl, HR.out⟩
end Go.Proofs.Ytgkbiknokpmjmaa
