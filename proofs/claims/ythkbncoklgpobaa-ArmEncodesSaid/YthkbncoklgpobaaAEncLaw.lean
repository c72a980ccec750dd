/- ArmEncodes: the program and the reference lay the same bytes; condition: the instructions lie in memory, and their bytes fit. -/
import Derived.Test.YthkbncoklgpobaaARow
import Derived.Test.YthkbncoklgpobaaQArmEncodesx1
import Derived.Maps.AppendAt
import Derived.OwnWalk
set_option linter.unusedVariables false
set_option linter.unusedSimpArgs false
namespace Go.Proofs.Ythkbncoklgpobaa
open Go.RowKit Go.MapKept
open Go.Proofs.YthkbncoklgpobaaW.PrintWords Go.Proofs.YthkbncoklgpobaaW.PrintLast Go.Proofs.YthkbncoklgpobaaW.PrintMore
open QArmDecodes (S32 k32 z32)
open QArmEncodes (portcullisref25_Encode.f portcullisref25_Encode.l0)

def cv (x : S32) : QArmEncodes.S32 := ⟨x.f0, x.f1, x.f2, x.f3, x.f4⟩
theorem cv_C {w : World} {A : Option Addr} {n : Nat} {xs : List S32} (h : Kd.C k32 w A n xs) : Kd.C QArmEncodes.k32 w A n (xs.map cv) := by
  obtain ⟨h1, h2, h3⟩ := h
  refine ⟨by simpa using h1, h2, fun h0 => ?_⟩
  obtain ⟨ad, e, hc⟩ := h3 h0
  refine ⟨ad, e, fun j p hp => ?_⟩
  rw [List.getElem?_map] at hp
  obtain ⟨q, hq, rfl⟩ := Option.map_eq_some_iff.1 hp
  exact hc j q hq
theorem bytes_word (v : Int) : Go.Proofs.YthkbncoklgpobaaW.PrintWords.bytesOf (strOfNums (wordBytes v)) = wordBytes v := by
  simp only [bytesOf, strOfNums, wordBytes, List.map_map, List.map_cons, List.map_nil, Function.comp]
  have h : ∀ x : Int, 0 ≤ x → x < 256 → (((UInt8.ofNat x.toNat).toNat : Nat) : Int) = x := fun x h0 h1 => by
    simp
    omega
  rw [h _ (by omega) (by omega), h _ (by omega) (by omega), h _ (by omega) (by omega), h _ (by omega) (by omega)]
theorem refenc_l0 (l : List S32) (hl : l.length * 4 < 100000000000000) : ∀ (n i k : Nat) (acc : List Int), i + n = l.length → n < k → acc.length = 4 * i →
    portcullisref25_Encode.l0 k (l.map cv) acc i = some (encRes ((encAll (l.drop i)).map (acc ++ ·))) := by
  intro n
  induction n with
  | zero =>
    intro i k acc hi hk ha
    obtain ⟨k, rfl⟩ : ∃ m, k = m + 1 := ⟨k - 1, by omega⟩
    rw [portcullisref25_Encode.l0, if_neg (by simp; omega), List.drop_eq_nil_of_le (by omega)]
    simp [encAll, encRes]
  | succ n ih =>
    intro i k acc hi hk ha
    obtain ⟨k, rfl⟩ : ∃ m, k = m + 1 := ⟨k - 1, by omega⟩
    have e : QArmEncodes.rd_T32 (l.map cv) i = cv l[i] := by simp [QArmEncodes.rd_T32, List.getD, show i < l.length by omega]
    have hW := (refW_eq l[i].f0 l[i].f1 l[i].f2 l[i].f3 l[i].f4).2
    have hA := isW_armW l[i].f0 l[i].f1 l[i].f2 l[i].f3 l[i].f4
    rw [portcullisref25_Encode.l0, if_pos (by simp; omega), if_pos (by omega), e, ref_word.f, Option.bind_some, List.drop_eq_getElem_cons (by omega)]
    show (if refW l[i].f0 l[i].f1 l[i].f2 l[i].f3 l[i].f4 < 0 then _ else _) = _
    by_cases c : sw l[i] < 0
    · rw [if_pos, encAll, if_pos c]
      · rfl
      · rcases hW with h | h
        · have := hA.of_enc h
          have := h.range
          unfold sw at c
          omega
        · exact h.1
    · have hen : Enc l[i].f0 l[i].f1 l[i].f2 l[i].f3 l[i].f4 (sw l[i]) := hA.of_nonneg (by unfold sw at c; omega)
      have hr := hen.range
      have he : refW l[i].f0 l[i].f1 l[i].f2 l[i].f3 l[i].f4 = sw l[i] := hW.of_enc hen
      have hle : ref_le.f (IntKind.u64.wrap (refW l[i].f0 l[i].f1 l[i].f2 l[i].f3 l[i].f4)) 4 = some (strOfNums (wordBytes (sw l[i]))) := by
        rw [he, wraps_u64 _ hr.1 (by omega), ref_le.f, if_pos ⟨hr.1, rfl⟩]; rfl
      rw [if_neg (by omega)]
      show (ref_le.f (IntKind.u64.wrap (refW l[i].f0 l[i].f1 l[i].f2 l[i].f3 l[i].f4)) 4).bind _ = _
      rw [hle, Option.bind_some, if_pos (by rw [strOfNums_size]; simp [wordBytes]; omega), bytes_word, show wrap64 ((i : Int) + 1) = ((i + 1 : Nat) : Int) by unfold wrap64; omega]
      have := ih (i + 1) k (acc ++ wordBytes (sw l[i])) (by omega) (by omega) (by simp [wordBytes]; omega)
      refine this.trans ?_
      rw [encAll, if_neg c, Option.map_map]
      congr 3
      funext x
      simp
theorem refenc_eq (l : List S32) (hl : l.length * 4 < 100000000000000) (k : Nat) (hk : l.length < k) : portcullisref25_Encode.f k (l.map cv) = some (encRes (encAll l)) := by
  have := refenc_l0 l hl l.length 0 k [] (by omega) hk (by simp)
  unfold portcullisref25_Encode.f
  simpa using this
theorem Reps.one_cells {w : World} {xs : List S32} {inner : List Value} (h : Reps (k32.K w) 5 xs inner) : ∀ u ∈ inner, u.oneCell' = true := by
  intro u hu
  obtain ⟨i, hi, rfl⟩ := List.getElem_of_mem hu
  have hl := h.1
  have hq : i / 5 < xs.length := by omega
  have hk := h.2 (i / 5) xs[i / 5] (List.getElem?_eq_getElem hq)
  refine k32.K_one hk _ ?_
  have hlt : i % 5 < ((inner.drop (i / 5 * 5)).take 5).length := by simp; omega
  have e : ((inner.drop (i / 5 * 5)).take 5)[i % 5] = inner[i] := by
    rw [List.getElem_take, List.getElem_drop]
    congr 1
    omega
  rw [← e]
  exact List.getElem_mem hlt
theorem arm_info : (Try.prog.info? 32).map (fun i => (i.zero, i.size, i.bytes)) = some (some (.agg #[.int .i64 0, .int .i64 0, .int .i64 0, .int .i64 0, .int .i64 0]), 5, 40) := by kernel_rfl
set_option maxRecDepth 100000 in
set_option maxHeartbeats 2000000 in
theorem enc_calls (A : Option Addr) (cap : Nat) (xs : List S32) (w : World) (hc : Kd.C k32 w A xs.length xs) (hcap : xs.length ≤ cap) (hy : xs.length * 40 ≤ 140737488351232) :
    Calls Try.prog 3 #[.slice A xs.length cap] w (BelowPost w (.bool true)) := by
  have HC := hide hc
  have HP := hide hcap
  have HY := hide hy
  have hau := Try.underlying22
  obtain ⟨i0, hi, hz0, hz1, hz2⟩ := info_parts arm_info
  have HE : Hid (∀ (A' : Option Addr) (c' : Nat) (W : World), Kd.C k32 W A' xs.length xs → xs.length ≤ c' → Calls Try.prog 6 #[.slice A' xs.length c'] W fun e w' => e = .returned (.tuple #[.string (encRes (encAll xs)).1, .int .i64 (encRes (encAll xs)).2]) ∧ Below W.heap.size W w') :=
    hide fun A' c' W h1 h2 => QArmDecodes.arm_Encode.calls (xs.length + 1) A' c' xs _ _ W h1 h2 (encode_eq xs (by omega) _ (by omega))
  have HF : Hid (∀ (W : World), Kd.C k32 W A xs.length xs → Calls Try.prog 7 #[.slice A xs.length cap] W fun e w' => e = .returned (.tuple #[.string (encRes (encAll xs)).1, .int .i64 (encRes (encAll xs)).2]) ∧ Below W.heap.size W w') :=
    hide fun W h1 => by
      have := QArmEncodes.portcullisref25_Encode.calls (xs.length + 1) A cap (xs.map cv) (encRes (encAll xs)).1 (encRes (encAll xs)).2 W (by simpa using cv_C h1) (by simpa using hcap) (refenc_eq xs (by omega) _ (by omega))
      simpa using this
  generalize (encRes (encAll xs)).1 = s at *
  generalize (encRes (encAll xs)).2 = er at *
  clear hc hcap hy
  cases A with
  | none =>
    have h0 : xs.length = 0 := by
      have := HC.out.2.2
      rcases Nat.eq_zero_or_pos xs.length with h | h
      · exact h
      · obtain ⟨ad, e, _⟩ := this h; cases e
    generalize hn : xs.length = n at *
    subst h0
    have HN := hide hn
    clear hn
    go_enter Try.func3, Try.ntmps3
    go_wp2_with fail
    refine (HE.out none 0 w ⟨HN.out, by omega, fun h => by omega⟩ (Nat.le_refl _)).mono ?_
    rintro e W ⟨rfl, hb⟩
    have HB := hide hb
    clear hb
    go_wp2_with fail
    refine (HF.out _ (Kd.C_below HC.out HB.out)).mono ?_
    rintro e W' ⟨rfl, hb'⟩
    have HB' := hide hb'
    clear hb'
    go_wp2_with fail
    refine (law_awake.calls true _ rfl).mono ?_
    rintro e W'' ⟨rfl, hb''⟩
    go_wp2
    go_ret
    exact ⟨rfl, (HB.out.trans (HB'.out.mono HB.out.size)).trans (hb''.mono (Nat.le_trans HB.out.size HB'.out.size))⟩
  | some ad =>
    obtain ⟨inner, hr, hcell⟩ : ∃ inner, Reps (k32.K w) 5 xs inner ∧ ∀ j u, inner[j]? = some u → w.cell? (ad.add j) = some u := ReadsRow.inner_ HC.out
    have h1 : ∀ u ∈ inner, u.oneCell' = true := Reps.one_cells hr
    have hrl : inner.length = xs.length * 5 := hr.1
    have HR := hide hr
    generalize hn : xs.length = n at *
    have HN := hide hn
    clear hr hn
    have HCELL := hide hcell
    have H1 := hide h1
    have HRL := hide hrl
    have hn0 : n ≤ 3518437208780 := by have := HY.out; omega
    clear hcell h1 hrl
    go_enter Try.func3, Try.ntmps3
    go_wp2_with (at_builtin; refine wpList_append_own_at _ rfl _ _ 22 rfl w.heap.size 32 i0 _ 5 40 hau hi hz0 hz1 hz2 rfl (by decide) (.slice none 0 0) 0 [] rfl (World.ownsRow_nil _ _ _ _) ad n cap inner rfl HRL.out HCELL.out H1.out (by unfold maxLen; omega) (by omega) (Nat.le_refl _) ?_; intro v1 w1 hown1 hg1 _ hat1)
    have HO : OwnRow (k32.K w) 32 5 w1 w.heap.size v1 xs := ⟨inner, by rw [HN.out]; simpa using hown1, HR.out⟩
    obtain ⟨A', c', hv, hle, hrd⟩ := HO.reads
    rw [HN.out] at hv hle hrd
    subst hv
    have hb1 : Below w.heap.size w w1 := (Below.refl _ _).grown hg1 (Nat.le_refl _) (by simp [Value.ownBlock])
    have HB1 := hide hb1
    have HRD : Hid (Kd.C k32 w1 A' n xs) := hide hrd
    have HLE := hide hle
    clear hown1 hg1 hat1 HO hle hrd hb1
    refine (HE.out A' c' w1 HRD.out HLE.out).mono ?_
    rintro e W ⟨rfl, hb⟩
    have HB := hide (HB1.out.trans (hb.mono HB1.out.size))
    clear hb
    go_wp2_with fail
    refine (HF.out _ (Kd.C_below HC.out HB.out)).mono ?_
    rintro e W' ⟨rfl, hb'⟩
    have HB' := hide hb'
    clear hb'
    go_wp2_with fail
    refine (law_awake.calls true _ rfl).mono ?_
    rintro e W'' ⟨rfl, hb''⟩
    go_wp2
    go_ret
    exact ⟨rfl, (HB.out.trans (HB'.out.mono HB.out.size)).trans (hb''.mono (Nat.le_trans HB.out.size HB'.out.size))⟩
theorem enc_row {w : World} {a : Option Addr} {len cap : Nat} (h : RowF w a len cap [.int .i64, .int .i64, .int .i64, .int .i64, .int .i64]) (hy : len * 40 ≤ 140737488351232) :
    Calls Try.prog 3 #[.slice a len cap] w fun e w' => e = .returned (.bool true) ∧ Below w.heap.size w w' := by
  have hcap : len ≤ cap := by
    rcases h with h | ⟨b, o, rfl, h1, h2, h3⟩ <;> omega
  obtain ⟨xs, rfl, hC⟩ := row_arm h (by omega)
  exact enc_calls _ _ _ _ hC hcap hy
end Go.Proofs.Ythkbncoklgpobaa
