/- Contracts of the trie's Update where no entry is made: it answers as the plain data say; condition: table and memory lie in the world. -/
import Derived.Test.YtopdgpmeccdogaaTLook
import Derived.StillTailTactics
import Derived.Deep.RegionWith
set_option linter.unusedVariables false
set_option linter.unusedSimpArgs false
namespace Go.Proofs.Ytopdgpmeccdogaa
open Go.RowKit Go.MapKept
open Go.ChangeMaps (setBlock)

def TS (w : World) (x m : Nat) (s : TSpec) (f : List Bool → Nat) (n : Nat) (G : List Nat) : Prop := ∃ t, TM w x m s t n ∧ t.F = f ∧ G = x :: t.foot
/-- The world holds the table and its memory, side by side. -/
structure TK (w : World) (x m : Nat) (s : TSpec) (f : List Bool → Nat) (n : Nat) (k : KA) (G F : List Nat) : Prop where
  ts : TS w x m s f n G
  ks : KS w m k F
  dj : ∀ b ∈ G, b ∉ F
def TKPost (x m : Nat) (s : TSpec) (G F : List Nat) (w : World) (v : Value) (f : List Bool → Nat) (n : Nat) (k : KA) (e : Ending) (w' : World) : Prop := ∃ G' F', e = .returned v ∧ TK w' x m s f n k G' F' ∧ Fr (G ++ F) (G' ++ F') w w'
theorem Fr.left {G G' F : List Nat} {w w' : World} (h : Fr G G' w w') : Fr (G ++ F) (G' ++ F) w w' where
  os := h.os
  tape := h.tape
  output := h.output
  size := h.size
  block := fun k hk hn => h.block k hk (fun hg => hn (List.mem_append_left _ hg))
  foot := fun k hk => by
    rcases List.mem_append.1 hk with h1 | h1
    · rcases h.foot k h1 with h2 | h2
      · exact .inl (List.mem_append_left _ h2)
      · exact .inr h2
    · exact .inl (List.mem_append_right _ h1)
theorem Fr.right {G F F' : List Nat} {w w' : World} (h : Fr F F' w w') : Fr (G ++ F) (G ++ F') w w' where
  os := h.os
  tape := h.tape
  output := h.output
  size := h.size
  block := fun k hk hn => h.block k hk (fun hg => hn (List.mem_append_right _ hg))
  foot := fun k hk => by
    rcases List.mem_append.1 hk with h1 | h1
    · exact .inl (List.mem_append_left _ h1)
    · rcases h.foot k h1 with h2 | h2
      · exact .inl (List.mem_append_right _ h2)
      · exact .inr h2
theorem Fr.none {F : List Nat} {w w' : World} (h : Fr [] [] w w') : Fr F F w w' := (Fr.refl F w).more h
theorem TM.fr {w w' : World} {x m : Nat} {s : TSpec} {t : CT} {n : Nat} {F F' : List Nat} (h : TM w x m s t n) (f : Fr F F' w w') (hd : ∀ b ∈ x :: t.foot, b ∉ F) : TM w' x m s t n :=
  h.frame fun k hk => f.block k (h.lt k hk) (hd k hk)
theorem TS.lt {w : World} {x m : Nat} {s : TSpec} {f : List Bool → Nat} {n : Nat} {G : List Nat} (h : TS w x m s f n G) : ∀ b ∈ G, b < w.heap.size := by
  obtain ⟨t, h1, rfl, rfl⟩ := h
  exact h1.lt
theorem TS.fr {w w' : World} {x m : Nat} {s : TSpec} {f : List Bool → Nat} {n : Nat} {G F F' : List Nat} (h : TS w x m s f n G) (g : Fr F F' w w') (hd : ∀ b ∈ G, b ∉ F) : TS w' x m s f n G := by
  obtain ⟨t, h1, rfl, rfl⟩ := h
  exact ⟨t, h1.fr g hd, rfl, rfl⟩
section
variable {w w' : World} {x m : Nat} {s : TSpec} {f f' : List Bool → Nat} {n n' : Nat} {k k' : KA} {G G' F F' : List Nat}
theorem TK.ofT (H : TK w x m s f n k G F) (H' : TS w' x m s f' n' G') (g : Fr G G' w w') : TK w' x m s f' n' k G' F where
  ts := H'
  ks := H.ks.frame fun b hb => g.block b (H.ks.lt b hb) (fun hg => H.dj b hg hb)
  dj := fun b hb hf => by
    rcases g.foot b hb with h1 | h1
    · exact H.dj b h1 hf
    · have := H.ks.lt b hf; omega
theorem TK.ofK (H : TK w x m s f n k G F) (H' : KS w' m k' F') (g : Fr F F' w w') : TK w' x m s f n k' G F' where
  ts := H.ts.fr g H.dj
  ks := H'
  dj := fun b hb hf => by
    rcases g.foot b hf with h1 | h1
    · exact H.dj b hb h1
    · have := H.ts.lt b hb; omega
theorem TK.fr0 (H : TK w x m s f n k G F) (g : Fr [] [] w w') : TK w' x m s f n k G F where
  ts := H.ts.fr g (by simp)
  ks := H.ks.fr g
  dj := H.dj
end
def tset (f : List Bool → Nat) (p : List Bool) (a : Nat) : List Bool → Nat := fun q => if q = p then a else f q
theorem bits_bad {w : World} {x m : Nat} {s : TSpec} {t : CT} {n : Nat} (h : TM w x m s t n) (hs : s.May) (key : ByteArray) (hk : s.ok key = false) :
    Calls Try.prog 32 #[.pointer (some ⟨x, 0, none⟩), .string key] w (TellsS w (.tuple #[.slice none 0 0, .bool false])) := by
  have h1 := hs.ky
  by_cases h2 : key.size = s.key
  · have h3 : ¬ tlen key ≤ 8 * (key.size - 4) := by simpa [TSpec.ok, h2] using hk
    exact bits_long h key h2 (by omega) (by omega) (by omega)
  · exact (bits_size h key h2).mono fun e w' ⟨he, hw⟩ => ⟨he, hw ▸ Same.refl _⟩
def PathPost (p : List Bool) (w : World) (e : Ending) (w' : World) : Prop := ∃ d, e = .returned (.tuple #[.slice (some ⟨d, 0, none⟩) p.length p.length, .bool true]) ∧ w.heap.size ≤ d ∧ w'.heap[d]? = some (byteCells (pbits p)) ∧ Fr [] [] w w'
theorem bits_good {w : World} {x m : Nat} {s : TSpec} {t : CT} {n : Nat} (h : TM w x m s t n) (hs : s.May) (key : ByteArray) (hk : s.ok key = true) :
    Calls Try.prog 32 #[.pointer (some ⟨x, 0, none⟩), .string key] w (PathPost (tpath key) w) ∧ (tpath key).length ≤ 8 * (s.key - 4) := by
  have h1 := hs.ky
  simp only [TSpec.ok, Bool.and_eq_true, decide_eq_true_eq] at hk
  have hpl := tpath_length key
  refine ⟨(bits_ok h key hk.1 (by omega) (by omega) hk.2).mono fun e w' ⟨d, he, h2, h3, h4⟩ => ⟨d, by rw [hpl]; exact he, h2, by rw [tpath_bits]; exact h3, h4⟩, ?_⟩
  rw [hpl, ← hk.1]; exact hk.2
set_option maxRecDepth 100000 in
theorem tupdate_nil (key value : ByteArray) (fl : Int) (w : World) : Calls Try.prog 10 #[.pointer none, .string key, .string value, .int .i64 fl] w (Tells w (.int .i64 1)) := by
  go_enter Try.func10, Try.ntmps10
  go_wp2
  go_ret
  exact ⟨rfl, rfl⟩
set_option maxRecDepth 100000 in
theorem tupdate_badkey {w : World} {x m : Nat} {s : TSpec} {t : CT} {n : Nat} (h : TM w x m s t n) (hs : s.May) (key value : ByteArray) (fl : Int) (hk : s.ok key = false) :
    Calls Try.prog 10 #[.pointer (some ⟨x, 0, none⟩), .string key, .string value, .int .i64 fl] w (FreshPost w (.int .i64 1)) := by
  have HB := hide (bits_bad h hs key hk)
  obtain ⟨c0, c2, c3, c4, c5, c6, -⟩ := h.cells
  obtain ⟨b, hb⟩ := h.root
  rw [hb] at c5
  clear h hk hb
  go_enter Try.func10, Try.ntmps10
  go_wp2_with fail
  refine HB.out.mono ?_
  rintro e w1 ⟨rfl, h1⟩
  go_wp2
  go_ret
  exact ⟨rfl, h1.fr []⟩
set_option maxRecDepth 100000 in
theorem tupdate_bad {w : World} {x m : Nat} {s : TSpec} {t : CT} {n : Nat} (h : TM w x m s t n) (hs : s.May) (key value : ByteArray) (fl : Int) (hk : s.ok key = true) (hbad : value.size ≠ s.value ∨ fl < 0 ∨ 2 < fl) :
    Calls Try.prog 10 #[.pointer (some ⟨x, 0, none⟩), .string key, .string value, .int .i64 fl] w (FreshPost w (.int .i64 1)) := by
  obtain ⟨hb, hlen⟩ := bits_good h hs key hk
  have HB := hide hb
  obtain ⟨c0, c2, c3, c4, c5, c6, -⟩ := h.cells
  obtain ⟨b, hb⟩ := h.root
  rw [hb] at c5
  have HT := hide h
  clear h hk hb hlen
  generalize tpath key = p at *
  by_cases k1 : value.size ≠ s.value
  · have hb2 : ((value.size : Int) != (s.value : Int)) = true := by rw [bne_iff_ne]; omega
    clear hbad k1
    go_enter Try.func10, Try.ntmps10
    go_wp2_with fail
    refine HB.out.mono ?_
    rintro e w1 ⟨d, rfl, -, -, hfr⟩
    obtain ⟨c0, c2, c3, c4, c5, c6, -⟩ := (HT.out.fr hfr (by simp)).cells
    go_wp2
    go_ret
    exact ⟨rfl, hfr⟩
  have hb2 : ((value.size : Int) != (s.value : Int)) = false := by rw [bne_eq_false_iff_eq]; omega
  by_cases k3 : fl < 0
  · clear hbad k1
    go_enter Try.func10, Try.ntmps10
    go_wp2_with fail
    refine HB.out.mono ?_
    rintro e w1 ⟨d, rfl, -, -, hfr⟩
    obtain ⟨c0, c2, c3, c4, c5, c6, -⟩ := (HT.out.fr hfr (by simp)).cells
    go_wp2
    go_ret
    exact ⟨rfl, hfr⟩
  have k4 : 2 < fl := by omega
  clear hbad k1
  go_enter Try.func10, Try.ntmps10
  go_wp2_with fail
  refine HB.out.mono ?_
  rintro e w1 ⟨d, rfl, -, -, hfr⟩
  obtain ⟨c0, c2, c3, c4, c5, c6, -⟩ := (HT.out.fr hfr (by simp)).cells
  go_wp2
  go_ret
  exact ⟨rfl, hfr⟩
set_option maxRecDepth 100000 in
set_option maxHeartbeats 800000 in
/-- At a prefix that has a value. -/
theorem tupdate_old {w : World} {x m : Nat} {s : TSpec} {t : CT} {n : Nat} {k k' : KA} {F : List Nat} {e' : Int} (H : TK w x m s t.F n k (x :: t.foot) F) (h : TM w x m s t n) (hs : s.May) (key value : ByteArray) (fl : Int) (hk : s.ok key = true) (hv : value.size = s.value) (h0 : 0 ≤ fl) (h2 : fl ≤ 2)
    (ha : t.F (tpath key) ≠ 0) (E : (if fl = 1 then (5, k) else k.put (t.F (tpath key)) (nats value)) = (e', k')) :
    Calls Try.prog 10 #[.pointer (some ⟨x, 0, none⟩), .string key, .string value, .int .i64 fl] w (TKPost x m s (x :: t.foot) F w (.int .i64 e') t.F n k') := by
  obtain ⟨hb, hlen⟩ := bits_good h hs key hk
  have HB := hide hb
  have hs1 := hs.ky
  obtain ⟨c0, c2, c3, c4, c5, c6, -⟩ := h.cells
  obtain ⟨b, hb⟩ := h.root
  rw [hb] at c5
  have HT := hide (And.intro h H)
  have hb2 : ((value.size : Int) != (s.value : Int)) = false := by rw [bne_eq_false_iff_eq]; omega
  have hb5 : ¬ 2 < fl := by omega
  have hab := h.ab (tpath key)
  clear h hk hb hv H
  generalize tpath key = p at *
  obtain ⟨b1, l1, r1, a1, f1, hsub⟩ : ∃ b l r a f, t.sub p = .node b l r a f := by
    cases hx : t.sub p with
    | nil => exact absurd (by unfold CT.F; rw [hx]; rfl) ha
    | node b l r a f => exact ⟨b, l, r, a, f, rfl⟩
  have hFa : t.F p = a1 := by unfold CT.F; rw [hsub]; rfl
  rw [hFa] at ha E hab
  have hne : ((a1 : Int) != 0) = true := by rw [bne_iff_ne]; omega
  have HS := hide hsub
  have hptr : (t.sub p).ptr = some ⟨b1, 0, none⟩ := by rw [hsub]; rfl
  have HPT := hide hptr
  clear hsub hptr hFa
  go_enter Try.func10, Try.ntmps10
  go_wp2_with fail
  refine HB.out.mono ?_
  rintro e w1 ⟨d, rfl, hdw, hd, hfr⟩
  have hm1 := HT.out.1.fr hfr (by simp)
  have H1 := HT.out.2.fr0 hfr
  have HF := hide (find_no hm1 p d hd (by omega))
  rw [HPT.out] at HF
  obtain ⟨c0, c2, c3, c4, c5, c6, -⟩ := hm1.cells
  have hh := CT.holds_sub hm1.ht p
  rw [HS.out] at hh
  obtain ⟨-, -, q2, -⟩ := CT.obj_reads hh.1
  have HX := hide (And.intro hfr H1)
  have hks := H1.ks
  clear hh hm1 hd hdw hfr HB HT HS HPT H1
  go_wp2_with fail
  refine HF.out.mono ?_
  rintro e w' ⟨rfl, rfl⟩
  clear HF
  by_cases hfl : fl = 1
  · subst hfl
    simp only [if_true, Prod.mk.injEq] at E
    obtain ⟨rfl, rfl⟩ := E
    go_wp2
    go_ret
    exact ⟨_, _, rfl, HX.out.2, HX.out.1.none⟩
  · have hb3 : (fl == 1) = false := by rw [beq_eq_false_iff_ne]; omega
    rw [if_neg hfl] at E
    have HP : ∀ W, KS W m k F → Hid (Calls Try.prog 34 #[.pointer (some ⟨m, 0, none⟩), .int .u64 (a1 : Nat), .string value] W (KPostS m F W (.int .i64 e') k')) := fun W hW => hide (put_S hW rfl hab E)
    clear E hfl
    go_wp2_with fail
    go_region_with (go_at_call 34; refine (HP _ ?_).out.mono ?_; (first | exact hks | exact hks.drew | exact hks.drewN _); rintro e w2 ⟨F2, rfl, hk2, f2⟩)
    all_goals
      have f2' : Fr F F2 w1 w2 := by first | exact f2 | exact (Fr.refl F _).drew.trans f2
      have HE : Hid (TKPost x m s (x :: t.foot) F w (.int .i64 e') t.F n k' (.returned (.int .i64 e')) w2) :=
        hide ⟨_, F2, rfl, HX.out.2.ofK hk2 f2', HX.out.1.none.trans f2'.right⟩
      go_wp2
      go_ret
      exact HE.out
end Go.Proofs.Ytopdgpmeccdogaa
