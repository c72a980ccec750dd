/- Plain laws of the hash table: what Update, Lookup and Next keep; no condition. -/
import Derived.Test.YtpacfhpnnejlbaaHAwake
set_option linter.unusedVariables false
set_option linter.unusedSimpArgs false
namespace Go.Proofs.Ytpacfhpnnejlbaa
open Go.RowKit Go.MapKept

/-! ### Memory -/
theorem KA.get_upd (k : KA) (n i : Nat) (f : RA → RA) : (k.upd n f).get i = if i = n then (k.get i).map f else k.get i := by
  unfold KA.get KA.upd
  simp only [List.find?_map]
  have e : ((fun x : Nat × RA => x.1 == i) ∘ fun x => if x.1 = n then (x.1, f x.2) else x) = fun x => x.1 == i := by
    funext x
    simp only [Function.comp_apply]
    split <;> rfl
  rw [e]
  cases hx : k.live.find? (fun x => x.1 == i) with
  | none => simp
  | some x =>
    have h1 := List.find?_some hx
    simp only [beq_iff_eq] at h1
    simp only [Option.map_some]
    rw [h1]
    split <;> rfl
/-- What a memory still holds in another. -/
structure KLe (k k' : KA) : Prop where
  made : k.made ≤ k'.made
  get : ∀ i r, k.get i = some r → ∃ r', k'.get i = some r' ∧ r'.bytes.length = r.bytes.length
theorem KLe.refl (k : KA) : KLe k k := ⟨Nat.le_refl _, fun i r h => ⟨r, h, rfl⟩⟩
theorem KLe.trans {a b c : KA} (h : KLe a b) (g : KLe b c) : KLe a c := ⟨Nat.le_trans h.made g.made, fun i r hr => by
  obtain ⟨r', h1, h2⟩ := h.get i r hr
  obtain ⟨r2, h3, h4⟩ := g.get i r' h1
  exact ⟨r2, h3, h4.trans h2⟩⟩
theorem KLe.upd (k : KA) (n : Nat) (f : RA → RA) (hf : ∀ r, k.get n = some r → (f r).bytes.length = r.bytes.length) : KLe k (k.upd n f) := ⟨Nat.le_refl _, fun i r hr => by
  rw [KA.get_upd]
  by_cases h : i = n
  · subst h
    rw [if_pos rfl, hr]
    exact ⟨_, rfl, hf r hr⟩
  · rw [if_neg h]
    exact ⟨r, hr, rfl⟩⟩
/-- A memory with room, in which nothing fails. -/
structure KGood (k : KA) : Prop where
  til : k.til = 0
  lv : k.live.length ≤ k.made
  nb : ∀ x ∈ k.live, x.1 ≤ k.made
theorem KGood.upd {k : KA} (h : KGood k) (n : Nat) (f : RA → RA) : KGood (k.upd n f) := by
  refine ⟨h.til, by simp [KA.upd]; exact h.lv, ?_⟩
  intro x hx
  simp only [KA.upd, List.mem_map] at hx
  obtain ⟨y, hy, rfl⟩ := hx
  have := h.nb y hy
  split <;> exact this
theorem KGood.alloc {k : KA} (h : KGood k) (n : Nat) (h1 : 1 ≤ n) (h2 : n ≤ 1048576) (hm : k.made < 4096) :
    k.alloc (n : Int) 3 = ((k.made + 1) * 4294967296, 0, k.allocOk n 3) ∧ KGood (k.allocOk n 3) ∧ KLe k (k.allocOk n 3) ∧ (k.allocOk n 3).get (k.made + 1) = some ⟨List.replicate n 0, 3, false⟩ ∧ (k.allocOk n 3).made = k.made + 1 := by
  have hl := h.lv
  refine ⟨?_, ⟨by simp [KA.allocOk, h.til], by simp [KA.allocOk]; exact hl, ?_⟩, ⟨by simp [KA.allocOk], fun i r hr => ?_⟩, ?_, rfl⟩
  · unfold KA.alloc
    rw [if_neg (by omega), if_neg (by rw [h.til]; decide), if_neg (by omega)]
  · intro x hx
    simp only [KA.allocOk, List.mem_append, List.mem_singleton] at hx ⊢
    rcases hx with hx | rfl
    · have := h.nb x hx; omega
    · simp
  · refine ⟨r, ?_, rfl⟩
    simp only [KA.get, Option.map_eq_some_iff] at hr
    obtain ⟨x, hx, rfl⟩ := hr
    simp only [KA.get, KA.allocOk, List.find?_append, hx, Option.some_or, Option.map_some]
  · have hno : k.live.find? (fun x => x.1 == k.made + 1) = none := by
      rw [List.find?_eq_none]
      intro x hx
      have := h.nb x hx
      simp; omega
    simp [KA.get, KA.allocOk, List.find?_append, hno]
theorem hi_mul (i : Nat) : hi32 (i * 4294967296) = i := by unfold hi32; omega
theorem lo_mul (i : Nat) : lo32 (i * 4294967296) = 0 := by unfold lo32; omega
theorem KA.put_ok {k : KA} {a i : Nat} {r : RA} {v : List Nat} (ha : hi32 a = i) (hb : lo32 a = 0) (h1 : 1 ≤ i) (h2 : i ≤ k.made) (hg : k.get i = some r) (hv : v.length = r.bytes.length) (hl : v.length ≤ 1048576) :
    k.put a v = (0, k.upd i fun r => { r with bytes := splice r.bytes 0 v }) := by
  unfold KA.put
  rw [if_neg (by omega)]
  unfold KA.span
  rw [ha, hb, if_neg (by omega), hg]
  simp only [Nat.and_zero, ne_eq, not_true_eq_false, if_false]
  rw [if_neg (by omega)]
theorem splice0 (b v : List Nat) (h : v.length = b.length) : splice b 0 v = v := by simp [splice, h]
theorem KA.retire_le (k : KA) (a : Nat) : KLe k (k.retire a).2 ∧ (KGood k → KGood (k.retire a).2) ∧ (k.retire a).2.made = k.made := by
  unfold KA.retire
  cases k.first a with
  | none => exact ⟨KLe.refl k, id, rfl⟩
  | some r =>
    simp only
    split
    · exact ⟨KLe.refl k, id, rfl⟩
    · refine ⟨?_, fun h => ?_, rfl⟩
      · show KLe k (k.upd (hi32 a) fun r => { r with ret := true })
        exact KLe.upd k _ _ (fun _ _ => rfl)
      show KGood (k.upd (hi32 a) fun r => { r with ret := true })
      exact h.upd _ _

/-! ### The table -/
structure HInv (s : HSpec) (h : HA) (k : KA) : Prop where
  pw : h.es.Pairwise fun a b => a.key ≠ b.key ∧ a.used ≠ b.used
  uc : ∀ e ∈ h.es, e.used ≤ h.clock
  sz : ∀ e ∈ h.es, e.key.size = s.key
  mx : h.es.length ≤ s.max
  rg : ∀ e ∈ h.es, ∃ i r, e.at_ = i * 4294967296 ∧ 1 ≤ i ∧ i ≤ k.made ∧ k.get i = some r ∧ r.bytes.length = s.value
  gd : KGood k
theorem HInv.start (s : HSpec) : HInv s (HA.mk [] 0) ⟨0, 0, []⟩ := ⟨List.Pairwise.nil, by simp, by simp, by simp, by simp, ⟨rfl, by simp, by simp⟩⟩
theorem HInv.un {s : HSpec} {h : HA} {k : KA} (H : HInv s h k) : (h.es.map (·.used)).Nodup := by
  rw [List.Nodup, List.pairwise_map]; exact H.pw.imp fun h => h.2
theorem HInv.kn {s : HSpec} {h : HA} {k : KA} (H : HInv s h k) : (h.es.map (·.key)).Nodup := by
  rw [List.Nodup, List.pairwise_map]; exact H.pw.imp fun h => h.1
theorem HInv.mem {s : HSpec} {h : HA} {k k' : KA} (H : HInv s h k) (hl : KLe k k') (hg : KGood k') : HInv s h k' :=
  ⟨H.pw, H.uc, H.sz, H.mx, fun e he => by
    obtain ⟨i, r, h1, h2, h3, h4, h5⟩ := H.rg e he
    obtain ⟨r', h6, h7⟩ := hl.get i r h4
    exact ⟨i, r', h1, h2, Nat.le_trans h3 hl.made, h6, h7.trans h5⟩, hg⟩
theorem HInv.mark {s : HSpec} {h : HA} {k : KA} (H : HInv s h k) (key : ByteArray) : HInv s (h.mark key) k := by
  refine ⟨?_, ?_, ?_, ?_, ?_, H.gd⟩
  · simp only [HA.mark, List.pairwise_map]
    refine H.pw.imp_of_mem ?_
    intro a b ha hb hab
    have h1 := H.uc a ha
    have h2 := H.uc b hb
    have h3 := hab.1
    have h4 := hab.2
    by_cases c1 : a.key = key <;> by_cases c2 : b.key = key
    · exact absurd (c1.trans c2.symm) h3
    · rw [if_pos c1, if_neg c2]
      refine ⟨h3, ?_⟩
      show h.clock + 1 ≠ b.used
      omega
    · rw [if_neg c1, if_pos c2]
      refine ⟨h3, ?_⟩
      show a.used ≠ h.clock + 1
      omega
    · rw [if_neg c1, if_neg c2]
      exact ⟨h3, h4⟩
  · intro e he
    simp only [HA.mark, List.mem_map] at he ⊢
    obtain ⟨q, hq, rfl⟩ := he
    have := H.uc q hq
    split
    · exact Nat.le_refl _
    · omega
  · intro e he
    simp only [HA.mark, List.mem_map] at he
    obtain ⟨q, hq, rfl⟩ := he
    split
    · exact H.sz q hq
    · exact H.sz q hq
  · simp only [HA.mark, List.length_map]; exact H.mx
  · intro e he
    simp only [HA.mark, List.mem_map] at he
    obtain ⟨q, hq, rfl⟩ := he
    split
    · exact H.rg q hq
    · exact H.rg q hq
theorem HA.mark_keys (h : HA) (key : ByteArray) : (h.mark key).es.map (·.key) = h.es.map (·.key) := by
  simp only [HA.mark, List.map_map]
  apply List.map_congr_left
  intro e _
  simp only [Function.comp_apply]
  split <;> rfl
theorem HInv.drop {s : HSpec} {h : HA} {k : KA} (H : HInv s h k) (key : ByteArray) : HInv s (h.drop key) k := by
  refine ⟨H.pw.filter _, fun e he => H.uc e (List.mem_filter.1 he).1, fun e he => H.sz e (List.mem_filter.1 he).1, Nat.le_trans (List.length_filter_le _ _) H.mx, fun e he => H.rg e (List.mem_filter.1 he).1, H.gd⟩
theorem HA.put_eq {h : HA} {key : ByteArray} (hf : h.find key = none) (a : Nat) : h.put key a = ⟨h.es ++ [⟨key, a, h.clock + 1⟩], h.clock + 1⟩ := by
  simp only [HA.find, List.find?_eq_none, decide_eq_true_eq] at hf
  simp only [HA.put, HA.mark, List.map_append, List.map_cons, List.map_nil, if_pos, HE.mark, HA.mk.injEq, and_true]
  congr 1
  rw [List.map_congr_left (g := id)]
  · simp
  · intro e he
    rw [if_neg (hf e he)]; rfl
theorem HInv.put {s : HSpec} {h : HA} {k : KA} (H : HInv s h k) {key : ByteArray} (hf : h.find key = none) (hk : key.size = s.key) (hl : h.es.length < s.max) {i : Nat} {r : RA} (h1 : 1 ≤ i) (h2 : i ≤ k.made) (hg : k.get i = some r) (hr : r.bytes.length = s.value) : HInv s (h.put key (i * 4294967296)) k := by
  rw [HA.put_eq hf]
  simp only [HA.find, List.find?_eq_none, decide_eq_true_eq] at hf
  refine ⟨?_, ?_, ?_, ?_, ?_, H.gd⟩
  · rw [List.pairwise_append]
    refine ⟨H.pw, by simp, ?_⟩
    intro a ha b hb
    simp only [List.mem_singleton] at hb
    subst hb
    have := H.uc a ha
    refine ⟨hf a ha, ?_⟩
    show a.used ≠ h.clock + 1
    omega
  · intro e he
    simp only [List.mem_append, List.mem_singleton] at he
    rcases he with he | rfl
    · have := H.uc e he; show e.used ≤ h.clock + 1; omega
    · exact Nat.le_refl _
  · intro e he
    simp only [List.mem_append, List.mem_singleton] at he
    rcases he with he | rfl
    · exact H.sz e he
    · exact hk
  · simp; omega
  · intro e he
    simp only [List.mem_append, List.mem_singleton] at he
    rcases he with he | rfl
    · exact H.rg e he
    · exact ⟨i, r, rfl, h1, h2, hg, hr⟩
theorem HA.find_mem {h : HA} {key : ByteArray} {e : HE} (hf : h.find key = some e) : e ∈ h.es ∧ e.key = key := by
  have h1 := List.find?_some hf
  simp only [decide_eq_true_eq] at h1
  exact ⟨List.mem_of_find?_eq_some hf, h1⟩
theorem HA.find_of {h : HA} {key : ByteArray} {e : HE} (he : e ∈ h.es) (hk : e.key = key) : ∃ q, h.find key = some q := by
  cases hf : h.find key with
  | some q => exact ⟨q, rfl⟩
  | none =>
    simp only [HA.find, List.find?_eq_none, decide_eq_true_eq] at hf
    exact absurd hk (hf e he)
theorem HInv.mark_top {s : HSpec} {h : HA} {k : KA} (H : HInv s h k) {key : ByteArray} {e : HE} (hf : h.find key = some e) : ∃ q ∈ (h.mark key).es, q.key = key ∧ q.used = (h.mark key).clock := by
  obtain ⟨h1, h2⟩ := HA.find_mem hf
  refine ⟨e.mark (h.clock + 1), ?_, h2, rfl⟩
  simp only [HA.mark, List.mem_map]
  exact ⟨e, h1, by rw [if_pos h2]⟩
theorem HInv.at_pos {s : HSpec} {h : HA} {k : KA} (H : HInv s h k) {e : HE} (he : e ∈ h.es) : 0 < e.at_ := by
  obtain ⟨i, r, h1, h2, -⟩ := H.rg e he
  rw [h1]
  omega
/-- The entry that was used last is none that goes, where there is another. -/
theorem HInv.oldest_ne {s : HSpec} {h : HA} {k : KA} (H : HInv s h k) {o e : HE} (ho : h.oldest = some o) (he : e ∈ h.es) (hu : e.used = h.clock) (hl : 2 ≤ h.es.length) : o.key ≠ e.key := by
  intro hk
  have h1 := List.find?_some ho
  have h2 := List.mem_of_find?_eq_some ho
  rw [List.all_eq_true] at h1
  obtain ⟨i, hi, e1⟩ := List.getElem_of_mem h2
  obtain ⟨j, hj, e2⟩ := List.getElem_of_mem he
  have hp := List.pairwise_iff_getElem.1 H.pw
  have hij : i = j := by
    rcases Nat.lt_trichotomy i j with hl | hl | hl
    · exact absurd (by rw [e1, e2]; exact hk) (hp i j hi hj hl).1
    · exact hl
    · exact absurd (by rw [e1, e2]; exact hk.symm) (hp j i hj hi hl).1
  have hoe : o = e := by subst hij; rw [← e1, ← e2]
  subst hoe
  have hother : ∃ q ∈ h.es, q.used ≠ o.used := by
    rcases Nat.eq_zero_or_pos j with h0 | h0
    · refine ⟨h.es[1], List.getElem_mem _, fun hu => ?_⟩
      exact (hp j 1 hj (by omega) (by omega)).2 (by rw [e2, hu])
    · refine ⟨h.es[0], List.getElem_mem _, fun hu => ?_⟩
      exact (hp 0 j (by omega) hj h0).2 (by rw [e2, hu])
  obtain ⟨q, hq, hne⟩ := hother
  have h3 := h1 q hq
  simp only [decide_eq_true_eq] at h3
  have h4 := H.uc q hq
  omega
theorem HA.room_keep {s : HSpec} {h : HA} {k k1 : KA} (H : HInv s h k) (hle : KLe k k1) (hg : KGood k1) (hpos : 0 < s.max) :
    HInv s (h.room s k1).1 (h.room s k1).2 ∧ KLe k1 (h.room s k1).2 ∧ (h.room s k1).2.made = k1.made ∧ (h.room s k1).1.es.length < s.max ∧ (h.room s k1).1.clock = h.clock ∧
      ∀ e ∈ h.es, e.used = h.clock → 1 < s.max → e ∈ (h.room s k1).1.es := by
  have H1 := H.mem hle hg
  unfold HA.room
  by_cases hf : h.es.length = s.max
  · rw [if_pos hf]
    have hne : h.es ≠ [] := by
      intro e
      rw [e] at hf
      simp at hf
      omega
    have hex : ∃ o, h.oldest = some o := by
      -- a least one is there
      have : ∀ l : List HE, l ≠ [] → ∃ o ∈ l, ∀ q ∈ l, o.used ≤ q.used := by
        intro l
        induction l with
        | nil => intro h; exact absurd rfl h
        | cons a l ih =>
          intro _
          by_cases hl : l = []
          · subst hl; exact ⟨a, by simp, by simp⟩
          · obtain ⟨o, ho, hm⟩ := ih hl
            by_cases hc : a.used ≤ o.used
            · refine ⟨a, by simp, fun q hq => ?_⟩
              rcases List.mem_cons.1 hq with rfl | hq
              · exact Nat.le_refl _
              · exact Nat.le_trans hc (hm q hq)
            · refine ⟨o, List.mem_cons_of_mem _ ho, fun q hq => ?_⟩
              rcases List.mem_cons.1 hq with rfl | hq
              · omega
              · exact hm q hq
      obtain ⟨o, ho, hm⟩ := this h.es hne
      exact ⟨o, oldest_of H.un ho hm⟩
    obtain ⟨o, ho⟩ := hex
    rw [ho]
    obtain ⟨g1, g2, g3⟩ := KA.retire_le k1 o.at_
    refine ⟨(H1.drop o.key).mem g1 (g2 hg), g1, g3, ?_, rfl, ?_⟩
    · have h2 := List.mem_of_find?_eq_some ho
      show (h.es.filter fun e => decide (e.key ≠ o.key)).length < s.max
      rw [← hf]
      exact List.length_filter_lt_length_iff_exists.2 ⟨o, h2, by simp⟩
    · intro e he hu hm
      have := H.oldest_ne ho he hu (by omega)
      exact List.mem_filter.2 ⟨he, by simpa using fun h => this h.symm⟩
  · rw [if_neg hf]
    have := H.mx
    exact ⟨H1, KLe.refl _, rfl, by show h.es.length < s.max; omega, rfl, fun e he _ _ => he⟩
theorem HInv.update {s : HSpec} {h h' : HA} {k k' : KA} (H : HInv s h k) (hs : s.May) (key value : ByteArray) {e' : Int} (hm : k.made < 4096) (E : h.update s k key value 0 = (e', h', k')) :
    HInv s h' k' ∧ k'.made ≤ k.made + 1 ∧ h'.clock ≤ h.clock + 1 ∧
      (e' ≠ 0 → h' = h ∧ k' = k) ∧ (e' = 0 → key.size = s.key ∧ (∃ q ∈ h'.es, q.key = key ∧ q.used = h'.clock) ∧ ∀ e ∈ h.es, e.used = h.clock → 1 < s.max → ∃ q ∈ h'.es, q.key = e.key) := by
  unfold HA.update at E
  by_cases hbad : key.size ≠ s.key ∨ value.size ≠ s.value ∨ (0 : Int) < 0 ∨ (2 : Int) < 0
  · rw [if_pos hbad] at E
    simp only [Prod.mk.injEq] at E
    obtain ⟨rfl, rfl, rfl⟩ := E
    exact ⟨H, by omega, by omega, fun _ => ⟨rfl, rfl⟩, fun e => absurd e (by decide)⟩
  rw [if_neg hbad] at E
  have k1 : key.size = s.key := by omega
  have k2 : value.size = s.value := by omega
  have hv1 := hs.vl.1
  have hv2 := hs.vl.2
  have hnl := length_nats value
  cases hf : h.find key with
  | some e =>
    rw [hf] at E
    obtain ⟨he, hek⟩ := HA.find_mem hf
    obtain ⟨i, r, ha, h1, h2, hg, hr⟩ := H.rg e he
    have hp := KA.put_ok (k := k) (a := e.at_) (v := nats value) (by rw [ha]; exact hi_mul i) (by rw [ha]; exact lo_mul i) h1 h2 hg (by omega) (by omega)
    simp only [show ¬ (0 : Int) = 1 by decide, if_false, hp, Prod.mk.injEq] at E
    obtain ⟨rfl, rfl, rfl⟩ := E
    have hle : KLe k (k.upd i fun r => { r with bytes := splice r.bytes 0 (nats value) }) := KLe.upd _ _ _ (fun r' hr' => by
      rw [hg] at hr'
      simp only [Option.some.injEq] at hr'
      subst hr'
      show (splice r.bytes 0 (nats value)).length = r.bytes.length
      rw [splice0 _ _ (by omega)]
      omega)
    refine ⟨(H.mark key).mem hle (H.gd.upd _ _), by show k.made ≤ k.made + 1; omega, Nat.le_refl _, fun h => absurd rfl h, fun _ => ⟨k1, H.mark_top hf, fun q hq _ _ => ?_⟩⟩
    have : q.key ∈ (h.mark key).es.map (·.key) := by rw [HA.mark_keys]; exact List.mem_map.2 ⟨q, hq, rfl⟩
    obtain ⟨q', h1, h2⟩ := List.mem_map.1 this
    exact ⟨q', h1, h2⟩
  | none =>
    rw [hf] at E
    simp only [show ¬ (0 : Int) = 2 by decide, if_false] at E
    by_cases hfl : h.es.length = s.max ∧ s.kind = 1
    · rw [if_pos hfl] at E
      simp only [Prod.mk.injEq] at E
      obtain ⟨rfl, rfl, rfl⟩ := E
      exact ⟨H, by omega, by omega, fun _ => ⟨rfl, rfl⟩, fun e => absurd e (by decide)⟩
    rw [if_neg hfl] at E
    obtain ⟨a1, a2, a3, a4, a5⟩ := H.gd.alloc s.value hv1 (by omega) hm
    unfold HA.insert at E
    rw [a1] at E
    simp only [ne_eq, not_true_eq_false, if_false] at E
    obtain ⟨b1, b2, b3, b4, b5, b6⟩ := HA.room_keep (k1 := k.allocOk s.value 3) H a3 a2 hs.mx.1
    have b7 := HA.find_room (s := s) (k := k.allocOk s.value 3) hf
    generalize (h.room s (k.allocOk s.value 3)).1 = hr at *
    generalize (h.room s (k.allocOk s.value 3)).2 = kr at *
    obtain ⟨r', c1, c2⟩ := b2.get _ _ a4
    simp only [List.length_replicate] at c2
    have hp := KA.put_ok (k := kr) (a := (k.made + 1) * 4294967296) (v := nats value) (hi_mul _) (lo_mul _) (by omega) (by omega) c1 (by omega) (by omega)
    rw [hp] at E
    simp only [Prod.mk.injEq] at E
    obtain ⟨rfl, rfl, rfl⟩ := E
    have hle : KLe kr (kr.upd (k.made + 1) fun r => { r with bytes := splice r.bytes 0 (nats value) }) := KLe.upd _ _ _ (fun r2 hr2 => by
      rw [c1] at hr2
      simp only [Option.some.injEq] at hr2
      subst hr2
      show (splice r'.bytes 0 (nats value)).length = r'.bytes.length
      rw [splice0 _ _ (by omega)]
      omega)
    have hin := b1.put b7 k1 b4 (i := k.made + 1) (r := r') (by omega) (by omega) c1 c2
    refine ⟨hin.mem hle (b1.gd.upd _ _), by show kr.made ≤ k.made + 1; omega, by rw [HA.put_eq b7]; show hr.clock + 1 ≤ _; omega, fun h => absurd rfl h, fun _ => ⟨k1, ?_, fun e he hu hmx => ?_⟩⟩
    · rw [HA.put_eq b7]
      exact ⟨⟨key, (k.made + 1) * 4294967296, hr.clock + 1⟩, by simp, rfl, rfl⟩
    · rw [HA.put_eq b7]
      exact ⟨e, by simp [b6 e he hu hmx], rfl⟩
theorem HInv.lookup {s : HSpec} {h h' : HA} {k : KA} (H : HInv s h k) (key : ByteArray) {a : Nat} (E : h.lookup key = (a, h')) :
    HInv s h' k ∧ h'.clock ≤ h.clock + 1 ∧ h'.es.map (·.key) = h.es.map (·.key) ∧ ((∃ q ∈ h.es, q.key = key) → 0 < a ∧ ∃ q ∈ h'.es, q.key = key ∧ q.used = h'.clock) := by
  unfold HA.lookup at E
  cases hf : h.find key with
  | none =>
    rw [hf] at E
    simp only [Prod.mk.injEq] at E
    obtain ⟨rfl, rfl⟩ := E
    refine ⟨H, by omega, rfl, fun ⟨q, hq, hk⟩ => ?_⟩
    obtain ⟨q', hq'⟩ := HA.find_of hq hk
    rw [hf] at hq'; cases hq'
  | some e =>
    rw [hf] at E
    simp only [Prod.mk.injEq] at E
    obtain ⟨rfl, rfl⟩ := E
    exact ⟨H.mark key, Nat.le_refl _, HA.mark_keys h key, fun _ => ⟨H.at_pos (HA.find_mem hf).1, H.mark_top hf⟩⟩
end Go.Proofs.Ytpacfhpnnejlbaa
