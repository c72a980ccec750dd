/- Contract of the hash table's Update at a key that is there: it answers and writes as the plain data say; condition: table and memory lie in the world. -/
import Derived.Test.YtgkbiknokpmjmaaHUpd
set_option linter.unusedVariables false
set_option linter.unusedSimpArgs false
namespace Go.Proofs.Ytgkbiknokpmjmaa
open Go.RowKit Go.MapKept
open Go.ChangeMaps (setBlock)

set_option maxRecDepth 100000 in
theorem hupdate_old {w : World} {x m : Nat} {s : HSpec} {t : HT} {k k' : KA} {F : List Nat} {e' : Int} (H : HK w x m s t.abs k (t.foot x) F) (h : HM w x m s t) (value : ByteArray) (fl : Int) {j : Nat} {r : HC} (hj : t.es[j]? = some r) (hk : r.e.key.size = s.key) (hv : value.size = s.value) (h0 : 0 ≤ fl) (h2 : fl ≤ 2) (h1 : fl ≠ 1)
    (hc : t.clock + 1 < 9223372036854775808) (E : k.put r.e.at_ (nats value) = (e', k')) :
    Calls Try.prog 26 #[.pointer (some ⟨x, 0, none⟩), .string r.e.key, .string value, .int .i64 fl] w (HKPost x m s (t.foot x) F w (.int .i64 e') (t.abs.mark r.e.key) k') := by
  have hnn := HK.notNil t.lb
  have hb : ((r.e.key.size : Int) != (s.key : Int)) = false := by rw [bne_eq_false_iff_eq]; omega
  have hb2 : ((value.size : Int) != (s.value : Int)) = false := by rw [bne_eq_false_iff_eq]; omega
  have hb3 : (fl == 1) = false := by rw [beq_eq_false_iff_ne]; omega
  have hb5 : ¬ 2 < fl := by omega
  have hu := use_calls h hj hc
  have hmu := h.use hj
  have hr := List.mem_of_getElem? hj
  have hfr := useW_fr w x r.b t.clock (HT.mem_x x t) (HT.mem_b x hr)
  have H1 : HK (useW w x r.b t.clock) x m s (t.abs.mark r.e.key) k (t.foot x) F := H.ofH ⟨t.use j r, hmu, HT.use_abs t h.kn hj, (HT.use_foot t hj x).symm⟩ hfr
  have hab := h.ab r hr
  obtain ⟨c0, c1, c2, c3, c4, c5, c6, -⟩ := h.cells
  have hf := h.find_hit hj
  have d0 := hmu.cells.1
  have g0 := (hmu.reads (r := r.mark (t.clock + 1)) (by
    obtain ⟨h1, -⟩ := List.getElem?_eq_some_iff.1 hj
    exact List.mem_iff_getElem.2 ⟨j, by simpa [HT.use] using h1, by simp [HT.use]⟩)).1
  replace g0 : (useW w x r.b t.clock).cell? ⟨r.b, 0, none⟩ = some (.int .u64 r.e.at_) := g0
  have HP : ∀ W, KS W m k F → Hid (Calls Try.prog 60 #[.pointer (some ⟨m, 0, none⟩), .int .u64 r.e.at_, .string value] W (KPostS m F W (.int .i64 e') k')) := fun W hW => hide (put_S hW rfl hab E)
  generalize useW w x r.b t.clock = wu at *
  have hku := H1.ks
  have HH := hide (And.intro H1 hfr)
  clear h H hmu H1 hfr hk hv h1 E hc hj hr hab
  go_enter Try.func26, Try.ntmps26
  go_wp2_with fail
  refine hu.mono ?_
  rintro e w' ⟨rfl, rfl⟩
  go_wp2_with fail
  go_region_with (go_at_call 60; refine (HP _ ?_).out.mono ?_; (first | exact hku | exact hku.drew | exact hku.drewN _); rintro e w2 ⟨F2, rfl, hk2, f2⟩)
  all_goals
    have f2' : Fr F F2 w' w2 := by first | exact f2 | exact (Fr.refl F _).drew.trans f2
    have HF : Hid (HKPost x m s (t.foot x) F w (.int .i64 e') (t.abs.mark r.e.key) k' (.returned (.int .i64 e')) w2) :=
      hide ⟨t.foot x, F2, rfl, HH.out.1.ofK hk2 f2', HH.out.2.left.trans f2'.right⟩
    go_wp2
    go_ret
    exact HF.out
end Go.Proofs.Ytgkbiknokpmjmaa
