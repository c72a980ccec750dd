/- What was laid is read as it was; condition: the bytes lie in the text. -/
import Derived.Test.YtpahjllcomejbaaRdLaw
set_option linter.unusedVariables false
set_option linter.unusedSimpArgs false
set_option linter.unusedSectionVars false
namespace Go.Proofs.Ytpahjllcomejbaa
open Go.RowKit Go.MapKept
open Go.Proofs.YtpahjllcomejbaaW.PrintWords Go.Proofs.YtpahjllcomejbaaW.PrintLast Go.Proofs.YtpahjllcomejbaaW.PrintMore
open PX86Encodes

def RR (n : Int) : Prop := 0 ≤ n ∧ n ≤ 15
theorem rex_range (w : Bool) (p q : Int) (h1 : RR p) (h2 : RR q) : 64 ≤ rexB w p q ∧ rexB w p q < 80 ∧ rexB w p q % 2 = q / 8 ∧ rexB w p q / 4 % 2 = p / 8 ∧ wideB (rexB w p q) = w := by
 unfold RR at *
 have e : rexB w p q = (if w = true then 72 else 64) + p / 8 * 4 + q / 8 := by unfold rexB; omega
 have hp : p / 8 = 0 ∨ p / 8 = 1 := by omega
 have hq : q / 8 = 0 ∨ q / 8 = 1 := by omega
 rw [e]
 cases w <;> rcases hp with hp | hp <;> rcases hq with hq | hq <;> rw [hp, hq] <;> decide
theorem dir_range (p q : Int) : dirB p q / 64 = 3 ∧ dirB p q % 8 = q % 8 ∧ dirB p q / 8 % 8 = p % 8 ∧ 0 ≤ dirB p q ∧ dirB p q < 256 := by unfold dirB; omega
theorem fields_dir {s : ByteArray} (hs : s.size ≤ 9223372036854775807) {a p q : Int} {rest : List Int} (w : Bool) (h1 : RR p) (h2 : RR q) (h : At s a (dirB p q :: rest)) (e : Bool) :
  x86_reader_fields.f s a e (rexB w p q) = some (false, p, q, s, a + 1, e) ∧ At s (a + 1) rest := by
 obtain ⟨hn, hat⟩ := next_at hs h e
 obtain ⟨r1, r2, r3, r4, r5⟩ := rex_range w p q h1 h2
 obtain ⟨d1, d2, d3, d4, d5⟩ := dir_range p q
 refine ⟨?_, hat⟩
 rw [fields_eq s a e _ _ _ _ ⟨by omega, by omega⟩ hn, if_neg (by omega)]
 unfold regB rmB RR at *
 rw [d3, d2, r3, r4, show p % 8 + p / 8 * 8 = p by omega, show q % 8 + q / 8 * 8 = q by omega]
/-- The bytes of a place, ahead of its number. -/
def memP (p q : Int) : List Int := [128 + p % 8 * 8 + q % 8] ++ (if q % 8 = 4 then [36] else [])
theorem memB_eq (p q n : Int) : memB p q n = memP p q ++ b4 n := rfl
theorem fields_mem {s : ByteArray} (hs : s.size ≤ 9223372036854775807) {a p q : Int} {rest : List Int} (w : Bool) (h1 : RR p) (h2 : RR q) (h : At s a (memP p q ++ rest)) (e : Bool) :
  x86_reader_fields.f s a e (rexB w p q) = some (true, p, q, s, a + (memP p q).length, e) ∧ At s (a + (memP p q).length) rest := by
 obtain ⟨r1, r2, r3, r4, r5⟩ := rex_range w p q h1 h2
 unfold memP at h ⊢
 by_cases c : q % 8 = 4
 ·
  simp only [c, if_true, List.cons_append, List.nil_append, List.length_cons, List.length_nil] at h ⊢
  obtain ⟨hn, hat⟩ := next_at hs h e
  obtain ⟨hn2, hat2⟩ := next_at hs hat e
  have e2 : a + ((0 + 1 + 1 : Nat) : Int) = a + 1 + 1 := by omega
  rw [e2]
  refine ⟨?_, hat2⟩
  rw [fields_eq s a e _ _ _ _ ⟨by omega, by omega⟩ hn, if_pos (by omega), if_pos (by omega), hn2, Option.bind_some]
  unfold regB rmB RR at *
  rw [r3, r4, show (128 + p % 8 * 8 + 4) / 8 % 8 + p / 8 * 8 = p by omega, show (128 + p % 8 * 8 + 4) % 8 + q / 8 * 8 = q by omega]
 ·
  simp only [c, if_false, List.cons_append, List.nil_append, List.length_cons, List.length_nil] at h ⊢
  obtain ⟨hn, hat⟩ := next_at hs h e
  have e2 : a + ((0 + 1 : Nat) : Int) = a + 1 := by omega
  rw [e2]
  refine ⟨?_, hat⟩
  rw [fields_eq s a e _ _ _ _ ⟨by omega, by omega⟩ hn, if_pos (by omega), if_neg (by omega)]
  unfold regB rmB RR at *
  rw [r3, r4, show (128 + p % 8 * 8 + q % 8) / 8 % 8 + p / 8 * 8 = p by omega, show (128 + p % 8 * 8 + q % 8) % 8 + q / 8 * 8 = q by omega]
theorem lowB_eq (w : Bool) (d c : Int) (h : RR d) (hc : c % 8 = 0) : lowB (rexB w 0 d) (c + d % 8) = d := by
 obtain ⟨_, _, r3, _⟩ := rex_range w 0 d ⟨by omega, by omega⟩ h
 unfold lowB RR at *
 rw [r3]
 omega
theorem u8_240 (op : Int) (h : 0 ≤ op ∧ op < 256) : Go.bits .and .u8 op 240 = op / 16 * 16 := by
 have key : ∀ n : Fin 256, bits BinOp.and IntKind.u8 (n.val : Int) 240 = (n.val : Int) / 16 * 16 := by decide +kernel
 obtain ⟨m, rfl⟩ := Int.eq_ofNat_of_zero_le h.1
 exact key ⟨m, by omega⟩
section
variable {s : ByteArray} (hs : s.size ≤ 9223372036854775807) (k : Nat) (hk : 8 < k)
include hs hk
theorem load_dir {a p q : Int} {rest : List Int} (w : Bool) (h1 : RR p) (h2 : RR q) (h : At s a (dirB p q :: rest)) (e : Bool) (m : Int) (g : Bool) :
  x86_reader_load.f k s a e (rexB w p q) m g = some (if g = true then 27 else 26, p, q, m, 0, 0, s, a + 1, e) := by
 obtain ⟨hf, _⟩ := fields_dir hs w h1 h2 h e
 unfold x86_reader_load.f
 rw [hf, Option.bind_some]
 cases g <;> simp
theorem load_mem {a p q i : Int} {rest : List Int} (w : Bool) (h1 : RR p) (h2 : RR q) (h : At s a (memB p q i ++ rest)) (e : Bool) (m : Int) (g : Bool) (hi : fits32 i = true) :
  x86_reader_load.f k s a e (rexB w p q) m g = some (if g = true then 19 else 18, p, q, m, i, 0, s, a + (memB p q i).length, e) := by
 rw [memB_eq, List.append_assoc] at h
 obtain ⟨hf, hat⟩ := fields_mem hs w h1 h2 h e
 obtain ⟨hi1, _⟩ := imm_at hs hat hi k hk e
 have hl : a + ((memB p q i).length : Int) = a + ((memP p q).length : Int) + 4 := by rw [memB_eq, List.length_append]; simp [b4]; omega
 rw [hl]
 unfold x86_reader_load.f
 rw [hf, Option.bind_some]
 cases g
 ·
  simp only [Bool.false_eq_true, if_false, if_true]
  rw [hi1]; rfl
 ·
  simp only [if_true]
  rw [hi1]; rfl
theorem store_dir {a p q : Int} {rest : List Int} (w : Bool) (h1 : RR p) (h2 : RR q) (h : At s a (dirB p q :: rest)) (e : Bool) (m : Int) :
  x86_reader_store.f k s a e (rexB w p q) m = some (1, q, p, 0, 0, 0, s, a + 1, e) := by
 obtain ⟨hf, _⟩ := fields_dir hs w h1 h2 h e
 unfold x86_reader_store.f
 rw [hf, Option.bind_some]
 simp
theorem store_mem {a p q i : Int} {rest : List Int} (w : Bool) (h1 : RR p) (h2 : RR q) (h : At s a (memB p q i ++ rest)) (e : Bool) (m : Int) (hi : fits32 i = true) :
  x86_reader_store.f k s a e (rexB w p q) m = some (20, q, p, m, i, 0, s, a + (memB p q i).length, e) := by
 rw [memB_eq, List.append_assoc] at h
 obtain ⟨hf, hat⟩ := fields_mem hs w h1 h2 h e
 obtain ⟨hi1, _⟩ := imm_at hs hat hi k hk e
 have hl : a + ((memB p q i).length : Int) = a + ((memP p q).length : Int) + 4 := by rw [memB_eq, List.length_append]; simp [b4]; omega
 rw [hl]
 unfold x86_reader_store.f
 rw [hf, Option.bind_some]
 simp only [if_true]
 rw [hi1]; rfl
omit hk in
theorem read_rex {a p q : Int} {rest : List Int} (w : Bool) (h1 : RR p) (h2 : RR q) (h : At s a (rexB w p q :: rest)) : readX k s a = shortF k s (a + 1) false (rexB w p q) false ∧ At s (a + 1) rest := by
 obtain ⟨hn, hat⟩ := next_at hs h false
 obtain ⟨r1, r2, _⟩ := rex_range w p q h1 h2
 refine ⟨?_, hat⟩
 unfold readX
 rw [hn, Option.bind_some]
 simp only
 rw [if_neg (by omega), if_neg (by omega), if_neg (by omega), if_neg (by omega), if_pos ⟨r1, r2⟩]
omit hk in
theorem short_at {a op : Int} {rest : List Int} (h : At s a (op :: rest)) (e : Bool) (rex : Int) (half : Bool) : shortF k s a e rex half = shortT k op s (a + 1) e rex half ∧ At s (a + 1) rest := by
 obtain ⟨hn, hat⟩ := next_at hs h e
 refine ⟨?_, hat⟩
 unfold shortF
 rw [hn, Option.bind_some]
omit hk in
theorem rex_op {a p q op : Int} {rest : List Int} (w : Bool) (h1 : RR p) (h2 : RR q) (h : At s a (rexB w p q :: op :: rest)) : readX k s a = shortT k op s (a + 2) false (rexB w p q) false ∧ At s (a + 2) rest := by
 obtain ⟨e1, h'⟩ := read_rex hs k w h1 h2 h
 obtain ⟨e2, h''⟩ := short_at hs k h' false (rexB w p q) false
 rw [show a + 1 + 1 = a + 2 by omega] at e2 h''
 exact ⟨e1.trans e2, h''⟩
theorem read_two {a d t op kd : Int} {rest : List Int} (h1 : RR d) (h2 : RR t) (hop : (op = 1 ∧ kd = 3) ∨ (op = 41 ∧ kd = 4) ∨ (op = 33 ∧ kd = 5) ∨ (op = 9 ∧ kd = 6) ∨ (op = 49 ∧ kd = 7) ∨ (op = 57 ∧ kd = 8) ∨ (op = 133 ∧ kd = 9)) (h : At s a ([rexB true t d, op, dirB t d] ++ rest)) :
  readX k s a = some (kd, d, t, 0, 0, 0, s, a + 3, false) := by
 obtain ⟨e1, h'⟩ := rex_op hs k true h2 h1 h
 obtain ⟨hf, _⟩ := fields_dir hs true h2 h1 h' false
 rw [e1]
 have e3 : a + 2 + 1 = a + 3 := by omega
 rw [e3] at hf
 rcases hop with ⟨rfl, rfl⟩ | ⟨rfl, rfl⟩ | ⟨rfl, rfl⟩ | ⟨rfl, rfl⟩ | ⟨rfl, rfl⟩ | ⟨rfl, rfl⟩ | ⟨rfl, rfl⟩ <;>
 ·
  unfold shortT
  rw [if_neg (by decide), if_neg (by decide), if_neg (by decide), if_neg (by decide), if_neg (by decide), if_neg (by decide), if_neg (by decide), if_neg (by decide), if_neg (by decide), if_neg (by decide), hf]
  rfl
theorem read_one {a d op v kd : Int} {rest : List Int} (h1 : RR d) (hop : (op = 211 ∧ v = 4 ∧ kd = 11) ∨ (op = 211 ∧ v = 5 ∧ kd = 12) ∨ (op = 211 ∧ v = 7 ∧ kd = 13) ∨ (op = 247 ∧ v = 3 ∧ kd = 14) ∨ (op = 247 ∧ v = 6 ∧ kd = 15) ∨ (op = 247 ∧ v = 7 ∧ kd = 16)) (h : At s a ([rexB true 0 d, op, dirB v d] ++ rest)) :
  readX k s a = some (kd, d, 0, 0, 0, 0, s, a + 3, false) := by
 have hr : rexB true 0 d = rexB true v d := by
  unfold rexB
  rcases hop with h | h | h | h | h | h <;> rw [h.2.1] <;> rfl
 have hv : RR v := by unfold RR; omega
 rw [hr] at h
 obtain ⟨e1, h'⟩ := rex_op hs k true hv h1 h
 obtain ⟨hf, _⟩ := fields_dir hs true hv h1 h' false
 rw [e1]
 have e3 : a + 2 + 1 = a + 3 := by omega
 rw [e3] at hf
 rcases hop with ⟨rfl, rfl, rfl⟩ | ⟨rfl, rfl, rfl⟩ | ⟨rfl, rfl, rfl⟩ | ⟨rfl, rfl, rfl⟩ | ⟨rfl, rfl, rfl⟩ | ⟨rfl, rfl, rfl⟩ <;>
 ·
  unfold shortT
  rw [if_neg (by decide), if_neg (by decide), if_neg (by decide), if_neg (by decide), if_neg (by decide), if_neg (by decide), if_neg (by decide), if_neg (by decide), if_neg (by decide), if_pos (by decide), hf]
  rfl
theorem read_2 {a d wd : Int} {rest : List Int} (h1 : RR d) (hw : 0 ≤ wd ∧ wd < 18446744073709551616) (h : At s a ([rexB true 0 d, 184 + d % 8] ++ leB wd 8 ++ rest)) : readX k s a = some (2, d, 0, 0, 0, wd, s, a + 10, false) := by
 rw [List.append_assoc] at h
 obtain ⟨e1, h'⟩ := rex_op hs k true ⟨by omega, by omega⟩ h1 h
 obtain ⟨hf, _⟩ := number_f (bs := leB wd 8) (rest := rest) (m := 8) hs h' (by simp [leB]) (by omega) k hk false
 rw [e1]
 unfold shortT
 rw [if_neg (by omega), if_pos (by omega), lowB_eq true d 184 h1 (by decide)]
 have hv : leV (leB wd 8) = wd := by
  obtain ⟨Nw, rfl⟩ := Int.eq_ofNat_of_zero_le hw.1
  rw [leV_leB Nw 8]
  have : Nw % 2 ^ (8 * 8) = Nw := Nat.mod_eq_of_lt (by have := hw.2; omega)
  rw [this]
 rw [hv] at hf
 have hf' : x86_reader_number.f k s (a + 2) false 8 = some (wd, s, a + 2 + 8, false) := by simpa using hf
 rw [hf', Option.bind_some]
 have : a + 2 + 8 = a + 10 := by omega
 simp [this]
theorem read_push {a d : Int} {rest : List Int} (kd c : Int) (hc : (kd = 23 ∧ c = 80) ∨ (kd = 24 ∧ c = 88)) (h1 : RR d) (h : At s a ([rexB false 0 d, c + d % 8] ++ rest)) : readX k s a = some (kd, d, 0, 0, 0, 0, s, a + 2, false) := by
 obtain ⟨e1, h'⟩ := rex_op hs k false ⟨by omega, by omega⟩ h1 h
 rw [e1]
 unfold shortT
 rcases hc with ⟨rfl, rfl⟩ | ⟨rfl, rfl⟩
 ·
  rw [if_neg (by omega), if_neg (by omega), if_pos (by omega), lowB_eq false d 80 h1 (by decide)]
 ·
  rw [if_neg (by omega), if_neg (by omega), if_neg (by omega), if_pos (by omega), lowB_eq false d 88 h1 (by decide)]
omit hk in
/-- Behind a prefix, and 0x0F. -/
theorem rex_long {a p q : Int} {rest : List Int} (w : Bool) (h1 : RR p) (h2 : RR q) (h : At s a (rexB w p q :: 15 :: rest)) : readX k s a = x86_reader_long.f k s (a + 2) false (rexB w p q) ∧ At s (a + 2) rest := by
 obtain ⟨e1, h'⟩ := rex_op hs k w h1 h2 h
 refine ⟨?_, h'⟩
 rw [e1]
 unfold shortT
 rw [if_pos rfl]
theorem long_load {a op p q rex m i : Int} {g : Bool} {rest : List Int} (hop : (op = 182 ∧ m = 1 ∧ g = false) ∨ (op = 183 ∧ m = 2 ∧ g = false) ∨ (op = 190 ∧ m = 1 ∧ g = true) ∨ (op = 191 ∧ m = 2 ∧ g = true)) (e : Bool) (h : At s a (op :: rest)) :
  x86_reader_long.f k s a e rex = x86_reader_load.f k s (a + 1) e rex m g := by
 obtain ⟨hn, hat⟩ := next_at hs h e
 unfold x86_reader_long.f
 rw [hn, Option.bind_some]
 have nb : ∀ o : Option X9, (o.bind fun b => some (b.1, b.2.1, b.2.2.1, b.2.2.2.1, b.2.2.2.2.1, b.2.2.2.2.2.1, b.2.2.2.2.2.2.1, b.2.2.2.2.2.2.2.1, b.2.2.2.2.2.2.2.2)) = o := fun o => by cases o <;> rfl
 dsimp only
 rcases hop with ⟨rfl, rfl, rfl⟩ | ⟨rfl, rfl, rfl⟩ | ⟨rfl, rfl, rfl⟩ | ⟨rfl, rfl, rfl⟩
 ·
  have q1 : wrap64 (wrap64 (Go.bits .and .u8 182 1) + 1) = 1 := by rw [show Go.bits .and .u8 (182 : Int) 1 = 1 - 1 by decide]; unfold wrap64; omega
  have q2 : decide ((182 : Int) ≥ 190) = false := by decide
  rw [if_neg (by decide), if_neg (by decide), if_neg (by decide), if_neg (by decide), if_pos (by decide), q1, q2]
  exact nb _
 ·
  have q1 : wrap64 (wrap64 (Go.bits .and .u8 183 1) + 1) = 2 := by rw [show Go.bits .and .u8 (183 : Int) 1 = 2 - 1 by decide]; unfold wrap64; omega
  have q2 : decide ((183 : Int) ≥ 190) = false := by decide
  rw [if_neg (by decide), if_neg (by decide), if_neg (by decide), if_neg (by decide), if_neg (by decide), if_pos (by decide), q1, q2]
  exact nb _
 ·
  have q1 : wrap64 (wrap64 (Go.bits .and .u8 190 1) + 1) = 1 := by rw [show Go.bits .and .u8 (190 : Int) 1 = 1 - 1 by decide]; unfold wrap64; omega
  have q2 : decide ((190 : Int) ≥ 190) = true := by decide
  rw [if_neg (by decide), if_neg (by decide), if_neg (by decide), if_neg (by decide), if_neg (by decide), if_neg (by decide), if_pos (by decide), q1, q2]
  exact nb _
 ·
  have q1 : wrap64 (wrap64 (Go.bits .and .u8 191 1) + 1) = 2 := by rw [show Go.bits .and .u8 (191 : Int) 1 = 2 - 1 by decide]; unfold wrap64; omega
  have q2 : decide ((191 : Int) ≥ 190) = true := by decide
  rw [if_neg (by decide), if_neg (by decide), if_neg (by decide), if_neg (by decide), if_neg (by decide), if_neg (by decide), if_neg (by decide), if_pos (by decide), q1, q2]
  exact nb _
theorem read_10 {a d t : Int} {rest : List Int} (h1 : RR d) (h2 : RR t) (h : At s a ([rexB true d t, 15, 175, dirB d t] ++ rest)) : readX k s a = some (10, d, t, 0, 0, 0, s, a + 4, false) := by
 obtain ⟨e1, h'⟩ := rex_long hs k true h1 h2 h
 obtain ⟨hn, hat⟩ := next_at hs h' false
 obtain ⟨hf, _⟩ := fields_dir hs true h1 h2 hat false
 rw [e1]
 unfold x86_reader_long.f
 rw [hn, Option.bind_some]
 dsimp only
 rw [if_neg (by decide), if_neg (by decide), if_neg (by decide), if_pos (by decide), hf, Option.bind_some]
 have : a + 2 + 1 + 1 = a + 4 := by omega
 simp [this]
theorem read_25 {a d : Int} {rest : List Int} (h1 : RR d) (h : At s a ([rexB true 0 d, 15, 200 + d % 8] ++ rest)) : readX k s a = some (25, d, 0, 0, 0, 0, s, a + 3, false) := by
 obtain ⟨e1, h'⟩ := rex_long hs k true ⟨by omega, by omega⟩ h1 h
 obtain ⟨hn, hat⟩ := next_at hs h' false
 have hb := next_byte hn
 have h240 := u8_240 _ hb
 have h248 : Go.bits .and .u8 (200 + d % 8) 248 = (200 + d % 8) / 8 * 8 := u8_248 _ hb
 have h7 : Go.bits .and .u8 (200 + d % 8) 7 = (200 + d % 8) % 8 := u8_7 _ hb.1 hb.2
 obtain ⟨r1, r2, r3, r4, r5⟩ := rex_range true 0 d ⟨by omega, by omega⟩ h1
 have h1' : Go.bits .and .u8 (rexB true 0 d) 1 = rexB true 0 d % 2 := u8_1 _ (by omega) (by omega)
 have w : ∀ x : Int, 0 ≤ x → x < 256 → wrap64 x = x := fun x h0 h1 => by unfold wrap64; omega
 rw [e1]
 unfold x86_reader_long.f
 unfold RR at h1
 rw [hn, Option.bind_some]
 simp only [h240, h248, h7, h1', r3]
 rw [if_neg (by omega), if_neg (by omega), if_pos (by omega), w _ (by omega) (by omega), w (d / 8) (by omega) (by omega), w (d / 8 * 8) (by omega) (by omega)]
 have o1 : Go.bits .or .i64 ((200 + d % 8) % 8) (d / 8 * 8) = (200 + d % 8) % 8 + d / 8 * 8 := i64_or3 _ _ (by omega) (by omega)
 rw [o1, show (200 + d % 8) % 8 + d / 8 * 8 = d by omega, show a + 2 + 1 = a + 3 by omega]
theorem read_17 {a : Int} {rest : List Int} (h : At s a ([72, 153] ++ rest)) : readX k s a = some (17, 0, 0, 0, 0, 0, s, a + 2, false) := by
 obtain ⟨e1, h'⟩ := rex_op hs k (p := 0) (q := 0) (op := 153) (rest := rest) true ⟨by omega, by omega⟩ ⟨by omega, by omega⟩ h
 rw [e1]
 unfold shortT
 rw [if_neg (by decide), if_neg (by decide), if_neg (by decide), if_neg (by decide), if_pos rfl]
theorem read_28 {a : Int} {rest : List Int} (h : At s a ([15, 5] ++ rest)) : readX k s a = some (28, 0, 0, 0, 0, 0, s, a + 2, false) := by
 obtain ⟨hn, hat⟩ := next_at hs h false
 obtain ⟨hn2, hat2⟩ := next_at hs hat false
 unfold readX
 rw [hn, Option.bind_some]
 simp only
 rw [if_neg (by decide), if_neg (by decide), if_pos trivial]
 unfold x86_reader_long.f
 rw [hn2, Option.bind_some, if_pos rfl, show a + 1 + 1 = a + 2 by omega]
theorem read_29 {a : Int} {rest : List Int} (h : At s a ([195] ++ rest)) : readX k s a = some (29, 0, 0, 0, 0, 0, s, a + 1, false) := by
 obtain ⟨hn, hat⟩ := next_at hs h false
 unfold readX
 rw [hn, Option.bind_some]
 simp only
 rw [if_pos trivial]
theorem read_21 {a i : Int} {rest : List Int} (hi : fits32 i = true) (h : At s a ([233] ++ b4 i ++ rest)) : readX k s a = some (21, 0, 0, 0, i, 0, s, a + 5, false) := by
 rw [List.append_assoc] at h
 obtain ⟨hn, hat⟩ := next_at hs h false
 obtain ⟨hi1, _⟩ := imm_at hs hat hi k hk false
 unfold readX
 rw [hn, Option.bind_some]
 simp only
 rw [if_neg (by decide), if_pos trivial, hi1, Option.bind_some, show a + 1 + 4 = a + 5 by omega]
theorem read_22 {a d i : Int} {rest : List Int} (hd : okCond d = true) (hi : fits32 i = true) (h : At s a ([15, 128 + d % 16] ++ b4 i ++ rest)) : readX k s a = some (22, d, 0, 0, i, 0, s, a + 6, false) := by
 have hd' : 2 ≤ d ∧ d ≤ 15 := by simp [okCond] at hd; omega
 rw [List.append_assoc] at h
 obtain ⟨hn, hat⟩ := next_at hs h false
 obtain ⟨hn2, hat2⟩ := next_at hs hat false
 obtain ⟨hi1, _⟩ := imm_at hs hat2 hi k hk false
 have hb := next_byte hn2
 have h240 := u8_240 _ hb
 have h15 : Go.bits .and .u8 (128 + d % 16) 15 = (128 + d % 16) % 16 := u8_and15 _ hb.1 hb.2
 have w : ∀ x : Int, 0 ≤ x → x < 256 → wrap64 x = x := fun x h0 h1 => by unfold wrap64; omega
 unfold readX
 rw [hn, Option.bind_some]
 simp only
 rw [if_neg (by decide), if_neg (by decide), if_pos trivial]
 unfold x86_reader_long.f
 rw [hn2, Option.bind_some]
 simp only [h240, h15]
 rw [if_neg (by omega), if_pos (by omega), hi1, Option.bind_some, w _ (by omega) (by omega), show (128 + d % 16) % 16 = d by omega, show a + 1 + 1 + 4 = a + 6 by omega]
end
end Go.Proofs.Ytpahjllcomejbaa
