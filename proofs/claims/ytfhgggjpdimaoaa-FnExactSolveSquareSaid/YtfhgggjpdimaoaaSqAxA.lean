/- A symbolic walk over the code of one function, and that it tells no more than the model does: no condition. -/
import Derived.WalkKit
import Derived.WalkLawsBesides
import Derived.Deep.Draws
namespace Go.AX

/-! ## Names that nothing lays open -/

theorem shut_ex {α : Type} (a : α) : ∃ b : α, b = a := ⟨a, rfl⟩
noncomputable def shutV {α : Type} (a : α) : α := (shut_ex a).choose
theorem shutV_eq {α : Type} (a : α) : shutV a = a := (shut_ex a).choose_spec

/-! ## Floats up to the bits of a NaN -/

def isN (k : FloatKind) (b : Nat) : Bool := (k.decode b).isNaN
def qn : FloatKind → Nat
  | .f32 => 2143289344
  | .f64 => 9221120237041090560
/-- The bits, those of a NaN told as one. -/
def cn (k : FloatKind) (b : Nat) : Nat := if isN k b then qn k else b
def wd : FloatKind → Nat
  | .f32 => 32
  | .f64 => 64

theorem wd_eq (k : FloatKind) : k.format.width = wd k := by cases k <;> rfl
theorem isN_qn (k : FloatKind) : isN k (qn k) = true := by cases k <;> decide
theorem cn_qn (k : FloatKind) : cn k (qn k) = qn k := by unfold cn; split <;> rfl
theorem cn_of_not {k : FloatKind} {b : Nat} (h : isN k b = false) : cn k b = b := by simp [cn, h]
theorem cn_of {k : FloatKind} {b : Nat} (h : isN k b = true) : cn k b = qn k := by simp [cn, h]
theorem isN_cn (k : FloatKind) (b : Nat) : isN k (cn k b) = isN k b := by
  unfold cn; split
  · rename_i h; rw [h, isN_qn]
  · rfl
theorem cn_cn (k : FloatKind) (b : Nat) : cn k (cn k b) = cn k b := by
  unfold cn; split
  · rename_i h; simp [isN_qn]
  · rename_i h; simp
theorem qn_lt (k : FloatKind) : qn k < 2 ^ wd k := by cases k <;> decide
theorem cn_lt {k : FloatKind} {b : Nat} (h : b < 2 ^ wd k) : cn k b < 2 ^ wd k := by unfold cn; split; exact qn_lt k; exact h

theorem decode_nan {k : FloatKind} {b : Nat} (h : isN k b = true) : ∃ s f, k.format.read b = .nan s f := by
  unfold isN FloatKind.decode at h
  cases hd : k.format.read b <;> simp [hd, Ieee.Datum.isNaN] at h
  exact ⟨_, _, rfl⟩

/-- Two words that are alike up to a NaN's bits read alike, or both as NaNs. -/
theorem read_cn (k : FloatKind) (b : Nat) : k.format.read (cn k b) = k.format.read b ∨ (isN k b = true ∧ ∃ s f s' f', k.format.read b = .nan s f ∧ k.format.read (cn k b) = .nan s' f') := by
  by_cases h : isN k b = true
  · right
    obtain ⟨s, f, hs⟩ := decode_nan h
    obtain ⟨s', f', hs'⟩ := decode_nan (k := k) (b := cn k b) (by rw [isN_cn]; exact h)
    exact ⟨h, s, f, s', f', hs, hs'⟩
  · left; rw [cn_of_not (by simpa using h)]

open Ieee in
theorem sum_nan_l (s f) (d : Datum) : Datum.sum (.nan s f) d = none := by cases d <;> rfl
open Ieee in
theorem sum_nan_r (s f) (d : Datum) : Datum.sum d (.nan s f) = none := by cases d <;> rfl
open Ieee in
theorem product_nan_l (s f) (d : Datum) : Datum.product (.nan s f) d = none := by cases d <;> rfl
open Ieee in
theorem product_nan_r (s f) (d : Datum) : Datum.product d (.nan s f) = none := by cases d <;> rfl
open Ieee in
theorem quotient_nan_l (n s f) (d : Datum) : Datum.quotient n (.nan s f) d = none := by cases d <;> rfl
open Ieee in
theorem quotient_nan_r (n s f) (d : Datum) : Datum.quotient n d (.nan s f) = none := by cases d <;> rfl
open Ieee in
theorem order_nan_l (s f) (d : Datum) : Datum.order (.nan s f) d = none := by cases d <;> rfl
open Ieee in
theorem order_nan_r (s f) (d : Datum) : Datum.order d (.nan s f) = none := by cases d <;> rfl

theorem floatBits_cn (op : BinOp) (k : FloatKind) (x y : Nat) : floatBits op k (cn k x) (cn k y) = floatBits op k x y := by
  unfold floatBits Ieee.Format.add Ieee.Format.sub Ieee.Format.mul Ieee.Format.div
  rcases read_cn k x with hx | ⟨_, s, f, s', f', h1, h2⟩
  · rcases read_cn k y with hy | ⟨_, t, g, t', g', h3, h4⟩
    · rw [hx, hy]
    · rw [hx, h3, h4]
      simp [sum_nan_r, product_nan_r, quotient_nan_r, Ieee.Datum.opposite]
  · rw [h1, h2]
    simp [sum_nan_l, product_nan_l, quotient_nan_l]

theorem order_cn (k : FloatKind) (x y : Nat) : k.format.order (cn k x) (cn k y) = k.format.order x y := by
  unfold Ieee.Format.order
  rcases read_cn k x with hx | ⟨_, s, f, s', f', h1, h2⟩
  · rcases read_cn k y with hy | ⟨_, t, g, t', g', h3, h4⟩
    · rw [hx, hy]
    · rw [hx, h3, h4]; simp [order_nan_r]
  · rw [h1, h2]; simp [order_nan_l]

namespace F
open Ieee
theorem sw_pos (f : Format) : 0 < f.signWeight := Nat.two_pow_pos _
theorem inf_lt (f : Format) : f.infRung < f.signWeight := f.infRung_lt
theorem word_mod (f : Format) (neg : Bool) {r : Nat} (h : r < f.signWeight) : f.word neg r % f.signWeight = r := by
  unfold Format.word; cases neg <;> simp [Nat.mod_eq_of_lt h]
theorem word_sign (f : Format) (neg : Bool) {r : Nat} (h : r < f.signWeight) : (f.word neg r / f.signWeight % 2 == 1) = neg := by
  unfold Format.word
  have hp := sw_pos f
  cases neg
  · simp [Nat.div_eq_of_lt h]
  · simp only [if_true]
    rw [Nat.add_div_left _ hp, Nat.div_eq_of_lt h]; rfl
theorem read_word (f : Format) (neg : Bool) {r : Nat} (h : r < f.signWeight) : f.read (f.word neg r) =
    if r < f.binade then .number neg r f.leastPlace
    else if r < f.infRung then .number neg (f.binade + r % f.binade) (f.leastPlace + (r / f.binade - 1 : Nat))
    else if r = f.infRung then .infinity neg else .nan neg (r - f.infRung) := by
  unfold Format.read
  simp only [word_mod f neg h, word_sign f neg h]
theorem not_nan (f : Format) (neg : Bool) {r : Nat} (h : r ≤ f.infRung) : (f.read (f.word neg r)).isNaN = false := by
  have := inf_lt f
  rw [read_word f neg (by omega)]
  repeat' split
  all_goals first | rfl | omega
theorem nearest_not_nan (f : Format) (neg : Bool) (m : Nat) (p : Int) : (f.read (f.nearest neg m p)).isNaN = false := by
  unfold Format.nearest
  dsimp only
  split
  · exact not_nan f neg (Nat.zero_le _)
  · exact not_nan f neg (Nat.min_le_right ..)
def fine : Datum → Bool | .nan .. => false | _ => true
theorem write_not_nan (f : Format) (d : Datum) (h : fine d = true) : (f.read (f.write d)).isNaN = false := by
  cases d with
  | number neg m p => exact nearest_not_nan f neg m p
  | infinity neg => exact not_nan f neg (Nat.le_refl _)
  | nan => cases h
theorem sum_fine {a b d : Datum} (h : a.sum b = some d) : fine d = true := by
  cases a <;> cases b <;> simp only [Datum.sum] at h <;> first | (cases h; done) | (cases h; rfl) | skip
  split at h <;> cases h; rfl
theorem product_fine {a b d : Datum} (h : a.product b = some d) : fine d = true := by
  cases a <;> cases b <;> simp only [Datum.product] at h <;> first | (cases h; done) | (cases h; rfl) | skip
  all_goals (split at h <;> cases h; rfl)
theorem quotient_fine {n : Nat} {a b d : Datum} (h : a.quotient n b = some d) : fine d = true := by
  cases a <;> cases b <;> simp only [Datum.quotient] at h <;> first | (cases h; done) | (cases h; rfl) | skip
  split at h
  · split at h <;> cases h; rfl
  · cases h; rfl
theorem root_fine {n : Nat} {a d : Datum} (h : a.root n = some d) : fine d = true := by
  cases a with
  | number s m i =>
    simp only [Datum.root] at h
    split at h
    · cases h; rfl
    · split at h
      · cases h
      · cases h; rfl
  | infinity s => simp only [Datum.root] at h; split at h <;> cases h; rfl
  | nan s f => cases h
end F

theorem not_of_map {k : FloatKind} {d : Option Ieee.Datum} {r : Nat} (hf : ∀ x, d = some x → F.fine x = true) (h : d.map k.format.write = some r) : isN k r = false := by
  cases d with
  | none => cases h
  | some x => cases h; exact F.write_not_nan _ _ (hf x rfl)

theorem floatBits_not {op : BinOp} {k : FloatKind} {x y r : Nat} (h : floatBits op k x y = some r) : isN k r = false := by
  unfold floatBits at h
  split at h
  · exact not_of_map (fun _ h => F.sum_fine h) h
  · exact not_of_map (fun _ h => F.sum_fine h) h
  · exact not_of_map (fun _ h => F.product_fine h) h
  · exact not_of_map (fun _ h => F.quotient_fine h) h
  · cases h

/-- '+ - * /' on floats, a NaN told as one. -/
def fop0 (op : BinOp) (k : FloatKind) (x y : Nat) : Nat := (floatBits op k x y).getD (qn k)
@[irreducible] noncomputable def fop : BinOp → FloatKind → Nat → Nat → Nat := shutV fop0
theorem fop_def (op : BinOp) (k : FloatKind) (x y : Nat) : fop op k x y = fop0 op k x y := by unfold fop; rw [shutV_eq]


theorem nanCut_isN (k : FloatKind) (t : Nat) : isN k (match k with
    | .f32 => (t % 2) * 2 ^ 31 + 0x7f800000 + 1 + (t / 2) % (2 ^ 23 - 1)
    | .f64 => (t % 2) * 2 ^ 63 + 0x7ff0000000000000 + 1 + (t / 2) % (2 ^ 52 - 1)) = true := by
  cases k <;> simp only [isN, FloatKind.decode, FloatKind.format]
  · have h1 : Ieee.single.signWeight = 2147483648 := rfl
    have h2 : Ieee.single.infRung = 2139095040 := rfl
    have h3 : Ieee.single.binade = 8388608 := rfl
    unfold Ieee.Format.read
    simp only [h1, h2, h3]
    have ha : t % 2 < 2 := Nat.mod_lt _ (by omega)
    have hb : t / 2 % (2 ^ 23 - 1) < 2 ^ 23 - 1 := Nat.mod_lt _ (by omega)
    generalize t % 2 = u at ha
    generalize t / 2 % (2 ^ 23 - 1) = v at hb
    have e : (u * 2 ^ 31 + 2139095040 + 1 + v) % 2147483648 = 2139095041 + v := by omega
    rw [e, if_neg (by omega), if_neg (by omega), if_neg (by omega)]; rfl
  · have h1 : Ieee.double.signWeight = 9223372036854775808 := rfl
    have h2 : Ieee.double.infRung = 9218868437227405312 := rfl
    have h3 : Ieee.double.binade = 4503599627370496 := rfl
    unfold Ieee.Format.read
    simp only [h1, h2, h3]
    have ha : t % 2 < 2 := Nat.mod_lt _ (by omega)
    have hb : t / 2 % (2 ^ 52 - 1) < 2 ^ 52 - 1 := Nat.mod_lt _ (by omega)
    generalize t % 2 = u at ha
    generalize t / 2 % (2 ^ 52 - 1) = v at hb
    have e : (u * 2 ^ 63 + 9218868437227405312 + 1 + v) % 9223372036854775808 = 9218868437227405313 + v := by omega
    rw [e, if_neg (by omega), if_neg (by omega), if_neg (by omega)]; rfl

theorem nanCut_lt (k : FloatKind) (t : Nat) : (match k with
    | .f32 => (t % 2) * 2 ^ 31 + 0x7f800000 + 1 + (t / 2) % (2 ^ 23 - 1)
    | .f64 => (t % 2) * 2 ^ 63 + 0x7ff0000000000000 + 1 + (t / 2) % (2 ^ 52 - 1)) < 2 ^ wd k := by
  have ha : t % 2 < 2 := Nat.mod_lt _ (by omega)
  cases k <;> simp only [wd]
  · have hb : t / 2 % (2 ^ 23 - 1) < 2 ^ 23 - 1 := Nat.mod_lt _ (by omega)
    generalize t % 2 = u at ha
    generalize t / 2 % (2 ^ 23 - 1) = v at hb
    omega
  · have hb : t / 2 % (2 ^ 52 - 1) < 2 ^ 52 - 1 := Nat.mod_lt _ (by omega)
    generalize t % 2 = u at ha
    generalize t / 2 % (2 ^ 52 - 1) = v at hb
    omega

/-- A float's value is known up to a NaN's bits. -/
def IsF (k : FloatKind) (x : Nat) (b : Nat) : Prop := cn k b = x ∧ b < 2 ^ wd k

theorem IsF.cn_eq {k : FloatKind} {x b : Nat} (h : IsF k x b) : cn k x = x := by rw [← h.1, cn_cn]
theorem IsF.lt {k : FloatKind} {x b : Nat} (h : IsF k x b) : x < 2 ^ wd k := by rw [← h.1]; exact cn_lt h.2
theorem isF_of_not {k : FloatKind} {r : Nat} (h : isN k r = false) (hl : r < 2 ^ wd k) : IsF k r r := ⟨cn_of_not h, hl⟩
theorem isF_nan {k : FloatKind} {r : Nat} (h : isN k r = true) (hl : r < 2 ^ wd k) : IsF k (qn k) r := ⟨cn_of h, hl⟩

section
variable {P : Program}

theorem run_choose_nan (k : FloatKind) (q : Question) (hq : q.forced = false) (hcut : ∀ t, q.cut t = match k with
    | .f32 => (t % 2) * 2 ^ 31 + 0x7f800000 + 1 + (t / 2) % (2 ^ 23 - 1)
    | .f64 => (t % 2) * 2 ^ 63 + 0x7ff0000000000000 + 1 + (t / 2) % (2 ^ 52 - 1)) (w : World) :
    ∃ r, (choose q).run P w = .ok r (w.drewN 1) ∧ isN k r = true ∧ r < 2 ^ wd k := by
  refine ⟨q.cut (w.tape w.drawn q), ?_, ?_, ?_⟩
  · simp [choose, Sem.run, hq, World.drewN]
  · rw [hcut]; exact nanCut_isN k _
  · rw [hcut]; exact nanCut_lt k _

theorem run_floatArith_any (op : BinOp) (hop : op = .add ∨ op = .sub ∨ op = .mul ∨ op = .quo) (k : FloatKind) {x y a b : Nat} (ha : IsF k x a) (hb : IsF k y b) (w : World) :
    ∃ r n, (Op.floatArith op k a b).run P w = .ok (.float k r) (w.drewN n) ∧ IsF k (fop op k x y) r := by
  have hx : floatBits op k x y = floatBits op k a b := by rw [← ha.1, ← hb.1, floatBits_cn]
  have hrun : (Op.floatArith op k a b).run P w = match floatBits op k a b with
      | some r => .ok (.float k r) w
      | none => ((choose (.nanBits k a b)).bind fun r => (Pure.pure (Value.float k r) : Sem Value)).run P w := by
    rcases hop with rfl | rfl | rfl | rfl <;> simp only [Op.floatArith, floatBits] <;> split <;> simp_all [bind, Sem.bind, pure] <;> rfl
  cases hr : floatBits op k a b with
  | some r =>
    refine ⟨r, 0, ?_, ?_⟩
    · rw [hrun, hr]; rfl
    · have : fop op k x y = r := by simp [fop_def, fop0, hx, hr]
      rw [this]
      have hl := floatBits_wf hr
      exact isF_of_not (floatBits_not hr) (by cases k <;> simpa [Lit.wf, wd] using hl)
  | none =>
    obtain ⟨r, h1, h2, h3⟩ := run_choose_nan (P := P) k (.nanBits k a b) rfl (by intro t; cases k <;> rfl) w
    refine ⟨r, 1, ?_, ?_⟩
    · rw [hrun, hr]
      simp only [Sem.run_bind', h1]
      rfl
    · have : fop op k x y = qn k := by simp [fop_def, fop0, hx, hr]
      rw [this]; exact isF_nan h2 h3

/-- The six comparisons. -/
def fcmp0 (op : BinOp) (k : FloatKind) (x y : Nat) : Bool :=
  match op with
  | .eql => k.format.order x y == some .eq
  | .neq => k.format.order x y != some .eq
  | .lss => k.format.order x y == some .lt
  | .leq => k.format.order x y == some .lt || k.format.order x y == some .eq
  | .gtr => k.format.order x y == some .gt
  | .geq => k.format.order x y == some .gt || k.format.order x y == some .eq
  | _ => false
@[irreducible] noncomputable def fcmp : BinOp → FloatKind → Nat → Nat → Bool := shutV fcmp0
theorem fcmp_def (op : BinOp) (k : FloatKind) (x y : Nat) : fcmp op k x y = fcmp0 op k x y := by unfold fcmp; rw [shutV_eq]


theorem run_floatCmp (op : BinOp) (hop : op = .eql ∨ op = .neq ∨ op = .lss ∨ op = .leq ∨ op = .gtr ∨ op = .geq) (k : FloatKind) {x y a b : Nat} (ha : IsF k x a) (hb : IsF k y b) (w : World) :
    (Op.floatCmp op k a b).run P w = .ok (.bool (fcmp op k x y)) w := by
  have ho : k.format.order x y = k.format.order a b := by rw [← ha.1, ← hb.1, order_cn]
  rcases hop with rfl | rfl | rfl | rfl | rfl | rfl <;> simp [Op.floatCmp, fcmp_def, fcmp0, ho]

/-- The sign turned. -/
def fneg0 (k : FloatKind) (x : Nat) : Nat := if isN k x then qn k else Op.negFloat k x
@[irreducible] noncomputable def fneg : FloatKind → Nat → Nat := shutV fneg0
theorem fneg_def (k : FloatKind) (x : Nat) : fneg k x = fneg0 k x := by unfold fneg; rw [shutV_eq]


theorem xor_top_mod (n b : Nat) : (b ^^^ 2 ^ n) % 2 ^ n = b % 2 ^ n := by
  rw [Nat.xor_mod_two_pow, Nat.mod_self, Nat.xor_zero]

theorem isN_neg (k : FloatKind) (b : Nat) : isN k (Op.negFloat k b) = isN k b := by
  have key : ∀ f : Ieee.Format, ∀ c, c % f.signWeight = b % f.signWeight → (f.read c).isNaN = (f.read b).isNaN := by
    intro f c h
    unfold Ieee.Format.read
    simp only [h]
    repeat' split
    all_goals rfl
  unfold isN FloatKind.decode Op.negFloat
  exact key _ _ (xor_top_mod _ _)

theorem neg_lt {k : FloatKind} {b : Nat} (h : b < 2 ^ wd k) : Op.negFloat k b < 2 ^ wd k := by
  unfold Op.negFloat
  refine Nat.xor_lt_two_pow h ?_
  cases k <;> decide

theorem IsF.neg {k : FloatKind} {x a : Nat} (h : IsF k x a) : IsF k (fneg k x) (Op.negFloat k a) := by
  refine ⟨?_, neg_lt h.2⟩
  rw [fneg_def]; unfold fneg0
  rw [← h.1, isN_cn]
  cases hn : isN k a
  · rw [cn_of_not hn, cn_of_not (by rw [isN_neg]; exact hn)]; rfl
  · rw [cn_of (by rw [isN_neg]; exact hn)]; rfl

/-- A whole number as a float. -/
@[irreducible] noncomputable def fint : FloatKind → Int → Nat := shutV FloatKind.nearest
theorem fint_def (k : FloatKind) (n : Int) : fint k n = k.nearest n := by unfold fint; rw [shutV_eq]
theorem isF_nearest (k : FloatKind) (n : Int) : IsF k (k.nearest n) (k.nearest n) := by
  refine isF_of_not ?_ ?_
  · exact F.nearest_not_nan _ _ _ _
  · rw [← wd_eq]; exact k.format.nearest_lt _ _ _

theorem isF_fint (k : FloatKind) (n : Int) : IsF k (fint k n) (k.nearest n) := by rw [fint_def]; exact isF_nearest k n
/-- A float as a whole number, where there is one. -/
@[irreducible] noncomputable def ftoi : FloatKind → Nat → IntKind → Int := shutV fun s b k => (floatToIntVal s b k).getD 0
theorem ftoi_def (s : FloatKind) (b : Nat) (k : IntKind) : ftoi s b k = (floatToIntVal s b k).getD 0 := by unfold ftoi; rw [shutV_eq]

/-- float64(x) of a float32. -/
def fwide0 (x : Nat) : Nat := match Ieee.single.read x with
  | .nan .. => qn .f64
  | d => Ieee.double.write d
@[irreducible] noncomputable def fwide : Nat → Nat := shutV fwide0
theorem fwide_def (x : Nat) : fwide x = fwide0 x := by unfold fwide; rw [shutV_eq]


theorem log2_lt24 {m : Nat} (h : m < 2 ^ 24) : m.log2 ≤ 23 := by
  by_cases h0 : m = 0
  · subst h0; decide
  · have := (Nat.log2_lt h0).2 h; omega

theorem wide_no_overflow (s : Bool) (m : Nat) (e : Int) (hm : m < 2 ^ 24) (h1 : -149 ≤ e) (h2 : e ≤ 104) : (Ieee.double.read (Ieee.double.nearest s m e)).isInfinity = false := by
  have hb : Ieee.double.binade = 4503599627370496 := rfl
  have hi : Ieee.double.infRung = 2046 * 4503599627370496 + 4503599627370496 := rfl
  have hsw : Ieee.double.signWeight = 9223372036854775808 := rfl
  have hlp : Ieee.double.leastPlace = -1074 := rfl
  have key : ∀ r, r < Ieee.double.infRung → (Ieee.double.read (Ieee.double.word s r)).isInfinity = false := by
    intro r hr
    rw [F.read_word _ _ (by rw [hi] at hr; rw [hsw]; omega)]
    repeat' split
    all_goals first | rfl | omega
  unfold Ieee.Format.nearest
  dsimp only
  split
  · exact key 0 (by rw [hi]; omega)
  · rename_i h0
    have hl := log2_lt24 hm
    have hfb : Ieee.double.fractionBits = 52 := rfl
    rw [hfb, hlp]
    apply key
    have hlast : max (e + (m.log2 : Int) - (52 : Nat)) (-1074) ≤ e := by omega
    generalize hL : max (e + (m.log2 : Int) - (52 : Nat)) (-1074) = last at *
    have hdrop : (last - e).toNat = 0 := by omega
    have hcut : ∀ n, Ieee.Toward.even.cut s n 0 = n := by
      intro n; unfold Ieee.Toward.cut; simp [Nat.mod_one]
    rw [hdrop, hcut, hb, hi]
    refine Nat.lt_of_le_of_lt (Nat.min_le_left ..) ?_
    have hsh : m <<< (e - last).toNat < 2 ^ 53 := by
      rw [Nat.shiftLeft_eq]
      have h3 : (e - last).toNat ≤ 52 - m.log2 := by omega
      have h4 : m < 2 ^ (m.log2 + 1) := Nat.lt_log2_self
      calc m * 2 ^ (e - last).toNat ≤ m * 2 ^ (52 - m.log2) := Nat.mul_le_mul_left _ (Nat.pow_le_pow_right (by omega) h3)
        _ < 2 ^ (m.log2 + 1) * 2 ^ (52 - m.log2) := Nat.mul_lt_mul_of_pos_right h4 (Nat.two_pow_pos _)
        _ = 2 ^ 53 := by rw [← Nat.pow_add]; congr 1; omega
    have hla : (last - (-1074)).toNat ≤ 1149 + 104 - 52 + 23 := by omega
    omega

theorem single_read_range (b : Nat) (s : Bool) (m : Nat) (e : Int) (h : Ieee.single.read b = .number s m e) : m < 2 ^ 24 ∧ -149 ≤ e ∧ e ≤ 104 := by
  have hb : Ieee.single.binade = 8388608 := rfl
  have hi : Ieee.single.infRung = 255 * 8388608 := rfl
  have hsw : Ieee.single.signWeight = 2147483648 := rfl
  have hlp : Ieee.single.leastPlace = -149 := rfl
  unfold Ieee.Format.read at h
  simp only [hb, hi, hsw, hlp] at h
  split at h
  · injection h with _ h1 h2; omega
  · split at h
    · rename_i h3
      injection h with _ h1 h2
      have : b % 2147483648 / 8388608 ≤ 254 := by omega
      omega
    · split at h <;> cases h

theorem run_wide {x a : Nat} (ha : IsF .f32 x a) (w : World) :
    ∃ r n, (Conv.floatToFloat .f32 a .f64).run P w = .ok (.float .f64 r) (w.drewN n) ∧ IsF .f64 (fwide x) r := by
  unfold Conv.floatToFloat
  rw [if_neg (by decide)]
  unfold FloatKind.decode FloatKind.encode FloatKind.format
  have hx := read_cn .f32 a
  rw [ha.1] at hx
  have hfw : FloatKind.f32.format = Ieee.single := rfl
  rw [hfw] at hx
  rw [fwide_def]; unfold fwide0
  rcases hx with hx | ⟨hn, s, f, s', f', h1, h2⟩
  · rw [hx]
    cases hd : Ieee.single.read a with
    | nan s f =>
      obtain ⟨r, h1, h2, h3⟩ := run_choose_nan (P := P) .f64 (.nanConv .f64 a) rfl (by intro t; rfl) w
      exact ⟨r, 1, by simp only [Sem.run_bind, h1, Result.andThen_ok, Sem.run_pure], isF_nan h2 h3⟩
    | infinity s =>
      exact ⟨_, 0, rfl, isF_of_not (F.write_not_nan _ _ rfl) (by rw [← wd_eq]; exact Ieee.double.write_lt _)⟩
    | number s m e =>
      obtain ⟨g1, g2, g3⟩ := single_read_range _ _ _ _ hd
      have g4 := wide_no_overflow s m e g1 g2 g3
      refine ⟨_, 0, ?_, isF_of_not (F.write_not_nan _ _ rfl) (by rw [← wd_eq]; exact Ieee.double.write_lt _)⟩
      simp only [Ieee.Format.write, g4]; rfl
  · rw [h1, h2]
    obtain ⟨r, h3, h4, h5⟩ := run_choose_nan (P := P) .f64 (.nanConv .f64 a) rfl (by intro t; rfl) w
    exact ⟨r, 1, by simp only [Sem.run_bind, h3, Result.andThen_ok, Sem.run_pure], isF_nan h4 h5⟩

/-- float32(x) of a float64 that does not overflow. -/
def fnarrow0 (x : Nat) : Nat := match Ieee.double.read x with
  | .nan .. => qn .f32
  | d => Ieee.single.write d
def narrows (x : Nat) : Bool := match Ieee.double.read x with
  | .number s m e => !(Ieee.single.read (Ieee.single.nearest s m e)).isInfinity
  | _ => true
@[irreducible] noncomputable def fnarrow : Nat → Nat := shutV fnarrow0
theorem fnarrow_def (x : Nat) : fnarrow x = fnarrow0 x := by unfold fnarrow; rw [shutV_eq]


theorem run_narrow {x a : Nat} (ha : IsF .f64 x a) (hok : narrows x = true) (w : World) :
    ∃ r n, (Conv.floatToFloat .f64 a .f32).run P w = .ok (.float .f32 r) (w.drewN n) ∧ IsF .f32 (fnarrow x) r := by
  unfold Conv.floatToFloat
  rw [if_neg (by decide)]
  unfold FloatKind.decode FloatKind.encode FloatKind.format
  have hx := read_cn .f64 a
  rw [ha.1] at hx
  have hfw : FloatKind.f64.format = Ieee.double := rfl
  rw [hfw] at hx
  rw [fnarrow_def]; unfold fnarrow0
  unfold narrows at hok
  rcases hx with hx | ⟨hn, s, f, s', f', h1, h2⟩
  · rw [hx] at hok ⊢
    cases hd : Ieee.double.read a with
    | nan s f =>
      obtain ⟨r, h1, h2, h3⟩ := run_choose_nan (P := P) .f32 (.nanConv .f32 a) rfl (by intro t; rfl) w
      exact ⟨r, 1, by simp only [Sem.run_bind, h1, Result.andThen_ok, Sem.run_pure], isF_nan h2 h3⟩
    | infinity s =>
      exact ⟨_, 0, rfl, isF_of_not (F.write_not_nan _ _ rfl) (by rw [← wd_eq]; exact Ieee.single.write_lt _)⟩
    | number s m e =>
      rw [hd] at hok
      have g4 : (Ieee.single.read (Ieee.single.nearest s m e)).isInfinity = false := by simpa using hok
      refine ⟨_, 0, ?_, isF_of_not (F.write_not_nan _ _ rfl) (by rw [← wd_eq]; exact Ieee.single.write_lt _)⟩
      simp only [Ieee.Format.write, g4]; rfl
  · rw [h1, h2]
    obtain ⟨r, h3, h4, h5⟩ := run_choose_nan (P := P) .f32 (.nanConv .f32 a) rfl (by intro t; rfl) w
    exact ⟨r, 1, by simp only [Sem.run_bind, h3, Result.andThen_ok, Sem.run_pure], isF_nan h4 h5⟩

end
end Go.AX
