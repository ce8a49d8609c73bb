/- What the functions of this program do, one contract a function, by that walk: each under what its own statement says. -/
import Derived.Test.YtfhgggjpdimaoaaSqE1
import Derived.Test.YtfhgggjpdimaoaaSqAyC
set_option linter.unusedVariables false
set_option linter.unusedSimpArgs false
namespace Go.AX
noncomputable section
open Go

/-! ## Square systems, plainly -/

abbrev FF := Nat → Nat → Nat
abbrev BB := Nat → Nat
def upd (F : Nat → Nat → Nat) (i j v : Nat) : Nat → Nat → Nat := fun r c => if r = i ∧ c = j then v else F r c
def upb (b : Nat → Nat) (i v : Nat) : Nat → Nat := fun r => if r = i then v else b r
def flat (F : Nat → Nat → Nat) (N : Nat) : List Nat := bld (fun p => F (p / N) (p % N)) (N * N)
def mat (F : Nat → Nat → Nat) (N : Nat) : List (List Nat) := bld (fun i => bld (F i) N) N
theorem flatN_len (F : Nat → Nat → Nat) (N : Nat) : (flat F N).length = N * N := bld_len _ _
theorem mat_len (F : Nat → Nat → Nat) (N : Nat) : (mat F N).length = N := bld_len _ _
theorem ix_lt {N i j : Nat} (hi : i < N) (hj : j < N) : i * N + j < N * N := by
  calc i * N + j < i * N + N := by omega
    _ = (i + 1) * N := by rw [Nat.add_mul, Nat.one_mul]
    _ ≤ N * N := Nat.mul_le_mul_right _ hi
theorem ix_div {N i j : Nat} (hj : j < N) : (i * N + j) / N = i := by
  rw [Nat.mul_comm, Nat.mul_add_div (by omega), Nat.div_eq_of_lt hj, Nat.add_zero]
theorem ix_mod {N i j : Nat} (hj : j < N) : (i * N + j) % N = j := by
  rw [Nat.mul_comm, Nat.mul_add_mod, Nat.mod_eq_of_lt hj]
theorem flat_at {F : Nat → Nat → Nat} {N i j : Nat} (hi : i < N) (hj : j < N) : (flat F N).getD (i * N + j) 0 = F i j := by
  unfold flat; rw [bld_at 0 _ (ix_lt hi hj), ix_div hj, ix_mod hj]
theorem bld_upd {α : Type} (f : Nat → α) (i : Nat) (v : α) : ∀ N, (bld f N).set i v = bld (fun r => if r = i then v else f r) N
  | 0 => rfl
  | N + 1 => by
    have hl := bld_len f N
    rw [bld, bld]
    by_cases h : i < N
    · rw [List.set_append_left _ _ (by omega), bld_upd f i v N, if_neg (by omega)]
    · rw [List.set_append_right _ _ (by omega), hl]
      by_cases h2 : i = N
      · subst h2
        rw [Nat.sub_self, if_pos rfl]
        congr 1
        exact bld_congr fun r hr => by rw [if_neg (by omega)]
      · have : i - N = (i - N - 1) + 1 := by omega
        rw [this, if_neg (Ne.symm h2)]
        congr 1
        exact bld_congr fun r hr => by rw [if_neg (by omega)]
theorem flat_congr {F G : Nat → Nat → Nat} {N : Nat} (h : ∀ i j, i < N → j < N → F i j = G i j) : flat F N = flat G N :=
  bld_congr fun p hp => h _ _ ((Nat.div_lt_iff_lt_mul (by cases N; omega; omega)).2 hp) (Nat.mod_lt _ (by cases N; omega; omega))
theorem mat_congr {F G : Nat → Nat → Nat} {N : Nat} (h : ∀ i j, i < N → j < N → F i j = G i j) : mat F N = mat G N :=
  bld_congr fun i hi => bld_congr fun j hj => h i j hi hj
theorem flat_set {F : Nat → Nat → Nat} {N i j v : Nat} (hi : i < N) (hj : j < N) : (flat F N).set (i * N + j) v = flat (upd F i j v) N := by
  unfold flat
  rw [bld_upd]
  refine bld_congr fun p hp => ?_
  have hN : 0 < N := by omega
  by_cases h : p = i * N + j
  · subst h; rw [if_pos rfl, ix_div hj, ix_mod hj]; simp [upd]
  · rw [if_neg h]
    unfold upd
    rw [if_neg]
    rintro ⟨h1, h2⟩
    apply h
    rw [← Nat.div_add_mod p N, h1, h2, Nat.mul_comm]
theorem vec_set {b : Nat → Nat} {N i v : Nat} : (bld b N).set i v = bld (upb b i v) N := bld_upd b i v N
theorem mat_row {F : Nat → Nat → Nat} {N i : Nat} (hi : i < N) : (mat F N).getD i [] = bld (F i) N := bld_at [] _ hi
theorem mat_set {F : Nat → Nat → Nat} {N i : Nat} {g : Nat → Nat} : (mat F N).set i (bld g N) = mat (fun r => if r = i then g else F r) N := by
  unfold mat; rw [bld_upd]
  refine bld_congr fun r hr => ?_
  by_cases h : r = i
  · subst h; simp
  · simp [h]
theorem mat_upd {F : Nat → Nat → Nat} {N i j v : Nat} (hi : i < N) : (mat F N).set i (((mat F N).getD i []).set j v) = mat (upd F i j v) N := by
  rw [mat_row hi, vec_set, mat_set]
  refine mat_congr fun r c hr hc => ?_
  unfold upd upb
  by_cases h : r = i
  · subst h; rw [if_pos rfl]; simp
  · rw [if_neg h, if_neg (fun e => h e.1)]
theorem mat_keep {F : Nat → Nat → Nat} {N i : Nat} (hi : i < N) : (mat F N).set i ((mat F N).getD i []) = mat F N := set_same (by
  have : i < (mat F N).length := by rw [mat_len]; exact hi
  rw [List.getD_eq_getElem?_getD, List.getElem?_eq_getElem this]; rfl)
theorem flat_of {a : List Nat} {N : Nat} (h : a.length = N * N) : a = flat (fun i j => a.getD (i * N + j) 0) N := by
  refine ext_getD 0 (by rw [flatN_len, h]) fun p hp => ?_
  have hN : 0 < N := by cases N; omega; omega
  have hp' : p < N * N := by omega
  have e : p = p / N * N + p % N := by rw [Nat.mul_comm]; exact (Nat.div_add_mod p N).symm
  unfold flat
  rw [bld_at 0 _ hp']
  conv => lhs; rw [e]
theorem vec_of (b : List Nat) : b = bld (fun i => b.getD i 0) b.length := (bld_self 0 b).symm
theorem zero_vec : ∀ N, List.replicate N 0 = bld (fun _ => 0) N
  | 0 => rfl
  | N + 1 => by rw [bld, ← zero_vec N, List.replicate_succ']

/-- t columns of row i, from k + 1 on. -/
def el (F : Nat → Nat → Nat) (i k m : Nat) : Nat → Nat → Nat → Nat
  | 0 => F
  | t + 1 => upd (el F i k m t) i (k + 1 + t) (fop .sub .f32 (el F i k m t i (k + 1 + t)) (fop .mul .f32 m (el F i k m t k (k + 1 + t))))
/-- t rows, from k + 1 on. -/
def rws (F : Nat → Nat → Nat) (b : Nat → Nat) (k N : Nat) : Nat → (Nat → Nat → Nat) × (Nat → Nat)
  | 0 => (F, b)
  | t + 1 => (el (rws F b k N t).1 (k + 1 + t) k (fop .quo .f32 ((rws F b k N t).1 (k + 1 + t) k) ((rws F b k N t).1 k k)) (N - (k + 1)),
      upb (rws F b k N t).2 (k + 1 + t) (fop .sub .f32 ((rws F b k N t).2 (k + 1 + t)) (fop .mul .f32 (fop .quo .f32 ((rws F b k N t).1 (k + 1 + t) k) ((rws F b k N t).1 k k)) ((rws F b k N t).2 k))))
/-- The reference's search for a pivot, t rows from k on. -/
def pS (c : Nat → Nat) (k : Nat) : Nat → Nat
  | 0 => k
  | t + 1 => bif fcmp .gtr .f32 (c (k + t)) (c (pS c k t)) || (fcmp .neq .f32 (c (pS c k t)) (c (pS c k t)) && fcmp .eql .f32 (c (k + t)) (c (k + t))) then k + t else pS c k t
theorem pS_lt (c : Nat → Nat) (k : Nat) : ∀ t, k ≤ pS c k t ∧ pS c k t ≤ k + (t - 1)
  | 0 => ⟨Nat.le_refl _, by simp [pS]⟩
  | t + 1 => by
    have := pS_lt c k t
    simp only [pS]
    cases (fcmp .gtr .f32 (c (k + t)) (c (pS c k t)) || (fcmp .neq .f32 (c (pS c k t)) (c (pS c k t)) && fcmp .eql .f32 (c (k + t)) (c (k + t))))
    · simp only [cond_false]; omega
    · simp only [cond_true]; omega
def pv (F : Nat → Nat → Nat) (k N : Nat) : Nat := pS (fun i => absv (F i k)) k (N - k)
theorem pv_lt {F : Nat → Nat → Nat} {k N : Nat} (h : k < N) : k ≤ pv F k N ∧ pv F k N < N := by
  have := pS_lt (fun i => absv (F i k)) k (N - k)
  unfold pv; omega
def pOK (F : Nat → Nat → Nat) (k N : Nat) : Bool := fcmp .gtr .f32 (absv (F (pv F k N) k)) (cn .f32 0)
def stp (F : Nat → Nat → Nat) (b : Nat → Nat) (k N : Nat) : (Nat → Nat → Nat) × (Nat → Nat) :=
  rws (fun r c => F (swp k (pv F k N) r) c) (fun r => b (swp k (pv F k N) r)) k N (N - (k + 1))
def elim (F : Nat → Nat → Nat) (b : Nat → Nat) (N : Nat) : Nat → Option ((Nat → Nat → Nat) × (Nat → Nat))
  | 0 => some (F, b)
  | k + 1 => (elim F b N k).bind fun S => if pOK S.1 k N = true then some (stp S.1 S.2 k N) else none
theorem elim_none {F : Nat → Nat → Nat} {b : Nat → Nat} {N : Nat} {k : Nat} (h : elim F b N k = none) : ∀ t, elim F b N (k + t) = none
  | 0 => h
  | t + 1 => by show (elim F b N (k + t)).bind _ = none; rw [elim_none h t]; rfl
/-- The spec's swap, t columns. -/
def sw (F : Nat → Nat → Nat) (k p : Nat) : Nat → Nat → Nat → Nat
  | 0 => F
  | t + 1 => upd (upd (sw F k p t) k t (sw F k p t p t)) p t (sw F k p t k t)
theorem sw_at (F : Nat → Nat → Nat) (k p : Nat) : ∀ t r c, sw F k p t r c = if c < t then F (swp k p r) c else F r c
  | 0, r, c => by simp [sw]
  | t + 1, r, c => by
    simp only [sw, upd, sw_at F k p t]
    unfold swp
    by_cases hc : c = t
    · subst hc
      simp only [and_true, Nat.lt_irrefl, if_false, Nat.lt_succ_self, if_true]
      by_cases h1 : r = p
      · subst h1
        by_cases h2 : r = k
        · subst h2; simp
        · simp [h2]
      · by_cases h2 : r = k
        · subst h2; simp [h1]
        · simp [h1, h2]
    · have : (c < t + 1) = (c < t) := by apply propext; omega
      simp [hc, this]
theorem upb_swp (b : Nat → Nat) (k p : Nat) : upb (upb b k (b p)) p (b k) = fun r => b (swp k p r) := by
  funext r
  unfold upb swp
  by_cases h1 : r = p
  · subst h1
    by_cases h2 : r = k
    · subst h2; simp
    · simp [h2]
  · by_cases h2 : r = k
    · subst h2; simp [h1]
    · simp [h1, h2]
/-- t terms of what is taken off. -/
def sm (F : Nat → Nat → Nat) (x : Nat → Nat) (i s0 : Nat) : Nat → Nat
  | 0 => s0
  | t + 1 => fop .sub .f32 (sm F x i s0 t) (fop .mul .f32 (F i (i + 1 + t)) (x (i + 1 + t)))
/-- t unknowns, from the last on. -/
def bsx (F : Nat → Nat → Nat) (b : Nat → Nat) (N : Nat) : Nat → Nat → Nat
  | 0 => fun _ => 0
  | t + 1 => upb (bsx F b N t) (N - 1 - t) (fop .quo .f32 (sm F (bsx F b N t) (N - 1 - t) (b (N - 1 - t)) t) (F (N - 1 - t) (N - 1 - t)))
theorem bsx_keep {F : Nat → Nat → Nat} {b : Nat → Nat} {N : Nat} {j : Nat} : ∀ {t t' : Nat}, t ≤ t' → t' ≤ N → N - t ≤ j → bsx F b N t' j = bsx F b N t j
  | t, 0, h, _, _ => by rw [Nat.le_zero.1 h]
  | t, t' + 1, h, h2, hj => by
    by_cases e : t = t' + 1
    · rw [e]
    · rw [← bsx_keep (F := F) (b := b) (t := t) (t' := t') (by omega) (by omega) hj]
      simp only [bsx, upb]
      rw [if_neg (by omega)]
def sol (F : Nat → Nat → Nat) (b : Nat → Nat) (N : Nat) : Option (List Nat) := (elim F b N N).bind fun S => if (bld (bsx S.1 S.2 N N) N).all finB = true then some (bld (bsx S.1 S.2 N N) N) else none
def solL (o : Option (List Nat)) : List Nat := o.getD []
end
end Go.AX
