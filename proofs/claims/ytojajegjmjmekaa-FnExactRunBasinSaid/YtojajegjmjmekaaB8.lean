/- What the functions of this program do, one contract a function, by that walk: each under what its own statement says. -/
import Derived.Test.YtojajegjmjmekaaB7
set_option linter.unusedVariables false
set_option linter.unusedSimpArgs false
namespace Go.AX
noncomputable section
open Go.RowKit Go.Proofs
set_option maxRecDepth 100000
set_option maxHeartbeats 4000000

/-- An array that is built up. -/
def bld (f : Nat → Nat) : Nat → List Nat
  | 0 => []
  | n + 1 => bld f n ++ [f n]
theorem bld_len (f : Nat → Nat) : ∀ n, (bld f n).length = n
  | 0 => rfl
  | n + 1 => by simp [bld, bld_len f n]
theorem bld_at (f : Nat → Nat) : ∀ {n i : Nat}, i < n → (bld f n).getD i 0 = f i
  | 0, i, h => by omega
  | n + 1, i, h => by
    have hl := bld_len f n
    by_cases hi : i < n
    · have := bld_at f hi
      simp only [List.getD_eq_getElem?_getD] at this ⊢
      rw [bld, List.getElem?_append_left (by rw [hl]; exact hi)]; exact this
    · have : i = n := by omega
      subst this
      simp only [List.getD_eq_getElem?_getD]
      rw [bld, List.getElem?_append_right (by rw [hl]; exact Nat.le_refl _), hl]; simp
theorem bld_congr {f g : Nat → Nat} : ∀ {n : Nat}, (∀ i, i < n → f i = g i) → bld f n = bld g n
  | 0, _ => rfl
  | n + 1, h => by rw [bld, bld, bld_congr fun i hi => h i (by omega), h n (by omega)]
theorem bld_all {p : Nat → Bool} {f : Nat → Nat} : ∀ {n : Nat}, (∀ i, i < n → p (f i) = true) → (bld f n).all p = true
  | 0, _ => rfl
  | n + 1, h => by rw [bld, List.all_append, bld_all fun i hi => h i (by omega)]; simp [h n (by omega)]
theorem bld_not {p : Nat → Bool} {f : Nat → Nat} : ∀ {n : Nat} (i : Nat), i < n → p (f i) = false → (bld f n).all p = false
  | 0, i, h, _ => by omega
  | n + 1, i, h, hp => by
    rw [bld, List.all_append]
    by_cases hi : i < n
    · rw [bld_not i hi hp]; rfl
    · have : i = n := by omega
      subst this; simp [hp]
theorem bld_self (xs : List Nat) : bld (fun i => xs.getD i 0) xs.length = xs := by
  apply List.ext_getElem?
  intro i
  by_cases hi : i < xs.length
  · have := bld_at (fun i => xs.getD i 0) hi
    simp only [List.getD_eq_getElem?_getD] at this
    rw [List.getElem?_eq_getElem hi]
    have h2 : i < (bld (fun i => xs.getD i 0) xs.length).length := by rw [bld_len]; exact hi
    rw [List.getElem?_eq_getElem h2]
    simp only [List.getD_eq_getElem?_getD] at h2 ⊢
    rw [List.getElem?_eq_getElem h2, List.getElem?_eq_getElem hi] at this
    simpa using this
  · rw [List.getElem?_eq_none (by rw [bld_len]; omega), List.getElem?_eq_none (by omega)]
theorem finB_num (x : Nat) : finB x = isNum .f32 x := sub_self_num .f32 x

def gI (b : Bool) (n : Int) : Int := bif b then n else 0
def gR (b : Bool) (R : List Nat) : List Nat := bif b then R else []
abbrev toldB (b : Bool) (w h : Int) (k : Nat) : AV := .tup [bas (gI b w) (gI b h) k, .one (.ex (.bool b))]
theorem sizeB_le {w h : Int} (hb : sizeB w h = true) : 3 ≤ w ∧ w ≤ 16 ∧ 3 ≤ h ∧ h ≤ 16 := by
  unfold sizeB at hb
  simp only [Bool.and_eq_true] at hb
  obtain ⟨a1, a2⟩ := inB_le hb.1
  obtain ⟨b1, b2⟩ := inB_le hb.2
  exact ⟨a1, a2, b1, b2⟩
theorem size_nat {w h : Int} (hb : sizeB w h = true) : ∃ W H : Nat, w = W ∧ h = H ∧ 3 ≤ W ∧ W ≤ 16 ∧ 3 ≤ H ∧ H ≤ 16 ∧ W * H ≤ 256 := by
  obtain ⟨a1, a2, b1, b2⟩ := sizeB_le hb
  refine ⟨w.toNat, h.toNat, by omega, by omega, by omega, by omega, by omega, by omega, ?_⟩
  have := Nat.mul_le_mul (show w.toNat ≤ 16 by omega) (show h.toNat ≤ 16 by omega)
  omega
theorem isB_size {w h : Int} {xs : List Nat} (hb : isB w h xs = true) : sizeB w h = true := by
  unfold isB at hb
  simp only [Bool.and_eq_true] at hb
  exact hb.1
theorem isB_nat {w h : Int} {xs : List Nat} (hb : isB w h xs = true) : ∃ W H : Nat, w = W ∧ h = H ∧ 3 ≤ W ∧ W ≤ 16 ∧ 3 ≤ H ∧ H ≤ 16 ∧ xs.length = W * H ∧ W * H ≤ 256 := by
  obtain ⟨W, H, rfl, rfl, h1, h2, h3, h4, h5⟩ := size_nat (isB_size hb)
  obtain ⟨e, _⟩ := isB_len hb
  exact ⟨W, H, rfl, rfl, h1, h2, h3, h4, by exact_mod_cast e, h5⟩
theorem isB_fin {w h : Int} {xs : List Nat} (hb : isB w h xs = true) : xs.all finB = true := by
  unfold isB at hb
  simp only [Bool.and_eq_true] at hb
  exact hb.2.2
theorem wrWH {W H : Nat} (h : W * H ≤ 256) : IntKind.i64.wrap ((W : Int) * (H : Int)) = ((W * H : Nat) : Int) := by
  rw [show (W : Int) * (H : Int) = ((W * H : Nat) : Int) by simp, wr64 (by omega) (by omega)]
theorem isB_of {W H : Nat} {xs : List Nat} (h1 : 3 ≤ W) (h2 : W ≤ 16) (h3 : 3 ≤ H) (h4 : H ≤ 16) (hl : xs.length = W * H) (hf : xs.all finB = true) : isB W H xs = true := by
  have hWH : W * H ≤ 256 := (by have := Nat.mul_le_mul h2 h4; omega)
  unfold isB sizeB inB
  rw [hf, wrWH hWH, hl]
  simp
  omega
theorem isB_not {w h : Int} {xs : List Nat} (hf : xs.all finB = false) : isB w h xs = false := by
  unfold isB; rw [hf]; simp

/-- A place along a side, around. -/
def pl (x n : Int) : Int := (x.tmod n + n).tmod n
def plc (w h x y : Int) : Int := pl x w + w * pl y h
def atV (xs : List Nat) (w h x y : Int) : Nat := xs.getD (plc w h x y).toNat 0
theorem tmod_bd (x : Int) {n : Int} (h : 0 < n) : -n < x.tmod n ∧ x.tmod n < n := by
  refine ⟨?_, Int.tmod_lt_of_pos x h⟩
  rcases Int.le_total 0 x with h0 | h0
  · have := Int.tmod_nonneg n h0; omega
  · have h1 := Int.tmod_lt_of_pos (-x) h
    have h2 := Int.neg_tmod (-x) n
    rw [Int.neg_neg] at h2
    omega
theorem tmod_nn {x n : Int} (hx : 0 ≤ x) (h : 0 < n) : 0 ≤ x.tmod n := Int.tmod_nonneg n hx
theorem pl_bd (x : Int) {n : Int} (h : 0 < n) : 0 ≤ pl x n ∧ pl x n < n := by
  obtain ⟨h1, h2⟩ := tmod_bd x h
  exact ⟨tmod_nn (by omega) h, (tmod_bd _ h).2⟩
theorem plc_bd (x y : Int) {W H : Nat} (h1 : 0 < W) (h2 : 0 < H) : 0 ≤ plc W H x y ∧ plc W H x y < ((W * H : Nat) : Int) := by
  obtain ⟨a1, a2⟩ := pl_bd x (n := W) (by omega)
  obtain ⟨b1, b2⟩ := pl_bd y (n := H) (by omega)
  unfold plc
  have c1 : 0 ≤ (W : Int) * pl y H := Int.mul_nonneg (by omega) b1
  have c2 : (W : Int) * pl y H ≤ (W : Int) * ((H : Int) - 1) := Int.mul_le_mul_of_nonneg_left (by omega) (by omega)
  have c3 : (W : Int) * ((H : Int) - 1) = ((W * H : Nat) : Int) - W := by rw [Int.mul_sub, Int.mul_one]; simp
  omega
theorem pl_in {x n : Int} (h1 : 0 ≤ x) (h2 : x < n) : pl x n = x := by
  unfold pl
  rw [Int.tmod_eq_of_lt h1 h2]
  have : x + n = x + 1 * n := by omega
  rw [Int.tmod_eq_emod_of_nonneg (by omega), this, Int.add_mul_emod_self_right, Int.emod_eq_of_lt h1 h2]
theorem atV_in {xs : List Nat} {W t : Nat} {h : Nat} (hW : 0 < W) (ht : t < W * h) : atV xs W h ((t % W : Nat) : Int) ((t / W : Nat) : Int) = xs.getD t 0 := by
  have q1 : t % W < W := Nat.mod_lt _ hW
  have q2 : t / W < h := by rw [Nat.div_lt_iff_lt_mul hW, Nat.mul_comm]; exact ht
  unfold atV plc
  rw [pl_in (Int.natCast_nonneg _) (Int.ofNat_lt.2 q1), pl_in (Int.natCast_nonneg _) (Int.ofNat_lt.2 q2)]
  have : ((t % W : Nat) : Int) + (W : Int) * ((t / W : Nat) : Int) = ((t % W + W * (t / W) : Nat) : Int) := by simp
  rw [this, Nat.mod_add_div]; rfl
theorem atV_num {xs : List Nat} {W H : Nat} (x y : Int) (h1 : 0 < W) (h2 : 0 < H) (hl : xs.length = W * H) (hf : xs.all finB = true) : finB (atV xs W H x y) = true := by
  obtain ⟨a, b⟩ := plc_bd x y h1 h2
  have hlt : (plc W H x y).toNat < xs.length := by omega
  unfold atV
  rw [List.getD_eq_getElem?_getD, List.getElem?_eq_getElem hlt]
  exact List.all_eq_true.1 hf _ (List.getElem_mem hlt)
theorem tdiv_nat (t W : Nat) : (t : Int).tdiv (W : Int) = ((t / W : Nat) : Int) := by rw [Int.ofNat_tdiv]
theorem tmod_nat (t W : Nat) : (t : Int).tmod (W : Int) = ((t % W : Nat) : Int) := by rw [Int.ofNat_tmod]
/-- What a cell's place tells, cell by cell. -/
def grid (w h : Int) (φ : Int → Int → Nat) : List Nat := bld (fun t => φ ((t % w.toNat : Nat) : Int) ((t / w.toNat : Nat) : Int)) (w * h).toNat
theorem grid_row {W : Nat} (φ : Int → Int → Nat) {x y : Nat} (hx : x < W) : φ (((y * W + x) % W : Nat) : Int) (((y * W + x) / W : Nat) : Int) = φ x y := by
  have e1 : (y * W + x) % W = x := by rw [Nat.mul_comm, Nat.mul_add_mod, Nat.mod_eq_of_lt hx]
  have e2 : (y * W + x) / W = y := by rw [Nat.mul_comm, Nat.mul_add_div (by omega), Nat.div_eq_of_lt hx]; omega
  rw [e1, e2]
theorem gridN (W H : Nat) (φ : Int → Int → Nat) : grid W H φ = bld (fun t => φ ((t % W : Nat) : Int) ((t / W : Nat) : Int)) (W * H) := by
  unfold grid
  have : ((W : Int) * (H : Int)).toNat = W * H := by
    rw [show (W : Int) * (H : Int) = ((W * H : Nat) : Int) by simp]; rfl
  rw [this]; rfl
theorem grid_len (W H : Nat) (φ : Int → Int → Nat) : (grid W H φ).length = W * H := by rw [gridN, bld_len]
theorem inS {x : Int} {n : Nat} (h : x = (n : Int)) : x = n := h

theorem s99 (w h : Int) : SP 99 [] [i64 w, i64 h] [ar true []] (.v (bas w h 0)) := by
  refine spec_of_codeR (fn := Try.f99) tyOK mixes Try.func99 rfl rfl rfl rfl fun hg R0 hR => ?_
  refine c_seq fun NN1 nn1 => ?_
  refine c_region fun KK2 kk2 => ?_
  refine n_of (N' := KK2) kk2 ?_
  refine n_of (N' := NN1) nn1 ?_
  refine c_seq fun NN3 nn3 => ?_
  refine c_region fun KK4 kk4 => ?_
  refine n_of (N' := KK4) kk4 ?_
  refine n_of (N' := NN3) nn3 ?_
  refine c_ret ?_
  refine n_of (N' := R0) hR ?_
  exact ⟨[], rfl, rfl, rfl⟩

theorem s92 (w h : Int) (R : List Nat) : SP 92 [ar true R] [bas w h 0] [.dead, ar true (gR (isB w h R) R)] (toldB (isB w h R) w h 1) := by
  refine spec_of_codeR (fn := Try.f92) tyOK mixes Try.func92 rfl rfl rfl ⟨.inr rfl, rfl⟩ fun hg R0 hR => ?_
  refine c_seq fun NN1 nn1 => ?_
  refine c_region fun KK2 kk2 => ?_
  refine n_of (N' := KK2) kk2 ?_
  refine n_of (N' := NN1) nn1 ?_
  refine c_seq fun NN3 nn3 => ?_
  refine c_seq fun NN4 nn4 => ?_
  refine c_region fun KK5 kk5 => ?_
  refine ⟨rfl, _, _, (s79 _ _ _ _), ?_⟩
  refine n_of (N' := KK5) kk5 ?_
  refine n_of (N' := NN4) nn4 ?_
  refine c_cond rfl (fun h0 => ?_) (fun h0 => ?_)
  · skip
    refine c_seq fun NN6 nn6 => ?_
    refine c_region fun KK7 kk7 => ?_
    refine n_of (N' := KK7) kk7 ?_
    refine n_of (N' := NN6) nn6 ?_
    refine c_ret ?_
    refine n_of (N' := R0) hR ?_
    have ok : isB w h R = false := not_t h0
    exact ⟨[.nil 32 (.f []), .drop 0], rfl, rfl, by rw [ok]; rfl, by rw [ok]; rfl⟩
  · skip
    refine c_skip ?_
    refine n_of (N' := NN3) nn3 ?_
    refine c_seq fun NN8 nn8 => ?_
    refine c_region fun KK9 kk9 => ?_
    refine n_of (N' := KK9) kk9 ?_
    refine n_of (N' := NN8) nn8 ?_
    refine c_ret ?_
    refine n_of (N' := R0) hR ?_
    have ok : isB w h R = true := not_f h0
    exact ⟨[.mv 0], rfl, by rw [ok]; rfl, by rw [ok]; rfl⟩

theorem s94 (w h : Int) (R : List Nat) : SP 94 [ar true R] [bas w h 0] [.dead, ar true (gR (isB w h R) R)] (toldB (isB w h R) w h 1) := by
  refine spec_of_codeR (fn := Try.f94) tyOK mixes Try.func94 rfl rfl rfl ⟨.inr rfl, rfl⟩ fun hg R0 hR => ?_
  refine c_seq fun NN1 nn1 => ?_
  refine c_region fun KK2 kk2 => ?_
  refine n_of (N' := KK2) kk2 ?_
  refine n_of (N' := NN1) nn1 ?_
  refine c_seq fun NN3 nn3 => ?_
  refine c_seq fun NN4 nn4 => ?_
  refine c_region fun KK5 kk5 => ?_
  refine ⟨rfl, _, _, (s28 _ _ _ _), ?_⟩
  refine n_of (N' := KK5) kk5 ?_
  refine n_of (N' := NN4) nn4 ?_
  refine c_cond rfl (fun h0 => ?_) (fun h0 => ?_)
  · skip
    refine c_seq fun NN6 nn6 => ?_
    refine c_region fun KK7 kk7 => ?_
    refine n_of (N' := KK7) kk7 ?_
    refine n_of (N' := NN6) nn6 ?_
    refine c_ret ?_
    refine n_of (N' := R0) hR ?_
    have ok : isB w h R = false := not_t h0
    exact ⟨[.nil 32 (.f []), .drop 0], rfl, rfl, by rw [ok]; rfl, by rw [ok]; rfl⟩
  · skip
    refine c_skip ?_
    refine n_of (N' := NN3) nn3 ?_
    refine c_seq fun NN8 nn8 => ?_
    refine c_region fun KK9 kk9 => ?_
    refine n_of (N' := KK9) kk9 ?_
    refine n_of (N' := NN8) nn8 ?_
    refine c_ret ?_
    refine n_of (N' := R0) hR ?_
    have ok : isB w h R = true := not_f h0
    exact ⟨[.mv 0], rfl, by rw [ok]; rfl, by rw [ok]; rfl⟩

theorem s93 (W H : Nat) (w1 : 3 ≤ W) (w2 : W ≤ 16) (w3 : 3 ≤ H) (w4 : H ≤ 16) (x : Nat) : SP 93 [] [i64 W, i64 H, f32 x] [ar true (bld (fun _ => x) (W * H))] (.v (bas W H 0)) := by
  refine spec_of_codeR (fn := Try.f93) tyOK mixes Try.func93 rfl rfl rfl rfl fun hg R0 hR => ?_
  have hWH : W * H ≤ 256 := (by have := Nat.mul_le_mul w2 w4; omega)
  have hwr := wrWH hWH
  refine c_seq fun NN1 nn1 => ?_
  refine c_region fun KK2 kk2 => ?_
  refine n_of (N' := KK2) kk2 ?_
  refine n_of (N' := NN1) nn1 ?_
  refine c_seq fun NN3 nn3 => ?_
  refine c_region fun KK4 kk4 => ?_
  refine ⟨rfl, _, _, (s99 _ _), ?_⟩
  refine n_of (N' := KK4) kk4 ?_
  refine n_of (N' := NN3) nn3 ?_
  refine c_seq fun NN5 nn5 => ?_
  refine c_seq fun NN6 nn6 => ?_
  refine c_region fun KK7 kk7 => ?_
  refine n_of (N' := KK7) kk7 ?_
  refine n_of (N' := NN6) nn6 ?_
  refine c_block fun XX8 xx8 => ?_
  refine loop_keep [] [0, 1, 2, 6, 7] (ι := { i : Nat // i ≤ W * H }) (fun i => [(8, exi .i64 i.1)]) (fun i => [(1, ar true (bld (fun _ => x) i.1))]) (fun i => W * H - i.1) ⟨0, Nat.zero_le _⟩ trivial rfl ?_
  refine ⟨?_, ?_, ?_⟩
  · exact ⟨.inr rfl, trivial⟩
  · exact ⟨rfl, rfl, rfl, trivial⟩
  refine fun ⟨i, hi⟩ NL9 nl9 => ?_
  refine c_norm rfl rfl ?_
  refine c_seq fun NN10 nn10 => ?_
  refine c_seq fun NN11 nn11 => ?_
  refine c_region fun KK12 kk12 => ?_
  refine n_of (N' := KK12) kk12 ?_
  refine n_of (N' := NN11) nn11 ?_
  refine c_cond rfl (fun h0 => ?_) (fun h0 => ?_)
  · skip
    have q0 := of_decide_eq_true h0
    (try dsimp only at q0)
    (try simp only [Dat.len, hwr, bld_len, List.length_cons, List.length_nil] at q0)
    refine c_skip ?_
    refine n_of (N' := NN10) nn10 ?_
    refine c_seq fun NN13 nn13 => ?_
    refine c_block fun XX14 xx14 => ?_
    refine c_region fun KK15 kk15 => ?_
    refine And.intro ?_ ?_
    · (refine ⟨?_, by decide⟩; (try dsimp only); (try simp only [Dat.len, Int.toNat_natCast, hwr, bld_len, List.length_cons, List.length_nil]); omega)   -- 0 append
    refine n_of (N' := KK15) kk15 ?_
    refine n_of (N' := NN13) nn13 ?_
    refine c_region fun KK16 kk16 => ?_
    refine n_of (N' := KK16) kk16 ?_
    refine n_of (N' := NL9) nl9 ?_
    refine ⟨⟨i + 1, by omega⟩, ?_, [0, 1, 2], rfl, ?_, ?_⟩
    · (dsimp only; omega)
    · exact LEq.eq ⟨rfl, rfl, rfl, trivial⟩
    · exact ⟨.inr (congrArg (exi .i64) (wr64 (n := (i : Int) + 1) (by omega) (by omega))), .inr rfl, .inr rfl, .inr rfl, .inr rfl, .inr rfl, trivial⟩
  · skip
    have q0 := of_decide_eq_false h0
    (try dsimp only at q0)
    (try simp only [Dat.len, hwr, bld_len, List.length_cons, List.length_nil] at q0)
    refine c_exit ?_
    refine x_here xx8 ?_
    refine n_of (N' := NN5) nn5 ?_
    refine c_seq fun NN17 nn17 => ?_
    refine c_region fun KK18 kk18 => ?_
    refine n_of (N' := KK18) kk18 ?_
    refine n_of (N' := NN17) nn17 ?_
    refine c_ret ?_
    refine n_of (N' := R0) hR ?_
    have e : i = W * H := by omega
    subst e
    exact ⟨[], rfl, rfl, rfl⟩

def Rflat (w h : Int) (x : Nat) : List Nat := bld (fun _ => x) (w * h).toNat
theorem RflatN (W H x : Nat) : Rflat W H x = bld (fun _ => x) (W * H) := by
  unfold Rflat
  rw [show (W : Int) * (H : Int) = ((W * H : Nat) : Int) by simp]; rfl
def okflat (w h : Int) (x : Nat) : Bool := sizeB w h && isB w h (Rflat w h x)

theorem s39 (w h : Int) (x : Nat) : SP 39 [] [i64 w, i64 h, f32 x] [ar true (gR (okflat w h x) (Rflat w h x))] (toldB (okflat w h x) w h 0) := by
  refine spec_of_codeR (fn := Try.f39) tyOK mixes Try.func39 rfl rfl rfl rfl fun hg R0 hR => ?_
  refine c_seq fun NN1 nn1 => ?_
  refine c_region fun KK2 kk2 => ?_
  refine n_of (N' := KK2) kk2 ?_
  refine n_of (N' := NN1) nn1 ?_
  refine c_seq fun NN3 nn3 => ?_
  refine c_seq fun NN4 nn4 => ?_
  refine c_region fun KK5 kk5 => ?_
  refine ⟨rfl, _, _, (s91 _ _), ?_⟩
  refine n_of (N' := KK5) kk5 ?_
  refine n_of (N' := NN4) nn4 ?_
  refine c_cond rfl (fun h0 => ?_) (fun h0 => ?_)
  · skip
    refine c_seq fun NN6 nn6 => ?_
    refine c_region fun KK7 kk7 => ?_
    refine n_of (N' := KK7) kk7 ?_
    refine n_of (N' := NN6) nn6 ?_
    refine c_ret ?_
    refine n_of (N' := R0) hR ?_
    have ok : okflat w h x = false := by unfold okflat; rw [not_t h0]; rfl
    exact ⟨[.nil 32 (.f [])], rfl, rfl, by rw [ok]; rfl, by rw [ok]; rfl⟩
  · skip
    have hz := not_f h0
    obtain ⟨W, H, rfl, rfl, w1, w2, w3, w4, hWH⟩ := size_nat (hz)
    refine c_skip ?_
    refine n_of (N' := NN3) nn3 ?_
    refine c_seq fun NN8 nn8 => ?_
    refine c_region fun KK9 kk9 => ?_
    refine ⟨rfl, _, _, (s93 _ _ (by ((try dsimp only); first | assumption | omega | (simp (disch := omega) only [wr64]; omega))) (by ((try dsimp only); first | assumption | omega | (simp (disch := omega) only [wr64]; omega))) (by ((try dsimp only); first | assumption | omega | (simp (disch := omega) only [wr64]; omega))) (by ((try dsimp only); first | assumption | omega | (simp (disch := omega) only [wr64]; omega))) _), ?_⟩
    refine ⟨rfl, _, _, (s92 _ _ _), ?_⟩
    refine n_of (N' := KK9) kk9 ?_
    refine n_of (N' := NN8) nn8 ?_
    refine c_ret ?_
    refine n_of (N' := R0) hR ?_
    have ok : okflat W H x = isB W H (bld (fun _ => x) (W * H)) := by unfold okflat; rw [hz, RflatN]; rfl
    exact ⟨[], rfl, by rw [ok, RflatN], by rw [ok]⟩

theorem s96 (a b : Int) (x : Nat) : SP 96 [.var 32 [.fl .f32 x]] [i64 a, i64 b, .one (.pv 0 0)] [.var 32 [.fl .f32 x]] (fl32 x) := by
  refine spec_of_codeR (fn := Try.f96) tyOK mixes Try.func96 rfl rfl rfl ⟨.inl rfl, rfl⟩ fun hg R0 hR => ?_
  refine c_seq fun NN1 nn1 => ?_
  refine c_region fun KK2 kk2 => ?_
  refine n_of (N' := KK2) kk2 ?_
  refine n_of (N' := NN1) nn1 ?_
  refine c_seq fun NN3 nn3 => ?_
  refine c_region fun KK4 kk4 => ?_
  refine n_of (N' := KK4) kk4 ?_
  refine n_of (N' := NN3) nn3 ?_
  refine c_ret ?_
  refine n_of (N' := R0) hR ?_
  exact ⟨[], rfl, rfl, rfl⟩

theorem s95flat (z : Nat) (W H : Nat) (w1 : 3 ≤ W) (w2 : W ≤ 16) (w3 : 3 ≤ H) (w4 : H ≤ 16) : SP 95 [.var 32 [.fl .f32 z]] [i64 W, i64 H, .one (.fn 96 [] [0])] [.var 32 [.fl .f32 z], ar true (grid W H (fun x y => z))] (.v (bas W H 1)) := by
  refine spec_of_codeR (fn := Try.f95) tyOK mixes Try.func95 rfl rfl rfl ⟨.inl rfl, rfl⟩ fun hg R0 hR => ?_
  have hWH : W * H ≤ 256 := (by have := Nat.mul_le_mul w2 w4; omega)
  have hwr := wrWH hWH
  rw [gridN] at hR
  refine c_seq fun NN1 nn1 => ?_
  refine c_region fun KK2 kk2 => ?_
  refine n_of (N' := KK2) kk2 ?_
  refine n_of (N' := NN1) nn1 ?_
  refine c_seq fun NN3 nn3 => ?_
  refine c_region fun KK4 kk4 => ?_
  refine n_of (N' := KK4) kk4 ?_
  refine n_of (N' := NN3) nn3 ?_
  refine c_seq fun NN5 nn5 => ?_
  refine c_seq fun NN6 nn6 => ?_
  refine c_region fun KK7 kk7 => ?_
  refine n_of (N' := KK7) kk7 ?_
  refine n_of (N' := NN6) nn6 ?_
  refine c_block fun XX8 xx8 => ?_
  refine loop_keep [.c 2 2 32 (.f [])] [0, 2, 6, 7, 13] (ι := { i : Nat // i ≤ H }) (fun i => [(14, exi .i64 i.1)]) (fun i => [(3, ar true (bld (fun t => (fun x y => z) ((t % W : Nat) : Int) ((t / W : Nat) : Int)) (i.1 * W)))]) (fun i => H - i.1) ⟨0, Nat.zero_le _⟩ ⟨rfl, trivial⟩ rfl ?_
  refine ⟨?_, ?_, ?_⟩
  · exact ⟨.inr rfl, trivial⟩
  · exact ⟨rfl, rfl, rfl, congrArg (ar true) (by simp [bld]), trivial⟩
  refine fun ⟨y, hy⟩ NL9 nl9 => ?_
  refine c_norm rfl rfl ?_
  refine c_seq fun NN10 nn10 => ?_
  refine c_region fun KK11 kk11 => ?_
  refine n_of (N' := KK11) kk11 ?_
  refine n_of (N' := NN10) nn10 ?_
  refine c_seq fun NN12 nn12 => ?_
  refine c_cond rfl (fun h0 => ?_) (fun h0 => ?_)
  · skip
    have q0 := of_decide_eq_true h0
    (try dsimp only at q0)
    (try simp only [Dat.len, bld_len, List.length_cons, List.length_nil] at q0)
    refine c_skip ?_
    refine n_of (N' := NN12) nn12 ?_
    refine c_seq fun NN13 nn13 => ?_
    refine c_block fun XX14 xx14 => ?_
    refine c_seq fun NN15 nn15 => ?_
    refine c_region fun KK16 kk16 => ?_
    refine n_of (N' := KK16) kk16 ?_
    refine n_of (N' := NN15) nn15 ?_
    refine c_seq fun NN17 nn17 => ?_
    refine c_region fun KK18 kk18 => ?_
    refine n_of (N' := KK18) kk18 ?_
    refine n_of (N' := NN17) nn17 ?_
    refine c_block fun XX19 xx19 => ?_
    refine loop_keep [] [0, 2, 6, 7, 8, 13, 14, 17] (ι := { i : Nat // i ≤ W }) (fun i => [(18, exi .i64 i.1)]) (fun i => [(3, ar true (bld (fun t => (fun x y => z) ((t % W : Nat) : Int) ((t / W : Nat) : Int)) (y * W + i.1)))]) (fun i => W - i.1) ⟨0, Nat.zero_le _⟩ trivial rfl ?_
    refine ⟨?_, ?_, ?_⟩
    · exact ⟨.inr rfl, trivial⟩
    · exact ⟨rfl, rfl, rfl, rfl, trivial⟩
    refine fun ⟨x, hx⟩ NL20 nl20 => ?_
    refine c_norm rfl rfl ?_
    have hyx : y * W + x ≤ 256 := Nat.le_trans (Nat.add_le_add (Nat.mul_le_mul_right W (show y ≤ 15 by omega)) hx) (by omega)
    refine c_seq fun NN21 nn21 => ?_
    refine c_region fun KK22 kk22 => ?_
    refine n_of (N' := KK22) kk22 ?_
    refine n_of (N' := NN21) nn21 ?_
    refine c_seq fun NN23 nn23 => ?_
    refine c_cond rfl (fun h1 => ?_) (fun h1 => ?_)
    · skip
      have q1 := of_decide_eq_true h1
      (try dsimp only at q1)
      (try simp only [Dat.len, bld_len, List.length_cons, List.length_nil] at q1)
      refine c_skip ?_
      refine n_of (N' := NN23) nn23 ?_
      refine c_seq fun NN24 nn24 => ?_
      refine c_block fun XX25 xx25 => ?_
      refine c_seq fun NN26 nn26 => ?_
      refine c_region fun KK27 kk27 => ?_
      refine n_of (N' := KK27) kk27 ?_
      refine n_of (N' := NN26) nn26 ?_
      refine c_draw 7 [0, 1, 2, 3, 4, 5, 6] (by kernel_rfl) fun KK28 kk28 => ?_
      refine ⟨rfl, _, _, s96 _ _ _, rfl, ?_⟩
      refine And.intro ?_ ?_
      · (refine ⟨?_, by decide⟩; (try dsimp only); (try simp only [Dat.len, bld_len, List.length_append, List.length_cons, List.length_nil]); omega)   -- 0 append
      refine n_of (N' := KK28) kk28 ?_
      refine n_of (N' := NN24) nn24 ?_
      refine c_region fun KK29 kk29 => ?_
      refine n_of (N' := KK29) kk29 ?_
      refine n_of (N' := NL20) nl20 ?_
      refine ⟨⟨x + 1, by omega⟩, ?_, [0, 1, 2, 3], rfl, ?_, ?_⟩
      · (dsimp only; omega)
      · exact LEq.eq ⟨rfl, rfl, rfl, congrArg (fun z => ar true (bld _ (y * W + x) ++ [z])) (grid_row (fun x y => z) (W := W) (x := x) (y := y) (by omega)).symm, trivial⟩
      · exact ⟨.inr (congrArg (exi .i64) (wr64 (n := (x : Int) + 1) (by omega) (by omega))), .inr rfl, .inr rfl, .inr rfl, .inr rfl, .inr rfl, .inr rfl, .inr rfl, .inr rfl, trivial⟩
    · skip
      have q1 := of_decide_eq_false h1
      (try dsimp only at q1)
      (try simp only [Dat.len, bld_len, List.length_cons, List.length_nil] at q1)
      refine c_exit ?_
      refine x_here xx19 ?_
      refine n_of (N' := NN13) nn13 ?_
      refine c_region fun KK30 kk30 => ?_
      refine n_of (N' := KK30) kk30 ?_
      refine n_of (N' := NL9) nl9 ?_
      refine ⟨⟨y + 1, by omega⟩, ?_, [0, 1, 2, 3], rfl, ?_, ?_⟩
      · (dsimp only; omega)
      · exact LEq.eq ⟨rfl, rfl, rfl, congrArg (ar true) (congrArg (bld _) (by (try dsimp only); rw [Nat.add_mul]; omega)), trivial⟩
      · exact ⟨.inr (congrArg (exi .i64) (wr64 (n := (y : Int) + 1) (by omega) (by omega))), .inr rfl, .inr rfl, .inr rfl, .inr rfl, .inr rfl, trivial⟩
  · skip
    have q0 := of_decide_eq_false h0
    (try dsimp only at q0)
    (try simp only [Dat.len, bld_len, List.length_cons, List.length_nil] at q0)
    refine c_exit ?_
    refine x_here xx8 ?_
    refine n_of (N' := NN5) nn5 ?_
    refine c_seq fun NN31 nn31 => ?_
    refine c_region fun KK32 kk32 => ?_
    refine n_of (N' := KK32) kk32 ?_
    refine n_of (N' := NN31) nn31 ?_
    refine c_ret ?_
    refine n_of (N' := R0) hR ?_
    have e : y = H := by omega
    subst e
    exact ⟨[], rfl, by rw [Nat.mul_comm], rfl⟩

end
end Go.AX