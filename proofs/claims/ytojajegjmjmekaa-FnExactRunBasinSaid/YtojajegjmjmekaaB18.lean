/- What the functions of this program do, one contract a function, by that walk: each under what its own statement says. -/
import Derived.Test.YtojajegjmjmekaaB17
import Derived.Test.YtojajegjmjmekaaAxQ
set_option linter.unusedVariables false
set_option linter.unusedSimpArgs false
namespace Go.AX
noncomputable section
open Go.RowKit Go.Proofs
set_option maxRecDepth 100000
set_option maxHeartbeats 4000000

/-! MissOfStream -/
theorem andN_abs {b : Nat} (h : b < 4294967296) : (andNI .u32 (b : Int) 2147483648).toNat = b % 2147483648 := by
  unfold andNI
  have e : (BitVec.ofInt IntKind.u32.bits (b : Int) &&& ~~~(BitVec.ofInt IntKind.u32.bits 2147483648)).toNat = b % 2147483648 := by
    show (BitVec.ofInt 32 (b : Int) &&& ~~~(BitVec.ofInt 32 2147483648)).toNat = b % 2147483648
    rw [BitVec.toNat_and, show (~~~(BitVec.ofInt 32 2147483648)).toNat = 2147483648 - 1 from by decide]
    rw [show (BitVec.ofInt 32 (b : Int)).toNat = b from by rw [BitVec.toNat_ofInt]; omega]
    exact Nat.and_two_pow_sub_one_eq_mod b 31
  rw [e]
  have : IntKind.u32.wrap ((b % 2147483648 : Nat) : Int) = ((b % 2147483648 : Nat) : Int) := by
    have : b % 2147483648 < 2147483648 := Nat.mod_lt _ (by omega)
    generalize b % 2147483648 = r at this
    show (r : Int) % 4294967296 = r
    omega
  rw [this]; rfl
theorem s154e (b : Nat) : SP 154 [] [.one (.ex (.float .f32 b))] [] (.v (.one (.ex (.int .u32 b)))) := by
  refine ⟨rfl, fun w σ us hs hr => .inr ?_⟩
  match us, hr with
  | [u], ⟨hu, _⟩ =>
    cases hu
    exact ⟨_, w, extern154 b w, σ, hs, rfl, Fr.refl _ _ _⟩
theorem extern153 (n : Int) (w : World) : (callFunc 153 #[.int .u32 n]).run Try.prog w = .ok (.value (.float .f32 n.toNat)) w := by
  rw [run_callFunc_extern (e := Extern.MathFloatBits.float32frombits) Try.func153 (by kernel_rfl) rfl (by kernel_rfl) (by kernel_rfl)]
  rfl
theorem s153e (n : Int) : SP 153 [] [.one (.ex (.int .u32 n))] [] (.v (.one (.ex (.float .f32 n.toNat)))) := by
  refine ⟨rfl, fun w σ us hs hr => .inr ?_⟩
  match us, hr with
  | [u], ⟨hu, _⟩ =>
    cases hu
    exact ⟨_, w, extern153 n w, σ, hs, rfl, Fr.refl _ _ _⟩

theorem s129e (b : Nat) (hb : b < 4294967296) : SP 129 [] [.one (.ex (.float .f32 b))] [] (.v (.one (.ex (.float .f32 (b % 2147483648))))) := by
  refine spec_of_codeR (fn := Try.f129) tyOK mixes Try.func129 rfl rfl rfl rfl fun hg R0 hR => ?_
  refine c_seq fun NN1 nn1 => ?_
  refine c_region fun KK2 kk2 => ?_
  refine n_of (N' := KK2) kk2 ?_
  refine n_of (N' := NN1) nn1 ?_
  refine c_seq fun NN3 nn3 => ?_
  refine c_region fun KK4 kk4 => ?_
  refine ⟨rfl, _, _, s154e _, ?_⟩
  refine ⟨rfl, _, _, s153e _, ?_⟩
  refine n_of (N' := KK4) kk4 ?_
  refine n_of (N' := NN3) nn3 ?_
  refine c_ret ?_
  refine n_of (N' := R0) hR ?_
  exact ⟨[], rfl, rfl, congrArg (fun z => AV.v (.one (.ex (.float .f32 z)))) (andN_abs hb)⟩


theorem s129 (x : Nat) : SP 129 [] [f32 x] [] (fl32 (fabs x)) := by
  refine ⟨rfl, fun w σ us hs hr => ?_⟩
  match us, hr with
  | [u], ⟨⟨b, hu, hb⟩, _⟩ =>
    subst hu
    rcases (s129e b hb.2).2 w σ [.float .f32 b] hs ⟨rfl, trivial⟩ with ⟨h1, h2⟩ | ⟨v, w', hc, σ', hs', hv, hf⟩
    · refine .inl ⟨h1, h2.mono fun e w' => ?_⟩
      rintro ⟨v, he, σ', hs', hv, hf⟩
      exact ⟨v, he, σ', hs', ⟨_, hv, IsF.abs hb⟩, hf⟩
    · exact .inr ⟨v, w', hc, σ', hs', ⟨_, hv, IsF.abs hb⟩, hf⟩
/-- The place of the greatest. -/
def gidx (xs : List Nat) : Nat → Nat
  | 0 => 0
  | i + 1 => bif fcmp .gtr .f32 (xs.getD i 0) (xs.getD (gidx xs i) 0) then i else gidx xs i
theorem gidx_le (xs : List Nat) : ∀ i, gidx xs i ≤ i - 1
  | 0 => Nat.le_refl _
  | i + 1 => by
    simp only [gidx]
    cases fcmp .gtr .f32 (xs.getD i 0) (xs.getD (gidx xs i) 0)
    · have := gidx_le xs i
      show gidx xs i ≤ _
      omega
    · exact Nat.le_refl _
/-- The greatest, nought or above. -/
def most (f : Nat → Nat) : Nat → Nat
  | 0 => cn .f32 0
  | i + 1 => bif fcmp .gtr .f32 (f i) (most f i) then f i else most f i
theorem most_congr {f g : Nat → Nat} : ∀ {n : Nat}, (∀ i, i < n → f i = g i) → most f n = most g n
  | 0, _ => rfl
  | n + 1, h => by simp only [most, h n (Nat.lt_succ_self n), most_congr fun i hi => h i (Nat.lt_succ_of_lt hi)]
def missv (w h : Int) (xs ys : List Nat) (i : Nat) : Nat := fop .add .f32 (Flap ys w h ((i % w.toNat : Nat) : Int) ((i / w.toNat : Nat) : Int)) ((Reven xs).getD i 0)
def Rmiss (w h : Int) (xs ys : List Nat) : List Nat := bld (fun i => fabs (missv w h xs ys i)) xs.length
def okmiss (w h : Int) (xs : List Nat) (w2 k2 : Int) (ys : List Nat) : Bool := two w h xs w2 k2 ys && (okeven w h xs && (Rmiss w h xs ys).all finB)
def vmiss (w h : Int) (xs ys : List Nat) : Nat := (Rmiss w h xs ys).getD (gidx (Rmiss w h xs ys) xs.length) 0
theorem finB_fabs (x : Nat) : finB (fabs x) = finB x := by rw [finB_num, finB_num, isNum_fabs]
theorem missv_lt (w h : Int) (xs ys : List Nat) (i : Nat) : missv w h xs ys i < 4294967296 := fop_lt _ _ _ (by simp)
theorem finB_absv {x : Nat} (h : x < 4294967296) : finB (absv x) = finB (fabs x) := by rw [finB_num, finB_num, isNum_fabs, isNum_absv h]
theorem fabs_zero {x : Nat} (hn : finB (fabs x) = true) (h : fcmp .gtr .f32 (fabs x) (cn .f32 0) = false) : fabs x = cn .f32 0 := by
  rw [finB_num, isNum_fabs] at hn
  have hN := isN_num hn
  have e : fabs x = x % 2147483648 := by unfold fabs; rw [hN]; rfl
  have hn2 := hn
  rw [← isNum_fabs, e] at hn2
  rw [cn_of_not (k := .f32) (b := 0) (by decide)] at h ⊢
  rw [e] at h ⊢
  exact gtr_zero (Nat.mod_lt _ (by omega)) hn2 h
theorem most_idx {xs : List Nat} (h0 : fcmp .gtr .f32 (xs.getD 0 0) (cn .f32 0) = false → xs.getD 0 0 = cn .f32 0) : ∀ n, xs.getD (gidx xs (n + 1)) 0 = most (fun i => xs.getD i 0) (n + 1)
  | 0 => by
    simp only [gidx, most, gtr_self]
    cases h : fcmp .gtr .f32 (xs.getD 0 0) (cn .f32 0)
    · exact h0 h
    · rfl
  | n + 1 => by
    have ih := most_idx h0 n
    rw [gidx, most, ← ih]
    cases fcmp .gtr .f32 (xs.getD (n + 1) 0) (xs.getD (gidx xs (n + 1)) 0) <;> rfl
theorem all_at {xs : List Nat} (h : xs.all finB = true) {i : Nat} (hi : i < xs.length) : finB (xs.getD i 0) = true := by
  have := List.all_eq_true.1 h (xs[i]) (List.getElem_mem hi)
  simpa [List.getD_eq_getElem?_getD, hi] using this
theorem vmiss_most {w h : Int} {xs ys : List Nat} (hl : 0 < xs.length) (ha : (Rmiss w h xs ys).all finB = true) : most (fun i => fabs (missv w h xs ys i)) xs.length = vmiss w h xs ys := by
  unfold vmiss
  obtain ⟨n, hn⟩ : ∃ n, xs.length = n + 1 := ⟨xs.length - 1, by omega⟩
  have e0 : (Rmiss w h xs ys).getD 0 0 = fabs (missv w h xs ys 0) := bld_at _ hl
  rw [hn, most_idx (fun h => by
    rw [e0] at h ⊢
    have := all_at ha (i := 0) (by unfold Rmiss; rw [bld_len]; exact hl)
    rw [e0] at this
    exact fabs_zero this h) n]
  exact most_congr fun i hi => (bld_at (fun i => fabs (missv w h xs ys i)) (n := xs.length) (by omega)).symm
theorem miss_all {w h : Int} {xs ys : List Nat} (hf : ∀ j, j < xs.length → finB (fabs (missv w h xs ys j)) = true) : (Rmiss w h xs ys).all finB = true := by
  rw [List.all_eq_true]
  intro v hv
  obtain ⟨j, hj, rfl⟩ := List.mem_iff_getElem.1 hv
  have hj2 : j < xs.length := by unfold Rmiss at hj; rw [bld_len] at hj; exact hj
  have e : (Rmiss w h xs ys).getD j 0 = fabs (missv w h xs ys j) := bld_at (fun i => fabs (missv w h xs ys i)) (n := xs.length) hj2
  have e2 : (Rmiss w h xs ys)[j] = (Rmiss w h xs ys).getD j 0 := by simp [List.getD_eq_getElem?_getD, hj]
  rw [e2, e]
  exact hf j hj2
theorem miss_not {w h : Int} {xs ys : List Nat} {i : Nat} (hi : i < xs.length) (hf : finB (fabs (missv w h xs ys i)) = false) : (Rmiss w h xs ys).all finB = false := bld_not (p := finB) (f := fun i => fabs (missv w h xs ys i)) i hi hf
theorem miss_lap {W H : Nat} {xs ys : List Nat} (h1 : 3 ≤ W) (h2 : W ≤ 16) (h3 : 3 ≤ H) (h4 : H ≤ 16) (hl : xs.length = W * H) (h : isB W H (grid W H (fun x y => Flap ys W H x y)) = false) : (Rmiss W H xs ys).all finB = false := by
  rw [isB_fin_eq h1 h2 h3 h4 (grid_len W H _)] at h
  obtain ⟨i, hi, hf⟩ := all_false h
  rw [grid_len] at hi
  rw [gridN, bld_at _ hi] at hf
  refine miss_not (i := i) (by omega) ?_
  rw [finB_fabs]
  unfold missv
  rw [Int.toNat_natCast]
  rw [finB_num] at hf ⊢
  exact num_add_l hf

theorem s130 (o : Bool) (xs : List Nat) (h0 : 0 < xs.length) : SP 130 [ar o xs] [.one (.sl 0)] [ar o xs] (exi .i64 (gidx xs xs.length)) := by
  refine spec_of_codeR (fn := Try.f130) tyOK mixes Try.func130 rfl rfl rfl ⟨.inl rfl, rfl⟩ fun hg R0 hR => ?_
  have hlen : xs.length ≤ maxLen := hg.1.1.1
  have hml : maxLen = 9223372036854775807 := by decide
  refine c_seq fun NN1 nn1 => ?_
  refine c_region fun KK2 kk2 => ?_
  refine n_of (N' := KK2) kk2 ?_
  refine n_of (N' := NN1) nn1 ?_
  refine c_seq fun NN3 nn3 => ?_
  refine c_region fun KK4 kk4 => ?_
  refine n_of (N' := KK4) kk4 ?_
  refine n_of (N' := NN3) nn3 ?_
  refine c_seq fun NN5 nn5 => ?_
  refine c_seq fun NN6 nn6 => ?_
  refine c_region fun KK7 kk7 => ?_
  refine n_of (N' := KK7) kk7 ?_
  refine n_of (N' := NN6) nn6 ?_
  refine c_block fun XX8 xx8 => ?_
  refine loop_keep [] [0, 6, 7] (ι := { i : Nat // i ≤ xs.length }) (fun i => [(8, exi .i64 i.1), (3, exi .i64 (gidx xs i.1))]) (fun i => []) (fun i => xs.length - i.1) ⟨0, Nat.zero_le _⟩ trivial rfl ?_
  refine ⟨?_, ?_, ?_⟩
  · exact ⟨.inr rfl, .inr rfl, trivial⟩
  · exact ⟨rfl, trivial⟩
  refine fun ⟨i, hi⟩ NL9 nl9 => ?_
  refine c_norm rfl rfl ?_
  have hgi := gidx_le xs i
  refine c_seq fun NN10 nn10 => ?_
  refine c_region fun KK11 kk11 => ?_
  refine n_of (N' := KK11) kk11 ?_
  refine n_of (N' := NN10) nn10 ?_
  refine c_seq fun NN12 nn12 => ?_
  refine c_cond rfl (fun h0 => ?_) (fun h0 => ?_)
  · skip
    have q0 := of_decide_eq_true h0
    (try dsimp only at q0)
    (try simp only [Dat.len, bld_len, List.length_cons, List.length_nil] at q0)
    refine c_skip ?_
    refine n_of (N' := NN12) nn12 ?_
    refine c_seq fun NN13 nn13 => ?_
    refine c_block fun XX14 xx14 => ?_
    refine c_seq fun NN15 nn15 => ?_
    refine c_region fun KK16 kk16 => ?_
    refine And.intro ?_ ?_
    · ((try dsimp only); (try simp only [Dat.len, Int.toNat_natCast, bld_len, List.length_cons, List.length_nil]); omega)   -- 0 index
    refine And.intro ?_ ?_
    · ((try dsimp only); (try simp only [Dat.len, Int.toNat_natCast, bld_len, List.length_cons, List.length_nil]); omega)   -- 1 load
    refine n_of (N' := KK16) kk16 ?_
    refine n_of (N' := NN15) nn15 ?_
    refine c_seq fun NN17 nn17 => ?_
    refine c_region fun KK18 kk18 => ?_
    refine And.intro ?_ ?_
    · ((try dsimp only); (try simp only [Dat.len, Int.toNat_natCast, bld_len, List.length_cons, List.length_nil]); omega)   -- 2 index
    refine And.intro ?_ ?_
    · ((try dsimp only); (try simp only [Dat.len, Int.toNat_natCast, bld_len, List.length_cons, List.length_nil]); omega)   -- 3 load
    refine n_of (N' := KK18) kk18 ?_
    refine n_of (N' := NN17) nn17 ?_
    refine c_cond rfl (fun h1 => ?_) (fun h1 => ?_)
    · skip
      refine c_region fun KK19 kk19 => ?_
      refine n_of (N' := KK19) kk19 ?_
      refine n_of (N' := NN13) nn13 ?_
      refine c_region fun KK20 kk20 => ?_
      refine n_of (N' := KK20) kk20 ?_
      refine n_of (N' := NL9) nl9 ?_
      refine ⟨⟨i + 1, by omega⟩, ?_, [0], rfl, ?_, ?_⟩
      · (dsimp only; omega)
      · exact LEq.eq ⟨rfl, trivial⟩
      · exact ⟨.inr (congrArg (exi .i64) (wr64 (n := (i : Int) + 1) (by omega) (by omega))), .inr (congrArg (exi .i64) (by (try dsimp only at h1); (try simp only [Int.toNat_natCast] at h1); (try dsimp only); rw [gidx, h1]; rfl)), .inr rfl, .inr rfl, .inr rfl, trivial⟩
    · skip
      refine c_skip ?_
      refine n_of (N' := NN13) nn13 ?_
      refine c_region fun KK21 kk21 => ?_
      refine n_of (N' := KK21) kk21 ?_
      refine n_of (N' := NL9) nl9 ?_
      refine ⟨⟨i + 1, by omega⟩, ?_, [0], rfl, ?_, ?_⟩
      · (dsimp only; omega)
      · exact LEq.eq ⟨rfl, trivial⟩
      · exact ⟨.inr (congrArg (exi .i64) (wr64 (n := (i : Int) + 1) (by omega) (by omega))), .inr (congrArg (exi .i64) (by (try dsimp only at h1); (try simp only [Int.toNat_natCast] at h1); (try dsimp only); rw [gidx, h1]; rfl)), .inr rfl, .inr rfl, .inr rfl, trivial⟩
  · skip
    have q0 := of_decide_eq_false h0
    (try dsimp only at q0)
    (try simp only [Dat.len, bld_len, List.length_cons, List.length_nil] at q0)
    refine c_exit ?_
    refine x_here xx8 ?_
    refine n_of (N' := NN5) nn5 ?_
    refine c_seq fun NN22 nn22 => ?_
    refine c_region fun KK23 kk23 => ?_
    refine n_of (N' := KK23) kk23 ?_
    refine n_of (N' := NN22) nn22 ?_
    refine c_ret ?_
    refine n_of (N' := R0) hR ?_
    have e : i = xs.length := by omega
    subst e
    exact ⟨[], rfl, rfl, rfl⟩

theorem s70 (o o2 : Bool) (xs ys : List Nat) (w h w2 k2 : Int) : SP 70 [ar o xs, ar o2 ys] [bas w h 0, bas w2 k2 1] [ar o xs, ar o2 ys] (told (okmiss w h xs w2 k2 ys) (vmiss w h xs ys)) := by
  refine spec_of_codeR (fn := Try.f70) tyOK mixes Try.func70 rfl rfl rfl ⟨.inl rfl, ⟨.inl rfl, rfl⟩⟩ fun hg R0 hR => ?_
  refine c_seq fun NN1 nn1 => ?_
  refine c_region fun KK2 kk2 => ?_
  refine n_of (N' := KK2) kk2 ?_
  refine n_of (N' := NN1) nn1 ?_
  refine c_seq fun NN3 nn3 => ?_
  refine c_seq fun NN4 nn4 => ?_
  refine c_region fun KK5 kk5 => ?_
  refine ⟨rfl, _, _, s114 _ _ _ _ _ _ _ _, ?_⟩
  refine n_of (N' := KK5) kk5 ?_
  refine n_of (N' := NN4) nn4 ?_
  refine c_cond rfl (fun h0 => ?_) (fun h0 => ?_)
  · skip
    refine c_seq fun NN6 nn6 => ?_
    refine c_region fun KK7 kk7 => ?_
    refine n_of (N' := KK7) kk7 ?_
    refine n_of (N' := NN6) nn6 ?_
    refine c_ret ?_
    refine n_of (N' := R0) hR ?_
    have ok : okmiss w h xs w2 k2 ys = false := by unfold okmiss; rw [not_t h0]; rfl
    exact ⟨[], rfl, rfl, by rw [ok]; rfl⟩
  · skip
    have ht := not_f h0
    obtain ⟨hb, rfl, rfl, hb2⟩ := two_of ht
    obtain ⟨W, H, rfl, rfl, w1, w2, w3, w4, hl, hWH⟩ := isB_nat hb
    have hwr := wrWH hWH
    have hly := isB_pos hb2
    obtain ⟨W2, H2, e1, e2, _, _, _, _, hl2, _⟩ := isB_nat hb2
    have e1 : W = W2 := Int.ofNat.inj e1
    have e2 : H = H2 := Int.ofNat.inj e2
    rw [← e1, ← e2] at hl2
    refine c_skip ?_
    refine n_of (N' := NN3) nn3 ?_
    refine c_seq fun NN8 nn8 => ?_
    refine c_region fun KK9 kk9 => ?_
    refine ⟨rfl, _, _, s122 _ _ _ _ hb, ?_⟩
    refine n_of (N' := KK9) kk9 ?_
    refine n_of (N' := NN8) nn8 ?_
    refine c_seq fun NN10 nn10 => ?_
    refine c_region fun KK11 kk11 => ?_
    refine ⟨rfl, _, _, s120 _ _ _ _ hb2, ?_⟩
    refine n_of (N' := KK11) kk11 ?_
    refine n_of (N' := NN10) nn10 ?_
    refine c_seq fun NN12 nn12 => ?_
    refine c_seq fun NN13 nn13 => ?_
    refine c_region fun KK14 kk14 => ?_
    refine And.intro (fun h1 => ?_) (fun h1 => ?_)
    · skip
      refine n_of (N' := KK14) kk14 ?_
      refine n_of (N' := NN13) nn13 ?_
      refine c_cond rfl (fun _ => ?_) (fun h => nomatch h)
      refine c_seq fun NN15 nn15 => ?_
      refine c_region fun KK16 kk16 => ?_
      refine n_of (N' := KK16) kk16 ?_
      refine n_of (N' := NN15) nn15 ?_
      refine c_ret ?_
      refine n_of (N' := R0) hR ?_
      have ok : okmiss W H xs W H ys = false := by unfold okmiss; rw [not_t h1]; simp
      exact ⟨[], rfl, rfl, by rw [ok]; rfl⟩
    · skip
      refine n_of (N' := KK14) kk14 ?_
      refine n_of (N' := NN13) nn13 ?_
      refine c_cond rfl (fun h2 => ?_) (fun h2 => ?_)
      · skip
        refine c_seq fun NN17 nn17 => ?_
        refine c_region fun KK18 kk18 => ?_
        refine n_of (N' := KK18) kk18 ?_
        refine n_of (N' := NN17) nn17 ?_
        refine c_ret ?_
        refine n_of (N' := R0) hR ?_
        have ok : okmiss W H xs W H ys = false := by unfold okmiss; rw [miss_lap w1 w2 w3 w4 hl (by have q := not_t h2; unfold oklap at q; rw [hb2, Bool.true_and] at q; exact q)]; simp
        exact ⟨[], rfl, rfl, by rw [ok]; rfl⟩
      · skip
        have hev := not_f h1
        have hlp := not_f h2
        have hlE : (gR (okeven W H xs) (Reven xs)).length = W * H := by rw [hev]; show (Reven xs).length = W * H; unfold Reven; rw [bld_len, hl]
        have hlL : (gR (oklap W H ys) (grid W H (fun x y => Flap ys W H x y))).length = W * H := by rw [hlp]; exact grid_len W H _
        have hv : ∀ k, k < W * H → fop .add .f32 ((gR (oklap W H ys) (grid W H (fun x y => Flap ys W H x y))).getD k 0) ((gR (okeven W H xs) (Reven xs)).getD k 0) = missv W H xs ys k := fun k hk => by
          rw [hev, hlp]
          show fop .add .f32 ((grid W H (fun x y => Flap ys W H x y)).getD k 0) ((Reven xs).getD k 0) = _
          rw [gridN, bld_at _ hk]
          unfold missv
          rw [Int.toNat_natCast]
        refine c_skip ?_
        refine n_of (N' := NN12) nn12 ?_
        refine c_seq fun NN19 nn19 => ?_
        refine c_region fun KK20 kk20 => ?_
        refine n_of (N' := KK20) kk20 ?_
        refine n_of (N' := NN19) nn19 ?_
        refine c_seq fun NN21 nn21 => ?_
        refine c_seq fun NN22 nn22 => ?_
        refine c_region fun KK23 kk23 => ?_
        refine n_of (N' := KK23) kk23 ?_
        refine n_of (N' := NN22) nn22 ?_
        refine c_block fun XX24 xx24 => ?_
        refine loop_keep [] [6, 8] (ι := { i : Nat // i ≤ W * H ∧ ∀ j, j < i → finB (fabs (missv W H xs ys j)) = true }) (fun i => [(11, exi .i64 i.1), (10, fl32 (most (fun i => fabs (missv W H xs ys i)) i.1))]) (fun i => []) (fun i => W * H - i.1) ⟨0, Nat.zero_le _, fun j hj => absurd hj (Nat.not_lt_zero j)⟩ trivial rfl ?_
        refine ⟨?_, ?_, ?_⟩
        · exact ⟨.inr rfl, .inr rfl, trivial⟩
        · exact ⟨rfl, rfl, rfl, rfl, rfl, rfl, rfl, rfl, trivial⟩
        refine fun ⟨i, hi, hx⟩ NL25 nl25 => ?_
        refine c_norm rfl rfl ?_
        refine c_seq fun NN26 nn26 => ?_
        refine c_seq fun NN27 nn27 => ?_
        refine c_region fun KK28 kk28 => ?_
        refine n_of (N' := KK28) kk28 ?_
        refine n_of (N' := NN27) nn27 ?_
        refine c_cond rfl (fun h3 => ?_) (fun h3 => ?_)
        · skip
          have q3 := of_decide_eq_true h3
          (try dsimp only at q3)
          (try simp only [Dat.len, hwr, hlE, hlL, bld_len, List.length_cons, List.length_nil] at q3)
          refine c_skip ?_
          refine n_of (N' := NN26) nn26 ?_
          refine c_seq fun NN29 nn29 => ?_
          refine c_block fun XX30 xx30 => ?_
          refine c_seq fun NN31 nn31 => ?_
          refine c_draw 10 [0, 1, 2, 3, 4, 5, 6, 7, 8, 9] (by kernel_rfl) fun KK32 kk32 => ?_
          refine And.intro ?_ ?_
          · ((try dsimp only); (try simp only [Dat.len, Int.toNat_natCast, hwr, hlE, hlL, bld_len, List.length_cons, List.length_nil]); omega)   -- 0 index
          refine And.intro ?_ ?_
          · ((try dsimp only); (try simp only [Dat.len, Int.toNat_natCast, hwr, hlE, hlL, bld_len, List.length_cons, List.length_nil]); omega)   -- 1 load
          refine And.intro ?_ ?_
          · ((try dsimp only); (try simp only [Dat.len, Int.toNat_natCast, hwr, hlE, hlL, bld_len, List.length_cons, List.length_nil]); omega)   -- 2 index
          refine And.intro ?_ ?_
          · ((try dsimp only); (try simp only [Dat.len, Int.toNat_natCast, hwr, hlE, hlL, bld_len, List.length_cons, List.length_nil]); omega)   -- 3 load
          refine n_of (N' := KK32) kk32 ?_
          refine n_of (N' := NN31) nn31 ?_
          refine c_seq fun NN33 nn33 => ?_
          refine c_seq fun NN34 nn34 => ?_
          refine c_region fun KK35 kk35 => ?_
          refine n_of (N' := KK35) kk35 ?_
          refine n_of (N' := NN34) nn34 ?_
          refine c_cond rfl (fun h4 => ?_) (fun h4 => ?_)
          · skip
            (try dsimp only at h4)
            (try simp only [Int.toNat_natCast] at h4)
            rw [hv i (by omega)] at h4
            have ha : absv (missv W H xs ys i) = fop .sub .f32 (cn .f32 0) (missv W H xs ys i) := by unfold absv; rw [h4]; rfl
            refine c_region fun KK36 kk36 => ?_
            refine n_of (N' := KK36) kk36 ?_
            refine n_of (N' := NN33) nn33 ?_
            refine c_seq fun NN37 nn37 => ?_
            refine c_seq fun NN38 nn38 => ?_
            refine c_region fun KK39 kk39 => ?_
            refine ⟨rfl, _, _, (s107 _), ?_⟩
            refine n_of (N' := KK39) kk39 ?_
            refine n_of (N' := NN38) nn38 ?_
            refine c_cond rfl (fun h5 => ?_) (fun h5 => ?_)
            · skip
              (try dsimp only at h5)
              (try simp only [Int.toNat_natCast] at h5)
              rw [hv i (by omega), ← ha, finB_absv (missv_lt _ _ _ _ _)] at h5
              have hf := not_t h5
              refine c_seq fun NN40 nn40 => ?_
              refine c_region fun KK41 kk41 => ?_
              refine n_of (N' := KK41) kk41 ?_
              refine n_of (N' := NN40) nn40 ?_
              refine c_ret ?_
              refine n_of (N' := R0) hR ?_
              have ok : okmiss W H xs W H ys = false := by unfold okmiss; rw [miss_not (by omega) hf]; simp
              exact ⟨[], rfl, rfl, by rw [ok]; rfl⟩
            · skip
              (try dsimp only at h5)
              (try simp only [Int.toNat_natCast] at h5)
              rw [hv i (by omega), ← ha, finB_absv (missv_lt _ _ _ _ _)] at h5
              have hf := not_f h5
              have hab : absv (missv W H xs ys i) = fabs (missv W H xs ys i) := absv_num (missv_lt _ _ _ _ _) (by rw [← isNum_fabs, ← finB_num]; exact hf)
              refine c_skip ?_
              refine n_of (N' := NN37) nn37 ?_
              refine c_seq fun NN42 nn42 => ?_
              refine c_region fun KK43 kk43 => ?_
              refine n_of (N' := KK43) kk43 ?_
              refine n_of (N' := NN42) nn42 ?_
              refine c_cond rfl (fun h6 => ?_) (fun h6 => ?_)
              · skip
                (try dsimp only at h6)
                (try simp only [Int.toNat_natCast] at h6)
                rw [hv i (by omega), ← ha, hab] at h6
                refine c_region fun KK44 kk44 => ?_
                refine n_of (N' := KK44) kk44 ?_
                refine n_of (N' := NN29) nn29 ?_
                refine c_region fun KK45 kk45 => ?_
                refine n_of (N' := KK45) kk45 ?_
                refine n_of (N' := NL25) nl25 ?_
                refine ⟨⟨i + 1, by omega, fun j hj => (Nat.lt_or_eq_of_le (Nat.le_of_lt_succ hj)).elim (hx j) (fun e => by subst e; exact hf)⟩, ?_, [0, 1, 2, 3, 4, 5, 6, 7], rfl, ?_, ?_⟩
                · (dsimp only; omega)
                · exact LEq.eq ⟨rfl, rfl, rfl, rfl, rfl, rfl, rfl, rfl, trivial⟩
                · exact ⟨.inr (congrArg (exi .i64) (wr64 (n := (i : Int) + 1) (by omega) (by omega))), .inr (congrArg fl32 (by (try dsimp only); (try simp only [Int.toNat_natCast]); refine Eq.trans ?_ (show fabs (missv W H xs ys i) = most (fun i => fabs (missv W H xs ys i)) (i + 1) by rw [most, h6]; rfl); rw [hv i (by omega)]; exact ha.symm.trans hab)), .inr rfl, .inr rfl, trivial⟩
              · skip
                (try dsimp only at h6)
                (try simp only [Int.toNat_natCast] at h6)
                rw [hv i (by omega), ← ha, hab] at h6
                refine c_skip ?_
                refine n_of (N' := NN29) nn29 ?_
                refine c_region fun KK46 kk46 => ?_
                refine n_of (N' := KK46) kk46 ?_
                refine n_of (N' := NL25) nl25 ?_
                refine ⟨⟨i + 1, by omega, fun j hj => (Nat.lt_or_eq_of_le (Nat.le_of_lt_succ hj)).elim (hx j) (fun e => by subst e; exact hf)⟩, ?_, [0, 1, 2, 3, 4, 5, 6, 7], rfl, ?_, ?_⟩
                · (dsimp only; omega)
                · exact LEq.eq ⟨rfl, rfl, rfl, rfl, rfl, rfl, rfl, rfl, trivial⟩
                · exact ⟨.inr (congrArg (exi .i64) (wr64 (n := (i : Int) + 1) (by omega) (by omega))), .inr (congrArg fl32 (by (try dsimp only); (try simp only [Int.toNat_natCast]); rw [most, h6]; rfl)), .inr rfl, .inr rfl, trivial⟩
          · skip
            (try dsimp only at h4)
            (try simp only [Int.toNat_natCast] at h4)
            rw [hv i (by omega)] at h4
            have ha : absv (missv W H xs ys i) = (missv W H xs ys i) := by unfold absv; rw [h4]; rfl
            refine c_skip ?_
            refine n_of (N' := NN33) nn33 ?_
            refine c_seq fun NN47 nn47 => ?_
            refine c_seq fun NN48 nn48 => ?_
            refine c_region fun KK49 kk49 => ?_
            refine ⟨rfl, _, _, (s107 _), ?_⟩
            refine n_of (N' := KK49) kk49 ?_
            refine n_of (N' := NN48) nn48 ?_
            refine c_cond rfl (fun h5 => ?_) (fun h5 => ?_)
            · skip
              (try dsimp only at h5)
              (try simp only [Int.toNat_natCast] at h5)
              rw [hv i (by omega), ← ha, finB_absv (missv_lt _ _ _ _ _)] at h5
              have hf := not_t h5
              refine c_seq fun NN50 nn50 => ?_
              refine c_region fun KK51 kk51 => ?_
              refine n_of (N' := KK51) kk51 ?_
              refine n_of (N' := NN50) nn50 ?_
              refine c_ret ?_
              refine n_of (N' := R0) hR ?_
              have ok : okmiss W H xs W H ys = false := by unfold okmiss; rw [miss_not (by omega) hf]; simp
              exact ⟨[], rfl, rfl, by rw [ok]; rfl⟩
            · skip
              (try dsimp only at h5)
              (try simp only [Int.toNat_natCast] at h5)
              rw [hv i (by omega), ← ha, finB_absv (missv_lt _ _ _ _ _)] at h5
              have hf := not_f h5
              have hab : absv (missv W H xs ys i) = fabs (missv W H xs ys i) := absv_num (missv_lt _ _ _ _ _) (by rw [← isNum_fabs, ← finB_num]; exact hf)
              refine c_skip ?_
              refine n_of (N' := NN47) nn47 ?_
              refine c_seq fun NN52 nn52 => ?_
              refine c_region fun KK53 kk53 => ?_
              refine n_of (N' := KK53) kk53 ?_
              refine n_of (N' := NN52) nn52 ?_
              refine c_cond rfl (fun h6 => ?_) (fun h6 => ?_)
              · skip
                (try dsimp only at h6)
                (try simp only [Int.toNat_natCast] at h6)
                rw [hv i (by omega), ← ha, hab] at h6
                refine c_region fun KK54 kk54 => ?_
                refine n_of (N' := KK54) kk54 ?_
                refine n_of (N' := NN29) nn29 ?_
                refine c_region fun KK55 kk55 => ?_
                refine n_of (N' := KK55) kk55 ?_
                refine n_of (N' := NL25) nl25 ?_
                refine ⟨⟨i + 1, by omega, fun j hj => (Nat.lt_or_eq_of_le (Nat.le_of_lt_succ hj)).elim (hx j) (fun e => by subst e; exact hf)⟩, ?_, [0, 1, 2, 3, 4, 5, 6, 7], rfl, ?_, ?_⟩
                · (dsimp only; omega)
                · exact LEq.eq ⟨rfl, rfl, rfl, rfl, rfl, rfl, rfl, rfl, trivial⟩
                · exact ⟨.inr (congrArg (exi .i64) (wr64 (n := (i : Int) + 1) (by omega) (by omega))), .inr (congrArg fl32 (by (try dsimp only); (try simp only [Int.toNat_natCast]); refine Eq.trans ?_ (show fabs (missv W H xs ys i) = most (fun i => fabs (missv W H xs ys i)) (i + 1) by rw [most, h6]; rfl); rw [hv i (by omega)]; exact ha.symm.trans hab)), .inr rfl, .inr rfl, trivial⟩
              · skip
                (try dsimp only at h6)
                (try simp only [Int.toNat_natCast] at h6)
                rw [hv i (by omega), ← ha, hab] at h6
                refine c_skip ?_
                refine n_of (N' := NN29) nn29 ?_
                refine c_region fun KK56 kk56 => ?_
                refine n_of (N' := KK56) kk56 ?_
                refine n_of (N' := NL25) nl25 ?_
                refine ⟨⟨i + 1, by omega, fun j hj => (Nat.lt_or_eq_of_le (Nat.le_of_lt_succ hj)).elim (hx j) (fun e => by subst e; exact hf)⟩, ?_, [0, 1, 2, 3, 4, 5, 6, 7], rfl, ?_, ?_⟩
                · (dsimp only; omega)
                · exact LEq.eq ⟨rfl, rfl, rfl, rfl, rfl, rfl, rfl, rfl, trivial⟩
                · exact ⟨.inr (congrArg (exi .i64) (wr64 (n := (i : Int) + 1) (by omega) (by omega))), .inr (congrArg fl32 (by (try dsimp only); (try simp only [Int.toNat_natCast]); rw [most, h6]; rfl)), .inr rfl, .inr rfl, trivial⟩
        · skip
          have q3 := of_decide_eq_false h3
          (try dsimp only at q3)
          (try simp only [Dat.len, hwr, hlE, hlL, bld_len, List.length_cons, List.length_nil] at q3)
          refine c_exit ?_
          refine x_here xx24 ?_
          refine n_of (N' := NN21) nn21 ?_
          refine c_seq fun NN57 nn57 => ?_
          refine c_region fun KK58 kk58 => ?_
          refine n_of (N' := KK58) kk58 ?_
          refine n_of (N' := NN57) nn57 ?_
          refine c_ret ?_
          refine n_of (N' := R0) hR ?_
          have e : i = W * H := by omega
          subst e
          have hall := miss_all (w := W) (h := H) (xs := xs) (ys := ys) (by rw [hl]; exact hx)
          have ok : okmiss W H xs W H ys = true := by unfold okmiss; rw [ht, hev, hall]; rfl
          have em : most (fun i => fabs (missv W H xs ys i)) (W * H) = vmiss W H xs ys := by rw [← hl]; exact vmiss_most (by omega) hall
          exact ⟨[], rfl, rfl, by rw [ok, ← em]; rfl⟩

theorem s71 (o o2 : Bool) (xs ys : List Nat) (w h w2 k2 : Int) : SP 71 [ar o xs, ar o2 ys] [bas w h 0, bas w2 k2 1] [ar o xs, ar o2 ys] (told (okmiss w h xs w2 k2 ys) (vmiss w h xs ys)) := by
  refine spec_of_codeR (fn := Try.f71) tyOK mixes Try.func71 rfl rfl rfl ⟨.inl rfl, ⟨.inl rfl, rfl⟩⟩ fun hg R0 hR => ?_
  refine c_seq fun NN1 nn1 => ?_
  refine c_region fun KK2 kk2 => ?_
  refine n_of (N' := KK2) kk2 ?_
  refine n_of (N' := NN1) nn1 ?_
  refine c_seq fun NN3 nn3 => ?_
  refine c_region fun KK4 kk4 => ?_
  refine ⟨rfl, _, _, s65 _ _ _ _, ?_⟩
  refine n_of (N' := KK4) kk4 ?_
  refine n_of (N' := NN3) nn3 ?_
  refine c_seq fun NN5 nn5 => ?_
  refine c_seq fun NN6 nn6 => ?_
  refine c_region fun KK7 kk7 => ?_
  refine And.intro (fun h0 => ?_) (fun h0 => ?_)
  · skip
    refine n_of (N' := KK7) kk7 ?_
    refine n_of (N' := NN6) nn6 ?_
    refine c_cond rfl (fun _ => ?_) (fun h => nomatch h)
    refine c_seq fun NN8 nn8 => ?_
    refine c_region fun KK9 kk9 => ?_
    refine n_of (N' := KK9) kk9 ?_
    refine n_of (N' := NN8) nn8 ?_
    refine c_ret ?_
    refine n_of (N' := R0) hR ?_
    have ok : okmiss w h xs w2 k2 ys = false := by unfold okmiss; rw [not_t h0]; simp
    exact ⟨[], rfl, rfl, by rw [ok]; rfl⟩
  · skip
    refine ⟨rfl, _, _, s115 _ _ _ _ _ _ _ _, ?_⟩
    refine n_of (N' := KK7) kk7 ?_
    refine n_of (N' := NN6) nn6 ?_
    refine c_cond rfl (fun h1 => ?_) (fun h1 => ?_)
    · skip
      refine c_seq fun NN10 nn10 => ?_
      refine c_region fun KK11 kk11 => ?_
      refine n_of (N' := KK11) kk11 ?_
      refine n_of (N' := NN10) nn10 ?_
      refine c_ret ?_
      refine n_of (N' := R0) hR ?_
      have ok : okmiss w h xs w2 k2 ys = false := by unfold okmiss; rw [not_t h1]; rfl
      exact ⟨[], rfl, rfl, by rw [ok]; rfl⟩
    · skip
      have hev := not_f h0
      have ht := not_f h1
      obtain ⟨hb, rfl, rfl, hb2⟩ := two_of ht
      obtain ⟨W, H, rfl, rfl, w1, w2, w3, w4, hl, hWH⟩ := isB_nat hb
      have hwr := wrWH hWH
      have hly := isB_pos hb2
      obtain ⟨W2, H2, e1, e2, _, _, _, _, hl2, _⟩ := isB_nat hb2
      have e1 : W = W2 := Int.ofNat.inj e1
      have e2 : H = H2 := Int.ofNat.inj e2
      rw [← e1, ← e2] at hl2
      have hlE : (gR (okeven W H xs) (Reven xs)).length = W * H := by rw [hev]; show (Reven xs).length = W * H; unfold Reven; rw [bld_len, hl]
      refine c_skip ?_
      refine n_of (N' := NN5) nn5 ?_
      refine c_seq fun NN12 nn12 => ?_
      refine c_region fun KK13 kk13 => ?_
      refine n_of (N' := KK13) kk13 ?_
      refine n_of (N' := NN12) nn12 ?_
      refine c_seq fun NN14 nn14 => ?_
      refine c_seq fun NN15 nn15 => ?_
      refine c_region fun KK16 kk16 => ?_
      refine n_of (N' := KK16) kk16 ?_
      refine n_of (N' := NN15) nn15 ?_
      refine c_block fun XX17 xx17 => ?_
      refine loop_keep [] [2, 3, 27, 28] (ι := { i : Nat // i ≤ W * H }) (fun i => [(29, exi .i64 i.1), (8, one (.sl 7))]) (fun i => [(7, ar true (bld (fun i => fabs (missv W H xs ys i)) i.1))]) (fun i => W * H - i.1) ⟨0, Nat.zero_le _⟩ trivial rfl ?_
      refine ⟨?_, ?_, ?_⟩
      · exact ⟨.inr rfl, .inr rfl, trivial⟩
      · exact ⟨rfl, rfl, rfl, rfl, rfl, rfl, rfl, rfl, trivial⟩
      refine fun ⟨i, hi⟩ NL18 nl18 => ?_
      refine c_norm rfl rfl ?_
      obtain ⟨m0, m1, m2, m3⟩ := cellb i W (by omega) (by omega)
      refine c_seq fun NN19 nn19 => ?_
      refine c_region fun KK20 kk20 => ?_
      refine n_of (N' := KK20) kk20 ?_
      refine n_of (N' := NN19) nn19 ?_
      refine c_seq fun NN21 nn21 => ?_
      refine c_cond rfl (fun h2 => ?_) (fun h2 => ?_)
      · skip
        have q2 := of_decide_eq_true h2
        (try dsimp only at q2)
        (try simp only [Dat.len, hwr, hlE, bld_len, List.length_cons, List.length_nil] at q2)
        refine c_skip ?_
        refine n_of (N' := NN21) nn21 ?_
        refine c_seq fun NN22 nn22 => ?_
        refine c_block fun XX23 xx23 => ?_
        refine c_seq fun NN24 nn24 => ?_
        refine c_region fun KK25 kk25 => ?_
        refine And.intro ?_ ?_
        · ((try dsimp only); (try simp only [Dat.len, Int.toNat_natCast, bld_len, hlE, hl, hl2]); omega)   -- 0 index
        refine And.intro ?_ ?_
        · ((try dsimp only); (try simp only [Dat.len, Int.toNat_natCast, bld_len, hlE, hl, hl2]); omega)   -- 1 load
        refine n_of (N' := KK25) kk25 ?_
        refine n_of (N' := NN24) nn24 ?_
        refine c_draw 14 [0, 1, 2, 3, 4, 5, 6, 7, 8, 10, 9, 11, 12, 13] (by kernel_rfl) fun KK26 kk26 => ?_
        refine And.intro ?_ ?_
        · omega   -- 2 div
        refine And.intro ?_ ?_
        · omega   -- 3 div
        refine ⟨rfl, _, _, s121 _ _ _ _ w1 w2 w3 w4 hl2 _ _ (by (try dsimp only); simp only [tdiv_nat, tmod_nat]; omega) (by (try dsimp only); simp only [tdiv_nat, tmod_nat]; omega) (by (try dsimp only); simp only [tdiv_nat, tmod_nat]; simp (disch := omega) only [wr64]; omega) (by (try dsimp only); simp only [tdiv_nat, tmod_nat]; simp (disch := omega) only [wr64]; exact mod_lt' (by omega) (by omega)), rfl, ?_⟩
        refine ⟨rfl, _, _, s129 _, rfl, ?_⟩
        refine And.intro ?_ ?_
        · (refine ⟨?_, by decide⟩; (try dsimp only); (try simp only [Dat.len, Int.toNat_natCast, hwr, hlE, bld_len, List.length_cons, List.length_nil]); omega)   -- 4 append
        refine n_of (N' := KK26) kk26 ?_
        refine n_of (N' := NN22) nn22 ?_
        refine c_region fun KK27 kk27 => ?_
        refine n_of (N' := KK27) kk27 ?_
        refine n_of (N' := NL18) nl18 ?_
        refine ⟨⟨i + 1, by omega⟩, ?_, [0, 1, 2, 3, 4, 5, 6, 7], rfl, ?_, ?_⟩
        · (dsimp only; omega)
        · exact LEq.eq ⟨rfl, rfl, rfl, rfl, rfl, rfl, rfl, congrArg (fun z => ar true (bld _ i ++ [z])) (by (try dsimp only); simp only [Int.toNat_natCast, tdiv_nat, tmod_nat]; simp (disch := omega) only [wr64]; rw [hev]; unfold missv; rw [Int.toNat_natCast]; rfl), trivial⟩
        · exact ⟨.inr (congrArg (exi .i64) (wr64 (n := (i : Int) + 1) (by omega) (by omega))), .inr rfl, .inr rfl, .inr rfl, .inr rfl, .inr rfl, trivial⟩
      · skip
        have q2 := of_decide_eq_false h2
        (try dsimp only at q2)
        (try simp only [Dat.len, hwr, hlE, bld_len, List.length_cons, List.length_nil] at q2)
        have e : i = W * H := by omega
        subst e
        have hgi := gidx_le (bld (fun i => fabs (missv W H xs ys i)) (W * H)) (W * H)
        refine c_exit ?_
        refine x_here xx17 ?_
        refine n_of (N' := NN14) nn14 ?_
        refine c_seq fun NN28 nn28 => ?_
        refine c_seq fun NN29 nn29 => ?_
        refine c_region fun KK30 kk30 => ?_
        refine ⟨rfl, _, _, s82 _ _, ?_⟩
        refine n_of (N' := KK30) kk30 ?_
        refine n_of (N' := NN29) nn29 ?_
        refine c_cond rfl (fun h3 => ?_) (fun h3 => ?_)
        · skip
          refine c_seq fun NN31 nn31 => ?_
          refine c_region fun KK32 kk32 => ?_
          refine n_of (N' := KK32) kk32 ?_
          refine n_of (N' := NN31) nn31 ?_
          refine c_ret ?_
          refine n_of (N' := R0) hR ?_
          have q := not_t h3
          have ok : okmiss W H xs W H ys = false := by unfold okmiss Rmiss; rw [hl, q]; simp
          exact ⟨[], rfl, rfl, by rw [ok]; rfl⟩
        · skip
          refine c_skip ?_
          refine n_of (N' := NN28) nn28 ?_
          refine c_seq fun NN33 nn33 => ?_
          refine c_region fun KK34 kk34 => ?_
          refine ⟨rfl, _, _, s130 _ _ (by (try dsimp only); rw [bld_len]; omega), ?_⟩
          refine And.intro ?_ ?_
          · ((try dsimp only); (try simp only [Dat.len, Int.toNat_natCast, bld_len, hlE, hl, hl2]); omega)   -- 5 index
          refine And.intro ?_ ?_
          · ((try dsimp only); (try simp only [Dat.len, Int.toNat_natCast, bld_len, hlE, hl, hl2]); omega)   -- 6 load
          refine n_of (N' := KK34) kk34 ?_
          refine n_of (N' := NN33) nn33 ?_
          refine c_ret ?_
          refine n_of (N' := R0) hR ?_
          have q := not_f h3
          have ok : okmiss W H xs W H ys = true := by unfold okmiss Rmiss; rw [hl, ht, hev, q]; rfl
          have em : vmiss W H xs ys = (bld (fun i => fabs (missv W H xs ys i)) (W * H)).getD (gidx (bld (fun i => fabs (missv W H xs ys i)) (W * H)) (W * H)) 0 := by unfold vmiss Rmiss; rw [hl]
          exact ⟨[], rfl, rfl, by rw [ok, em]; (try dsimp only); (try simp only [Int.toNat_natCast, bld_len]); rfl⟩

theorem s21 (o o2 : Bool) (xs ys : List Nat) (w h w2 k2 : Int) : SP 21 [ar o xs, ar o2 ys] [bas w h 0, bas w2 k2 1] [ar o xs, ar o2 ys] (exb true) := by
  refine spec_of_codeR (fn := Try.f21) tyOK mixes Try.func21 rfl rfl rfl ⟨.inl rfl, ⟨.inl rfl, rfl⟩⟩ fun hg R0 hR => ?_
  refine c_seq fun NN1 nn1 => ?_
  refine c_region fun KK2 kk2 => ?_
  refine n_of (N' := KK2) kk2 ?_
  refine n_of (N' := NN1) nn1 ?_
  refine c_seq fun NN3 nn3 => ?_
  refine c_region fun KK4 kk4 => ?_
  refine n_of (N' := KK4) kk4 ?_
  refine n_of (N' := NN3) nn3 ?_
  refine c_seq fun NN5 nn5 => ?_
  refine c_region fun KK6 kk6 => ?_
  refine ⟨rfl, _, _, (s25 _ _ _ _ _), ?_⟩
  refine n_of (N' := KK6) kk6 ?_
  refine n_of (N' := NN5) nn5 ?_
  refine c_seq fun NN7 nn7 => ?_
  refine c_seq fun NN8 nn8 => ?_
  refine c_region fun KK9 kk9 => ?_
  refine n_of (N' := KK9) kk9 ?_
  refine n_of (N' := NN8) nn8 ?_
  refine c_cond rfl (fun h0 => ?_) (fun h0 => ?_)
  · skip
    have q0 := of_decide_eq_true h0
    (try dsimp only at q0)
    (try simp only [Dat.len] at q0)
    refine c_seq fun NN10 nn10 => ?_
    refine c_region fun KK11 kk11 => ?_
    refine n_of (N' := KK11) kk11 ?_
    refine n_of (N' := NN10) nn10 ?_
    refine c_ret ?_
    refine n_of (N' := R0) hR ?_
    exact ⟨[], rfl, rfl, rfl⟩
  · skip
    have q0 := of_decide_eq_false h0
    (try dsimp only at q0)
    (try simp only [Dat.len] at q0)
    have hn : xs.length ≤ 1048576 := sz_le h0 hg.1.1.1
    refine c_skip ?_
    refine n_of (N' := NN7) nn7 ?_
    refine c_seq fun NN12 nn12 => ?_
    refine c_region fun KK13 kk13 => ?_
    refine ⟨rfl, _, _, (s25 _ _ _ _ _), ?_⟩
    refine n_of (N' := KK13) kk13 ?_
    refine n_of (N' := NN12) nn12 ?_
    refine c_seq fun NN14 nn14 => ?_
    refine c_seq fun NN15 nn15 => ?_
    refine c_region fun KK16 kk16 => ?_
    refine n_of (N' := KK16) kk16 ?_
    refine n_of (N' := NN15) nn15 ?_
    refine c_cond rfl (fun h1 => ?_) (fun h1 => ?_)
    · skip
      have q1 := of_decide_eq_true h1
      (try dsimp only at q1)
      (try simp only [Dat.len] at q1)
      refine c_seq fun NN17 nn17 => ?_
      refine c_region fun KK18 kk18 => ?_
      refine n_of (N' := KK18) kk18 ?_
      refine n_of (N' := NN17) nn17 ?_
      refine c_ret ?_
      refine n_of (N' := R0) hR ?_
      exact ⟨[], rfl, rfl, rfl⟩
    · skip
      have q1 := of_decide_eq_false h1
      (try dsimp only at q1)
      (try simp only [Dat.len] at q1)
      have hn2 : ys.length ≤ 1048576 := sz_le2 h0 h1 hg.1.1.1 hg.1.2.1.1
      refine c_skip ?_
      refine n_of (N' := NN14) nn14 ?_
      refine c_seq fun NN19 nn19 => ?_
      refine c_draw 9 [0, 2, 1, 3, 4, 5, 6, 7, 8] (by kernel_rfl) fun KK20 kk20 => ?_
      refine ⟨rfl, _, _, (s27 _ _ (by ((try dsimp only); first | assumption | omega | (simp (disch := omega) only [wr64]; omega))) _ _), rfl, ?_⟩
      refine ⟨rfl, _, _, (s27 _ _ (by ((try dsimp only); first | assumption | omega | (simp (disch := omega) only [wr64]; omega))) _ _), rfl, ?_⟩
      refine ⟨rfl, _, _, (s70 _ _ _ _ _ _ _ _), rfl, ?_⟩
      refine n_of (N' := KK20) kk20 ?_
      refine n_of (N' := NN19) nn19 ?_
      refine c_seq fun NN21 nn21 => ?_
      refine c_region fun KK22 kk22 => ?_
      refine ⟨rfl, _, _, (s27 _ _ (by ((try dsimp only); first | assumption | omega | (simp (disch := omega) only [wr64]; omega))) _ _), ?_⟩
      refine n_of (N' := KK22) kk22 ?_
      refine n_of (N' := NN21) nn21 ?_
      refine c_seq fun NN23 nn23 => ?_
      refine c_region fun KK24 kk24 => ?_
      refine ⟨rfl, _, _, (s27 _ _ (by ((try dsimp only); first | assumption | omega | (simp (disch := omega) only [wr64]; omega))) _ _), ?_⟩
      refine n_of (N' := KK24) kk24 ?_
      refine n_of (N' := NN23) nn23 ?_
      refine c_seq fun NN25 nn25 => ?_
      refine c_region fun KK26 kk26 => ?_
      refine ⟨rfl, _, _, (s71 _ _ _ _ _ _ _ _), ?_⟩
      refine n_of (N' := KK26) kk26 ?_
      refine n_of (N' := NN25) nn25 ?_
      refine c_seq fun NN27 nn27 => ?_
      refine c_seq fun NN28 nn28 => ?_
      refine c_region fun KK29 kk29 => ?_
      refine ⟨rfl, _, _, (s34 _), ?_⟩
      refine And.intro (fun h2 => ?_) (fun h2 => ?_)
      · skip
        (first | (cases h2; done) | exact bnn h2 | (have q := of_decide_eq_true h2; exfalso; omega) | exact absurd rfl (ne_of_bneT h2))
      · skip
        refine n_of (N' := KK29) kk29 ?_
        refine n_of (N' := NN28) nn28 ?_
        refine c_cond rfl (fun h3 => ?_) (fun h3 => ?_)
        · skip
          (first | (cases h3; done) | exact bnn h3 | (have q := of_decide_eq_true h3; exfalso; omega) | exact absurd rfl (ne_of_bneT h3))
        · skip
          refine c_skip ?_
          refine n_of (N' := NN27) nn27 ?_
          refine c_seq fun NN30 nn30 => ?_
          refine c_seq fun NN31 nn31 => ?_
          refine c_draw 3 [0, 1, 2] (by kernel_rfl) fun KK32 kk32 => ?_
          refine ⟨rfl, _, _, (s27 _ _ (by ((try dsimp only); first | assumption | omega | (simp (disch := omega) only [wr64]; omega))) _ _), rfl, ?_⟩
          refine ⟨rfl, _, _, (s29 _ _ _ _ _), ?_⟩
          refine n_of (N' := KK32) kk32 ?_
          refine n_of (N' := NN31) nn31 ?_
          refine c_cond rfl (fun h4 => ?_) (fun h4 => ?_)
          · skip
            (first | (cases h4; done) | exact bnn h4 | (have q := of_decide_eq_true h4; exfalso; omega) | exact absurd rfl (ne_of_bneT h4))
          · skip
            refine c_skip ?_
            refine n_of (N' := NN30) nn30 ?_
            refine c_seq fun NN33 nn33 => ?_
            refine c_seq fun NN34 nn34 => ?_
            refine c_draw 3 [0, 1, 2] (by kernel_rfl) fun KK35 kk35 => ?_
            refine ⟨rfl, _, _, (s27 _ _ (by ((try dsimp only); first | assumption | omega | (simp (disch := omega) only [wr64]; omega))) _ _), rfl, ?_⟩
            refine ⟨rfl, _, _, (s29 _ _ _ _ _), ?_⟩
            refine n_of (N' := KK35) kk35 ?_
            refine n_of (N' := NN34) nn34 ?_
            refine c_cond rfl (fun h5 => ?_) (fun h5 => ?_)
            · skip
              (first | (cases h5; done) | exact bnn h5 | (have q := of_decide_eq_true h5; exfalso; omega) | exact absurd rfl (ne_of_bneT h5))
            · skip
              refine c_skip ?_
              refine n_of (N' := NN33) nn33 ?_
              refine c_seq fun NN36 nn36 => ?_
              refine c_region fun KK37 kk37 => ?_
              refine n_of (N' := KK37) kk37 ?_
              refine n_of (N' := NN36) nn36 ?_
              refine c_ret ?_
              refine n_of (N' := R0) hR ?_
              exact ⟨[], rfl, rfl, rfl⟩

end
end Go.AX