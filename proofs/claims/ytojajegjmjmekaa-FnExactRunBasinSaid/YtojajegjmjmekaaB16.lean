/- What the functions of this program do, one contract a function, by that walk: each under what its own statement says. -/
import Derived.Test.YtojajegjmjmekaaB15
set_option linter.unusedVariables false
set_option linter.unusedSimpArgs false
namespace Go.AX
noncomputable section
open Go.RowKit Go.Proofs
set_option maxRecDepth 100000
set_option maxHeartbeats 4000000

/-! SweepStream -/
def sw (E : List Nat) (w h : Int) : Nat → List Nat → List Nat
  | 0, A => A
  | i + 1, A => (sw E w h i A).set i (fop .mul .f32 (cn .f32 1048576000) (fop .add .f32 (Four (sw E w h i A) w h ((i % w.toNat : Nat) : Int) ((i / w.toNat : Nat) : Int)) (E.getD i 0)))
def swN (E : List Nat) (w h : Int) (n : Nat) (A : List Nat) : Nat → List Nat
  | 0 => A
  | k + 1 => sw E w h n (swN E w h n A k)
theorem sw_len (E : List Nat) (w h : Int) (A : List Nat) : ∀ i, (sw E w h i A).length = A.length
  | 0 => rfl
  | i + 1 => by simp only [sw, List.length_set]; exact sw_len E w h A i
theorem swN_len (E : List Nat) (w h : Int) (n : Nat) (A : List Nat) : ∀ k, (swN E w h n A k).length = A.length
  | 0 => rfl
  | k + 1 => by simp only [swN, sw_len]; exact swN_len E w h n A k
abbrev Esw (w h : Int) (xs : List Nat) : List Nat := gR (okeven w h xs) (Reven xs)
def Rsweep (w h : Int) (xs ys : List Nat) (k : Int) : List Nat := swN (Esw w h xs) w h (w * h).toNat ys k.toNat
def oksweep (w h : Int) (xs : List Nat) (w2 k2 : Int) (ys : List Nat) (k : Int) : Bool := (two w h xs w2 k2 ys && inB k 0 200) && (okeven w h xs && isB w h (Rsweep w h xs ys k))
theorem RsweepN (W H : Nat) (xs ys : List Nat) (k : Nat) : Rsweep W H xs ys k = swN (Esw W H xs) W H (W * H) ys k := by
  unfold Rsweep
  rw [show (W : Int) * (H : Int) = ((W * H : Nat) : Int) by simp]; rfl
theorem mod_lt' {i W H : Nat} (hi : i < W * H) (hW : 0 < W) : ((i / W : Nat) : Int) < H := Int.ofNat_lt.2 (by rw [Nat.div_lt_iff_lt_mul hW, Nat.mul_comm]; exact hi)

theorem s132 (o : Bool) (xs : List Nat) (h0 : 0 < xs.length) (hn : xs.length ≤ 1048576) : SP 132 [ar o xs] [.one (.sl 0)] [ar o xs, ar true xs] (one (.sl 1)) := by
  refine spec_of_codeR (fn := Try.f132) tyOK mixes Try.func132 rfl rfl rfl ⟨.inl rfl, rfl⟩ fun hg R0 hR => ?_
  refine c_seq fun NN1 nn1 => ?_
  refine c_region fun KK2 kk2 => ?_
  refine n_of (N' := KK2) kk2 ?_
  refine n_of (N' := NN1) nn1 ?_
  refine c_seq fun NN3 nn3 => ?_
  refine c_seq fun NN4 nn4 => ?_
  refine c_region fun KK5 kk5 => ?_
  refine And.intro ?_ ?_
  · ((try dsimp only); (try simp only [Dat.len, Int.toNat_natCast, bld_len, List.length_cons, List.length_nil, List.length_replicate]); omega)   -- 0 nonnil
  refine n_of (N' := KK5) kk5 ?_
  refine n_of (N' := NN4) nn4 ?_
  refine c_cond rfl (fun h => nomatch h) (fun _ => ?_)
  refine c_skip ?_
  refine n_of (N' := NN3) nn3 ?_
  refine c_seq fun NN6 nn6 => ?_
  refine c_region fun KK7 kk7 => ?_
  refine And.intro ?_ ?_
  · (refine ⟨?_, by decide⟩; (try dsimp only); (try simp only [Dat.len, Int.toNat_natCast, bld_len, List.length_cons, List.length_nil, List.length_replicate]); omega)   -- 1 append
  refine n_of (N' := KK7) kk7 ?_
  refine n_of (N' := NN6) nn6 ?_
  refine c_ret ?_
  refine n_of (N' := R0) hR ?_
  exact ⟨[], rfl, rfl, rfl⟩

theorem s131 (o o2 : Bool) (xs ys : List Nat) (w h : Int) (k : Nat) (hb : isB w h xs = true) (hb2 : isB w h ys = true) (hk : k ≤ 200) : SP 131 [basV w h 2, basV w h 3, ar o xs, ar o2 ys] [.one (.pv 0 0), .one (.pv 1 0), i64 k] [basV w h 2, basV w h 3, ar o xs, ar o2 ys, ar true (gR (okeven w h xs && isB w h (Rsweep w h xs ys k)) (Rsweep w h xs ys k))] (toldB (okeven w h xs && isB w h (Rsweep w h xs ys k)) w h 4) := by
  refine spec_of_codeR (fn := Try.f131) tyOK mixes Try.func131 rfl rfl rfl ⟨.inl rfl, ⟨.inl rfl, ⟨.inl rfl, ⟨.inl rfl, rfl⟩⟩⟩⟩ fun hg R0 hR => ?_
  obtain ⟨W, H, rfl, rfl, w1, w2, w3, w4, hl, hWH⟩ := isB_nat hb
  have hwr := wrWH hWH
  have hly := isB_pos hb2
  obtain ⟨W2, H2, e1, e2, _, _, _, _, hl2, _⟩ := isB_nat hb2
  have e1 : W = W2 := Int.ofNat.inj e1
  have e2 : H = H2 := Int.ofNat.inj e2
  rw [← e1, ← e2] at hl2
  refine c_seq fun NN1 nn1 => ?_
  refine c_region fun KK2 kk2 => ?_
  refine n_of (N' := KK2) kk2 ?_
  refine n_of (N' := NN1) nn1 ?_
  refine c_seq fun NN3 nn3 => ?_
  refine c_region fun KK4 kk4 => ?_
  refine ⟨rfl, _, _, s122 _ _ _ _ hb, ?_⟩
  refine n_of (N' := KK4) kk4 ?_
  refine n_of (N' := NN3) nn3 ?_
  refine c_seq fun NN5 nn5 => ?_
  refine c_seq fun NN6 nn6 => ?_
  refine c_region fun KK7 kk7 => ?_
  refine n_of (N' := KK7) kk7 ?_
  refine n_of (N' := NN6) nn6 ?_
  refine c_cond rfl (fun h0 => ?_) (fun h0 => ?_)
  · skip
    refine c_seq fun NN8 nn8 => ?_
    refine c_region fun KK9 kk9 => ?_
    refine n_of (N' := KK9) kk9 ?_
    refine n_of (N' := NN8) nn8 ?_
    refine c_ret ?_
    refine n_of (N' := R0) hR ?_
    have ok : (okeven W H xs && isB W H (Rsweep W H xs ys k)) = false := by rw [not_t h0]; rfl
    exact ⟨[.nil 32 (.f [])], rfl, rfl, by rw [ok]; rfl, by rw [ok]; rfl⟩
  · skip
    have hev := not_f h0
    have hE : (Esw W H xs).length = W * H := by unfold Esw; rw [hev]; show (Reven xs).length = W * H; unfold Reven; rw [bld_len, hl]
    refine c_skip ?_
    refine n_of (N' := NN5) nn5 ?_
    refine c_seq fun NN10 nn10 => ?_
    refine c_region fun KK11 kk11 => ?_
    refine ⟨rfl, _, _, s113 _ _ _ _ (by omega), ?_⟩
    refine n_of (N' := KK11) kk11 ?_
    refine n_of (N' := NN10) nn10 ?_
    refine c_seq fun NN12 nn12 => ?_
    refine c_seq fun NN13 nn13 => ?_
    refine c_region fun KK14 kk14 => ?_
    refine n_of (N' := KK14) kk14 ?_
    refine n_of (N' := NN13) nn13 ?_
    refine c_block fun XX15 xx15 => ?_
    refine loop_keep [] [2, 6, 8, 10] (ι := { j : Nat // j ≤ k }) (fun i => [(11, exi .i64 i.1)]) (fun i => [(7, ar true (swN (Esw W H xs) W H (W * H) ys i.1))]) (fun j => k - j.1) ⟨0, Nat.zero_le _⟩ trivial rfl ?_
    refine ⟨?_, ?_, ?_⟩
    · exact ⟨.inr rfl, trivial⟩
    · exact ⟨rfl, rfl, rfl, rfl, rfl, rfl, rfl, rfl, rfl, trivial⟩
    refine fun ⟨j, hjk⟩ NL16 nl16 => ?_
    refine c_norm rfl rfl ?_
    have hA : (swN (Esw W H xs) W H (W * H) ys j).length = W * H := by rw [swN_len]; exact hl2
    refine c_seq fun NN17 nn17 => ?_
    refine c_seq fun NN18 nn18 => ?_
    refine c_region fun KK19 kk19 => ?_
    refine n_of (N' := KK19) kk19 ?_
    refine n_of (N' := NN18) nn18 ?_
    refine c_cond rfl (fun h1 => ?_) (fun h1 => ?_)
    · skip
      have q1 := of_decide_eq_true h1
      (try dsimp only at q1)
      (try simp only [Dat.len, hwr, hA, bld_len, List.length_cons, List.length_nil] at q1)
      refine c_skip ?_
      refine n_of (N' := NN17) nn17 ?_
      refine c_seq fun NN20 nn20 => ?_
      refine c_block fun XX21 xx21 => ?_
      refine c_seq fun NN22 nn22 => ?_
      refine c_region fun KK23 kk23 => ?_
      refine n_of (N' := KK23) kk23 ?_
      refine n_of (N' := NN22) nn22 ?_
      refine c_block fun XX24 xx24 => ?_
      refine loop_keep [] [2, 6, 8, 10, 11] (ι := { i : Nat // i ≤ W * H }) (fun i => [(12, exi .i64 i.1)]) (fun i => [(7, ar true (sw (Esw W H xs) W H i.1 (swN (Esw W H xs) W H (W * H) ys j)))]) (fun i => W * H - i.1) ⟨0, Nat.zero_le _⟩ trivial rfl ?_
      refine ⟨?_, ?_, ?_⟩
      · exact ⟨.inr rfl, trivial⟩
      · exact ⟨rfl, rfl, rfl, rfl, rfl, rfl, rfl, rfl, rfl, trivial⟩
      refine fun ⟨i, hi⟩ NL25 nl25 => ?_
      refine c_norm rfl rfl ?_
      obtain ⟨m0, m1, m2, m3⟩ := cellb i W (by omega) (by omega)
      refine c_seq fun NN26 nn26 => ?_
      refine c_seq fun NN27 nn27 => ?_
      refine c_region fun KK28 kk28 => ?_
      refine n_of (N' := KK28) kk28 ?_
      refine n_of (N' := NN27) nn27 ?_
      refine c_cond rfl (fun h2 => ?_) (fun h2 => ?_)
      · skip
        have q2 := of_decide_eq_true h2
        (try dsimp only at q2)
        (try simp only [Dat.len, hwr, hA, bld_len, List.length_cons, List.length_nil] at q2)
        refine c_skip ?_
        refine n_of (N' := NN26) nn26 ?_
        refine c_seq fun NN29 nn29 => ?_
        refine c_block fun XX30 xx30 => ?_
        refine c_seq fun NN31 nn31 => ?_
        refine c_draw 14 [0, 1, 2, 3, 4, 5, 6, 7, 9, 10, 11, 12, 13, 8] (by kernel_rfl) fun KK32 kk32 => ?_
        refine And.intro ?_ ?_
        · omega   -- 0 div
        refine And.intro ?_ ?_
        · omega   -- 1 div
        refine And.intro ?_ ?_
        · ((try dsimp only); (try simp only [Dat.len, sw_len, swN_len, hE]); omega)   -- 2 index
        refine And.intro ?_ ?_
        · ((try dsimp only); (try simp only [Dat.len, sw_len, swN_len, hE]); omega)   -- 3 load
        refine ⟨rfl, _, _, s150 _ _ _ _ w1 w2 w3 w4 (by rw [sw_len, swN_len]; exact hl2) _ _ (by (try dsimp only); simp only [tdiv_nat, tmod_nat]; omega) (by (try dsimp only); simp only [tdiv_nat, tmod_nat]; omega) (by (try dsimp only); simp only [tdiv_nat, tmod_nat]; simp (disch := omega) only [wr64]; omega) (by (try dsimp only); simp only [tdiv_nat, tmod_nat]; simp (disch := omega) only [wr64]; exact mod_lt' (by omega) (by omega)), rfl, ?_⟩
        refine n_of (N' := KK32) kk32 ?_
        refine n_of (N' := NN31) nn31 ?_
        refine c_region fun KK33 kk33 => ?_
        refine And.intro ?_ ?_
        · ((try dsimp only); (try simp only [Dat.len, sw_len, swN_len, hE]); omega)   -- 4 index
        refine And.intro ?_ ?_
        · ((try dsimp only); (try simp only [Dat.len, sw_len, swN_len, hE]); omega)   -- 5 store
        refine n_of (N' := KK33) kk33 ?_
        refine n_of (N' := NN29) nn29 ?_
        refine c_region fun KK34 kk34 => ?_
        refine n_of (N' := KK34) kk34 ?_
        refine n_of (N' := NL25) nl25 ?_
        refine ⟨⟨i + 1, by omega⟩, ?_, [0, 1, 2, 3, 4, 5, 6, 7, 8], rfl, ?_, ?_⟩
        · (dsimp only; omega)
        · exact LEq.eq ⟨rfl, rfl, rfl, rfl, rfl, rfl, rfl, congrArg (ar true) (by (try dsimp only); simp only [Int.toNat_natCast, tdiv_nat, tmod_nat]; simp (disch := omega) only [wr64]; rfl), rfl, trivial⟩
        · exact ⟨.inr (congrArg (exi .i64) (wr64 (n := (i : Int) + 1) (by omega) (by omega))), .inr rfl, .inr rfl, .inr rfl, .inr rfl, .inr rfl, trivial⟩
      · skip
        have q2 := of_decide_eq_false h2
        (try dsimp only at q2)
        (try simp only [Dat.len, hwr, hA, bld_len, List.length_cons, List.length_nil] at q2)
        have ei : i = W * H := by omega
        subst ei
        refine c_exit ?_
        refine x_here xx24 ?_
        refine n_of (N' := NN20) nn20 ?_
        refine c_region fun KK35 kk35 => ?_
        refine n_of (N' := KK35) kk35 ?_
        refine n_of (N' := NL16) nl16 ?_
        refine ⟨⟨j + 1, by omega⟩, ?_, [0, 1, 2, 3, 4, 5, 6, 7, 8], rfl, ?_, ?_⟩
        · (dsimp only; omega)
        · exact LEq.eq ⟨rfl, rfl, rfl, rfl, rfl, rfl, rfl, rfl, rfl, trivial⟩
        · exact ⟨.inr (congrArg (exi .i64) (wr64 (n := (j : Int) + 1) (by omega) (by omega))), .inr rfl, .inr rfl, .inr rfl, .inr rfl, trivial⟩
    · skip
      have q1 := of_decide_eq_false h1
      (try dsimp only at q1)
      (try simp only [Dat.len, hwr, hA, bld_len, List.length_cons, List.length_nil] at q1)
      refine c_exit ?_
      refine x_here xx15 ?_
      refine n_of (N' := NN12) nn12 ?_
      refine c_seq fun NN36 nn36 => ?_
      refine c_region fun KK37 kk37 => ?_
      refine ⟨rfl, _, _, (s92 _ _ _), ?_⟩
      refine n_of (N' := KK37) kk37 ?_
      refine n_of (N' := NN36) nn36 ?_
      refine c_ret ?_
      refine n_of (N' := R0) hR ?_
      have e : j = k := by omega
      subst e
      have ok : (okeven W H xs && isB W H (Rsweep W H xs ys j)) = isB W H (swN (Esw W H xs) W H (W * H) ys j) := by rw [hev, RsweepN]; rfl
      exact ⟨[], rfl, by rw [ok, RsweepN], by rw [ok]⟩

theorem s72 (o o2 : Bool) (xs ys : List Nat) (w h w2 k2 : Int) (k : Int) : SP 72 [ar o xs, ar o2 ys] [bas w h 0, bas w2 k2 1, i64 k] [ar o xs, ar o2 ys, ar true (gR (oksweep w h xs w2 k2 ys k) (Rsweep w h xs ys k))] (toldB (oksweep w h xs w2 k2 ys k) w h 2) := by
  refine spec_of_codeR (fn := Try.f72) tyOK mixes Try.func72 rfl rfl rfl ⟨.inl rfl, ⟨.inl rfl, rfl⟩⟩ fun hg R0 hR => ?_
  refine c_seq fun NN1 nn1 => ?_
  refine c_region fun KK2 kk2 => ?_
  refine n_of (N' := KK2) kk2 ?_
  refine n_of (N' := NN1) nn1 ?_
  refine c_seq fun NN3 nn3 => ?_
  refine c_seq fun NN4 nn4 => ?_
  refine c_region fun KK5 kk5 => ?_
  refine ⟨rfl, _, _, s114 _ _ _ _ _ _ _ _, ?_⟩
  refine And.intro (fun h0 => ?_) (fun h0 => ?_)
  · skip
    refine n_of (N' := KK5) kk5 ?_
    refine n_of (N' := NN4) nn4 ?_
    refine c_cond rfl (fun _ => ?_) (fun h => nomatch h)
    refine c_seq fun NN6 nn6 => ?_
    refine c_region fun KK7 kk7 => ?_
    refine n_of (N' := KK7) kk7 ?_
    refine n_of (N' := NN6) nn6 ?_
    refine c_ret ?_
    refine n_of (N' := R0) hR ?_
    have ok : oksweep w h xs w2 k2 ys k = false := by unfold oksweep; rw [not_t h0]; rfl
    exact ⟨[.nil 32 (.f [])], rfl, rfl, by rw [ok]; rfl, by rw [ok]; rfl⟩
  · skip
    have ht := not_f h0
    obtain ⟨hb, rfl, rfl, hb2⟩ := two_of ht
    refine ⟨rfl, _, _, (s104 _ _ _), ?_⟩
    refine n_of (N' := KK5) kk5 ?_
    refine n_of (N' := NN4) nn4 ?_
    refine c_cond rfl (fun h1 => ?_) (fun h1 => ?_)
    · skip
      refine c_seq fun NN8 nn8 => ?_
      refine c_region fun KK9 kk9 => ?_
      refine n_of (N' := KK9) kk9 ?_
      refine n_of (N' := NN8) nn8 ?_
      refine c_ret ?_
      refine n_of (N' := R0) hR ?_
      have ok : oksweep w2 k2 xs w2 k2 ys k = false := by unfold oksweep; rw [not_t h1]; simp
      exact ⟨[.nil 32 (.f [])], rfl, rfl, by rw [ok]; rfl, by rw [ok]; rfl⟩
    · skip
      have hk := inB_le (not_f h1)
      obtain ⟨K, rfl⟩ : ∃ K : Nat, k = K := ⟨k.toNat, by omega⟩
      refine c_skip ?_
      refine n_of (N' := NN3) nn3 ?_
      refine c_seq fun NN10 nn10 => ?_
      refine c_region fun KK11 kk11 => ?_
      refine ⟨rfl, _, _, s131 _ _ _ _ _ _ K hb hb2 (by omega), ?_⟩
      refine n_of (N' := KK11) kk11 ?_
      refine n_of (N' := NN10) nn10 ?_
      refine c_ret ?_
      refine n_of (N' := R0) hR ?_
      have ok : oksweep w2 k2 xs w2 k2 ys K = (okeven w2 k2 xs && isB w2 k2 (Rsweep w2 k2 xs ys K)) := by unfold oksweep; rw [ht, not_f h1]; rfl
      exact ⟨[], rfl, by rw [ok], by rw [ok]⟩

theorem s73 (o o2 : Bool) (xs ys : List Nat) (w h w2 k2 : Int) (k : Int) : SP 73 [ar o xs, ar o2 ys] [bas w h 0, bas w2 k2 1, i64 k] [ar o xs, ar o2 ys, ar true (gR (oksweep w h xs w2 k2 ys k) (Rsweep w h xs ys k))] (toldB (oksweep w h xs w2 k2 ys k) w h 2) := by
  refine spec_of_codeR (fn := Try.f73) tyOK mixes Try.func73 rfl rfl rfl ⟨.inl rfl, ⟨.inl rfl, rfl⟩⟩ fun hg R0 hR => ?_
  refine c_seq fun NN1 nn1 => ?_
  refine c_region fun KK2 kk2 => ?_
  refine n_of (N' := KK2) kk2 ?_
  refine n_of (N' := NN1) nn1 ?_
  refine c_seq fun NN3 nn3 => ?_
  refine c_region fun KK4 kk4 => ?_
  refine ⟨rfl, _, _, (s65 _ _ _ _), ?_⟩
  refine n_of (N' := KK4) kk4 ?_
  refine n_of (N' := NN3) nn3 ?_
  refine c_seq fun NN5 nn5 => ?_
  refine c_seq fun NN6 nn6 => ?_
  refine c_region fun KK7 kk7 => ?_
  refine And.intro (fun h0 => ?_) (fun h0 => ?_)
  · skip
    refine And.intro (fun _ => ?_) (fun h => nomatch h)
    refine n_of (N' := KK7) kk7 ?_
    refine n_of (N' := NN6) nn6 ?_
    refine c_cond rfl (fun _ => ?_) (fun h => nomatch h)
    refine c_seq fun NN8 nn8 => ?_
    refine c_region fun KK9 kk9 => ?_
    refine n_of (N' := KK9) kk9 ?_
    refine n_of (N' := NN8) nn8 ?_
    refine c_ret ?_
    refine n_of (N' := R0) hR ?_
    have ok : oksweep w h xs w2 k2 ys k = false := by unfold oksweep; rw [not_t h0]; simp
    exact ⟨[.nil 32 (.f [])], rfl, rfl, by rw [ok]; rfl, by rw [ok]; rfl⟩
  · skip
    refine ⟨rfl, _, _, s115 _ _ _ _ _ _ _ _, ?_⟩
    refine And.intro (fun h1 => ?_) (fun h1 => ?_)
    · skip
      refine n_of (N' := KK7) kk7 ?_
      refine n_of (N' := NN6) nn6 ?_
      refine c_cond rfl (fun _ => ?_) (fun h => nomatch h)
      refine c_seq fun NN10 nn10 => ?_
      refine c_region fun KK11 kk11 => ?_
      refine n_of (N' := KK11) kk11 ?_
      refine n_of (N' := NN10) nn10 ?_
      refine c_ret ?_
      refine n_of (N' := R0) hR ?_
      have ok : oksweep w h xs w2 k2 ys k = false := by unfold oksweep; rw [not_t h1]; rfl
      exact ⟨[.nil 32 (.f [])], rfl, rfl, by rw [ok]; rfl, by rw [ok]; rfl⟩
    · skip
      refine ⟨rfl, _, _, (s105 _ _ _), ?_⟩
      refine n_of (N' := KK7) kk7 ?_
      refine n_of (N' := NN6) nn6 ?_
      refine c_cond rfl (fun h2 => ?_) (fun h2 => ?_)
      · skip
        refine c_seq fun NN12 nn12 => ?_
        refine c_region fun KK13 kk13 => ?_
        refine n_of (N' := KK13) kk13 ?_
        refine n_of (N' := NN12) nn12 ?_
        refine c_ret ?_
        refine n_of (N' := R0) hR ?_
        have ok : oksweep w h xs w2 k2 ys k = false := by unfold oksweep; rw [not_t h2]; simp
        exact ⟨[.nil 32 (.f [])], rfl, rfl, by rw [ok]; rfl, by rw [ok]; rfl⟩
      · skip
        have hev := not_f h0
        have ht := not_f h1
        have hk := inB_le (not_f h2)
        obtain ⟨K, rfl⟩ : ∃ K : Nat, k = K := ⟨k.toNat, by omega⟩
        obtain ⟨hb, rfl, rfl, hb2⟩ := two_of ht
        obtain ⟨W, H, rfl, rfl, w1, w2, w3, w4, hl, hWH⟩ := isB_nat hb
        have hwr := wrWH hWH
        have hly := isB_pos hb2
        obtain ⟨W2, H2, e1, e2, _, _, _, _, hl2, _⟩ := isB_nat hb2
        have e1 : W = W2 := Int.ofNat.inj e1
        have e2 : H = H2 := Int.ofNat.inj e2
        rw [← e1, ← e2] at hl2
        have hE : (Esw W H xs).length = W * H := by unfold Esw; rw [hev]; show (Reven xs).length = W * H; unfold Reven; rw [bld_len, hl]
        refine c_skip ?_
        refine n_of (N' := NN5) nn5 ?_
        refine c_seq fun NN14 nn14 => ?_
        refine c_draw2 9 8 10 [0, 1, 2, 3, 4, 5, 6, 7] (by kernel_rfl) fun KK15 kk15 => ?_
        refine ⟨rfl, _, _, s132 _ _ (by omega) (by omega), rfl, ?_⟩
        refine n_of (N' := KK15) kk15 ?_
        refine n_of (N' := NN14) nn14 ?_
        refine c_seq fun NN16 nn16 => ?_
        refine c_seq fun NN17 nn17 => ?_
        refine c_region fun KK18 kk18 => ?_
        refine n_of (N' := KK18) kk18 ?_
        refine n_of (N' := NN17) nn17 ?_
        refine c_block fun XX19 xx19 => ?_
        refine loop_keep [] [3, 6, 8, 10, 42] (ι := { j : Nat // j ≤ K }) (fun i => [(43, exi .i64 i.1)]) (fun i => [(8, ar true (swN (Esw W H xs) W H (W * H) ys i.1))]) (fun j => K - j.1) ⟨0, Nat.zero_le _⟩ trivial rfl ?_
        refine ⟨?_, ?_, ?_⟩
        · exact ⟨.inr rfl, trivial⟩
        · exact ⟨rfl, rfl, rfl, rfl, rfl, rfl, rfl, rfl, rfl, rfl, trivial⟩
        refine fun ⟨j, hjk⟩ NL20 nl20 => ?_
        refine c_norm rfl rfl ?_
        have hA : (swN (Esw W H xs) W H (W * H) ys j).length = W * H := by rw [swN_len]; exact hl2
        refine c_seq fun NN21 nn21 => ?_
        refine c_region fun KK22 kk22 => ?_
        refine n_of (N' := KK22) kk22 ?_
        refine n_of (N' := NN21) nn21 ?_
        refine c_seq fun NN23 nn23 => ?_
        refine c_cond rfl (fun h3 => ?_) (fun h3 => ?_)
        · skip
          have q3 := of_decide_eq_true h3
          (try dsimp only at q3)
          (try simp only [Dat.len, hwr, hA, bld_len, List.length_cons, List.length_nil] at q3)
          refine c_skip ?_
          refine n_of (N' := NN23) nn23 ?_
          refine c_seq fun NN24 nn24 => ?_
          refine c_block fun XX25 xx25 => ?_
          refine c_seq fun NN26 nn26 => ?_
          refine c_region fun KK27 kk27 => ?_
          refine n_of (N' := KK27) kk27 ?_
          refine n_of (N' := NN26) nn26 ?_
          refine c_block fun XX28 xx28 => ?_
          refine loop_keep [] [3, 6, 8, 10, 42, 43, 47] (ι := { i : Nat // i ≤ W * H }) (fun i => [(48, exi .i64 i.1)]) (fun i => [(8, ar true (sw (Esw W H xs) W H i.1 (swN (Esw W H xs) W H (W * H) ys j)))]) (fun i => W * H - i.1) ⟨0, Nat.zero_le _⟩ trivial rfl ?_
          refine ⟨?_, ?_, ?_⟩
          · exact ⟨.inr rfl, trivial⟩
          · exact ⟨rfl, rfl, rfl, rfl, rfl, rfl, rfl, rfl, rfl, rfl, trivial⟩
          refine fun ⟨i, hi⟩ NL29 nl29 => ?_
          refine c_norm rfl rfl ?_
          obtain ⟨m0, m1, m2, m3⟩ := cellb i W (by omega) (by omega)
          refine c_seq fun NN30 nn30 => ?_
          refine c_region fun KK31 kk31 => ?_
          refine n_of (N' := KK31) kk31 ?_
          refine n_of (N' := NN30) nn30 ?_
          refine c_seq fun NN32 nn32 => ?_
          refine c_cond rfl (fun h4 => ?_) (fun h4 => ?_)
          · skip
            have q4 := of_decide_eq_true h4
            (try dsimp only at q4)
            (try simp only [Dat.len, hwr, hA, bld_len, List.length_cons, List.length_nil] at q4)
            refine c_skip ?_
            refine n_of (N' := NN32) nn32 ?_
            refine c_seq fun NN33 nn33 => ?_
            refine c_block fun XX34 xx34 => ?_
            refine c_seq fun NN35 nn35 => ?_
            refine c_region fun KK36 kk36 => ?_
            refine n_of (N' := KK36) kk36 ?_
            refine n_of (N' := NN35) nn35 ?_
            refine c_seq fun NN37 nn37 => ?_
            refine c_draw 9 [0, 1, 2, 3, 4, 5, 6, 7, 8] (by kernel_rfl) fun KK38 kk38 => ?_
            refine And.intro ?_ ?_
            · omega   -- 0 div
            refine And.intro ?_ ?_
            · omega   -- 1 div
            refine n_of (N' := KK38) kk38 ?_
            refine n_of (N' := NN37) nn37 ?_
            refine c_draw 13 [0, 1, 2, 3, 4, 6, 7, 8, 9, 10, 5, 11, 12] (by kernel_rfl) fun KK39 kk39 => ?_
            refine And.intro ?_ ?_
            · ((try dsimp only); (try simp only [Dat.len, sw_len, swN_len, hE]); omega)   -- 2 index
            refine And.intro ?_ ?_
            · ((try dsimp only); (try simp only [Dat.len, sw_len, swN_len, hE]); omega)   -- 3 load
            refine ⟨rfl, _, _, s133 _ _ _ _ w1 w2 w3 w4 (by rw [sw_len, swN_len]; exact hl2) _ _ (by (try dsimp only); simp only [tdiv_nat, tmod_nat]; omega) (by (try dsimp only); simp only [tdiv_nat, tmod_nat]; omega) (by (try dsimp only); simp only [tdiv_nat, tmod_nat]; simp (disch := omega) only [wr64]; omega) (by (try dsimp only); simp only [tdiv_nat, tmod_nat]; simp (disch := omega) only [wr64]; exact mod_lt' (by omega) (by omega)), rfl, ?_⟩
            refine And.intro ?_ ?_
            · ((try dsimp only); (try simp only [Dat.len, sw_len, swN_len, hE]); omega)   -- 4 index
            refine And.intro ?_ ?_
            · ((try dsimp only); (try simp only [Dat.len, sw_len, swN_len, hE]); omega)   -- 5 store
            refine n_of (N' := KK39) kk39 ?_
            refine n_of (N' := NN33) nn33 ?_
            refine c_region fun KK40 kk40 => ?_
            refine n_of (N' := KK40) kk40 ?_
            refine n_of (N' := NL29) nl29 ?_
            refine ⟨⟨i + 1, by omega⟩, ?_, [0, 1, 2, 3, 4, 5, 6, 7, 8, 9], rfl, ?_, ?_⟩
            · (dsimp only; omega)
            · exact LEq.eq ⟨rfl, rfl, rfl, rfl, rfl, rfl, rfl, rfl, congrArg (ar true) (by (try dsimp only); simp only [Int.toNat_natCast, tdiv_nat, tmod_nat]; simp (disch := omega) only [wr64]; rfl), rfl, trivial⟩
            · exact ⟨.inr (congrArg (exi .i64) (wr64 (n := (i : Int) + 1) (by omega) (by omega))), .inr rfl, .inr rfl, .inr rfl, .inr rfl, .inr rfl, .inr rfl, .inr rfl, trivial⟩
          · skip
            have q4 := of_decide_eq_false h4
            (try dsimp only at q4)
            (try simp only [Dat.len, hwr, hA, bld_len, List.length_cons, List.length_nil] at q4)
            have ei : i = W * H := by omega
            subst ei
            refine c_exit ?_
            refine x_here xx28 ?_
            refine n_of (N' := NN24) nn24 ?_
            refine c_region fun KK41 kk41 => ?_
            refine n_of (N' := KK41) kk41 ?_
            refine n_of (N' := NL20) nl20 ?_
            refine ⟨⟨j + 1, by omega⟩, ?_, [0, 1, 2, 3, 4, 5, 6, 7, 8, 9], rfl, ?_, ?_⟩
            · (dsimp only; omega)
            · exact LEq.eq ⟨rfl, rfl, rfl, rfl, rfl, rfl, rfl, rfl, rfl, rfl, trivial⟩
            · exact ⟨.inr (congrArg (exi .i64) (wr64 (n := (j : Int) + 1) (by omega) (by omega))), .inr rfl, .inr rfl, .inr rfl, .inr rfl, .inr rfl, trivial⟩
        · skip
          have q3 := of_decide_eq_false h3
          (try dsimp only at q3)
          (try simp only [Dat.len, hwr, hA, bld_len, List.length_cons, List.length_nil] at q3)
          refine c_exit ?_
          refine x_here xx19 ?_
          refine n_of (N' := NN16) nn16 ?_
          refine c_seq fun NN42 nn42 => ?_
          refine c_region fun KK43 kk43 => ?_
          refine ⟨rfl, _, _, (s94 _ _ _), ?_⟩
          refine n_of (N' := KK43) kk43 ?_
          refine n_of (N' := NN42) nn42 ?_
          refine c_ret ?_
          refine n_of (N' := R0) hR ?_
          have e : j = K := by omega
          subst e
          have ok : oksweep W H xs W H ys j = isB W H (swN (Esw W H xs) W H (W * H) ys j) := by unfold oksweep; rw [ht, not_f h2, hev, RsweepN]; rfl
          exact ⟨[], rfl, by rw [ok, RsweepN], by rw [ok]⟩

theorem s22 (o o2 : Bool) (xs ys : List Nat) (w h w2 k2 : Int) (k : Int) : SP 22 [ar o xs, ar o2 ys] [bas w h 0, bas w2 k2 1, i64 k] [ar o xs, ar o2 ys] (exb true) := by
  refine spec_of_codeR (fn := Try.f22) tyOK mixes Try.func22 rfl rfl rfl ⟨.inl rfl, ⟨.inl rfl, rfl⟩⟩ fun hg R0 hR => ?_
  have hR1 : (gR (oksweep w h xs w2 k2 ys k) (Rsweep w h xs ys k)).length ≤ 256 := gR_len fun hb => isB_len256 (w := w) (h := h) (by unfold oksweep at hb; simp only [Bool.and_eq_true] at hb; exact hb.2.2)
  refine c_seq fun NN1 nn1 => ?_
  refine c_region fun KK2 kk2 => ?_
  refine n_of (N' := KK2) kk2 ?_
  refine n_of (N' := NN1) nn1 ?_
  refine c_seq fun NN3 nn3 => ?_
  refine c_region fun KK4 kk4 => ?_
  refine n_of (N' := KK4) kk4 ?_
  refine n_of (N' := NN3) nn3 ?_
  refine c_seq fun NN5 nn5 => ?_
  refine c_region fun KK6 kk6 => ?_
  refine ⟨rfl, _, _, (s25 _ _ _ _ _), ?_⟩
  refine n_of (N' := KK6) kk6 ?_
  refine n_of (N' := NN5) nn5 ?_
  refine c_seq fun NN7 nn7 => ?_
  refine c_seq fun NN8 nn8 => ?_
  refine c_region fun KK9 kk9 => ?_
  refine n_of (N' := KK9) kk9 ?_
  refine n_of (N' := NN8) nn8 ?_
  refine c_cond rfl (fun h0 => ?_) (fun h0 => ?_)
  · skip
    have q0 := of_decide_eq_true h0
    (try dsimp only at q0)
    (try simp only [Dat.len] at q0)
    refine c_seq fun NN10 nn10 => ?_
    refine c_region fun KK11 kk11 => ?_
    refine n_of (N' := KK11) kk11 ?_
    refine n_of (N' := NN10) nn10 ?_
    refine c_ret ?_
    refine n_of (N' := R0) hR ?_
    exact ⟨[], rfl, rfl, rfl⟩
  · skip
    have q0 := of_decide_eq_false h0
    (try dsimp only at q0)
    (try simp only [Dat.len] at q0)
    have hn : xs.length ≤ 1048576 := sz_le h0 hg.1.1.1
    refine c_skip ?_
    refine n_of (N' := NN7) nn7 ?_
    refine c_seq fun NN12 nn12 => ?_
    refine c_region fun KK13 kk13 => ?_
    refine ⟨rfl, _, _, (s25 _ _ _ _ _), ?_⟩
    refine n_of (N' := KK13) kk13 ?_
    refine n_of (N' := NN12) nn12 ?_
    refine c_seq fun NN14 nn14 => ?_
    refine c_seq fun NN15 nn15 => ?_
    refine c_region fun KK16 kk16 => ?_
    refine n_of (N' := KK16) kk16 ?_
    refine n_of (N' := NN15) nn15 ?_
    refine c_cond rfl (fun h1 => ?_) (fun h1 => ?_)
    · skip
      have q1 := of_decide_eq_true h1
      (try dsimp only at q1)
      (try simp only [Dat.len] at q1)
      refine c_seq fun NN17 nn17 => ?_
      refine c_region fun KK18 kk18 => ?_
      refine n_of (N' := KK18) kk18 ?_
      refine n_of (N' := NN17) nn17 ?_
      refine c_ret ?_
      refine n_of (N' := R0) hR ?_
      exact ⟨[], rfl, rfl, rfl⟩
    · skip
      have q1 := of_decide_eq_false h1
      (try dsimp only at q1)
      (try simp only [Dat.len] at q1)
      have hn2 : ys.length ≤ 1048576 := sz_le2 h0 h1 hg.1.1.1 hg.1.2.1.1
      refine c_skip ?_
      refine n_of (N' := NN14) nn14 ?_
      refine c_seq fun NN19 nn19 => ?_
      refine c_draw3 11 9 8 10 36 [0, 2, 4, 1, 3, 5, 6, 7, 8] (by kernel_rfl) fun KK20 kk20 => ?_
      refine ⟨rfl, _, _, (s27 _ _ (by ((try dsimp only); first | assumption | omega | (simp (disch := omega) only [wr64]; omega))) _ _), rfl, ?_⟩
      refine ⟨rfl, _, _, (s27 _ _ (by ((try dsimp only); first | assumption | omega | (simp (disch := omega) only [wr64]; omega))) _ _), rfl, ?_⟩
      refine ⟨rfl, _, _, s72 _ _ _ _ _ _ _ _ _, rfl, ?_⟩
      refine n_of (N' := KK20) kk20 ?_
      refine n_of (N' := NN19) nn19 ?_
      refine c_seq fun NN21 nn21 => ?_
      refine c_region fun KK22 kk22 => ?_
      refine ⟨rfl, _, _, (s27 _ _ (by ((try dsimp only); first | assumption | omega | (simp (disch := omega) only [wr64]; omega))) _ _), ?_⟩
      refine n_of (N' := KK22) kk22 ?_
      refine n_of (N' := NN21) nn21 ?_
      refine c_seq fun NN23 nn23 => ?_
      refine c_region fun KK24 kk24 => ?_
      refine ⟨rfl, _, _, (s27 _ _ (by ((try dsimp only); first | assumption | omega | (simp (disch := omega) only [wr64]; omega))) _ _), ?_⟩
      refine n_of (N' := KK24) kk24 ?_
      refine n_of (N' := NN23) nn23 ?_
      refine c_seq fun NN25 nn25 => ?_
      refine c_region fun KK26 kk26 => ?_
      refine ⟨rfl, _, _, s73 _ _ _ _ _ _ _ _ _, ?_⟩
      refine n_of (N' := KK26) kk26 ?_
      refine n_of (N' := NN25) nn25 ?_
      refine c_seq fun NN27 nn27 => ?_
      refine c_seq fun NN28 nn28 => ?_
      refine c_region fun KK29 kk29 => ?_
      refine ⟨rfl, _, _, (s29 _ _ _ _ _), ?_⟩
      refine And.intro (fun h2 => ?_) (fun h2 => ?_)
      · skip
        (first | (cases h2; done) | exact bnn h2 | (have q := of_decide_eq_true h2; exfalso; omega) | exact absurd rfl (ne_of_bneT h2))
      · skip
        refine n_of (N' := KK29) kk29 ?_
        refine n_of (N' := NN28) nn28 ?_
        refine c_cond rfl (fun h3 => ?_) (fun h3 => ?_)
        · skip
          (first | (cases h3; done) | exact bnn h3 | (have q := of_decide_eq_true h3; exfalso; omega) | exact absurd rfl (ne_of_bneT h3))
        · skip
          refine c_skip ?_
          refine n_of (N' := NN27) nn27 ?_
          refine c_seq fun NN30 nn30 => ?_
          refine c_seq fun NN31 nn31 => ?_
          refine c_draw 3 [0, 1, 2] (by kernel_rfl) fun KK32 kk32 => ?_
          refine ⟨rfl, _, _, (s27 _ _ (by ((try dsimp only); first | assumption | omega | (simp (disch := omega) only [wr64]; omega))) _ _), rfl, ?_⟩
          refine ⟨rfl, _, _, (s29 _ _ _ _ _), ?_⟩
          refine n_of (N' := KK32) kk32 ?_
          refine n_of (N' := NN31) nn31 ?_
          refine c_cond rfl (fun h4 => ?_) (fun h4 => ?_)
          · skip
            (first | (cases h4; done) | exact bnn h4 | (have q := of_decide_eq_true h4; exfalso; omega) | exact absurd rfl (ne_of_bneT h4))
          · skip
            refine c_skip ?_
            refine n_of (N' := NN30) nn30 ?_
            refine c_seq fun NN33 nn33 => ?_
            refine c_seq fun NN34 nn34 => ?_
            refine c_draw 3 [0, 1, 2] (by kernel_rfl) fun KK35 kk35 => ?_
            refine ⟨rfl, _, _, (s27 _ _ (by ((try dsimp only); first | assumption | omega | (simp (disch := omega) only [wr64]; omega))) _ _), rfl, ?_⟩
            refine ⟨rfl, _, _, (s29 _ _ _ _ _), ?_⟩
            refine n_of (N' := KK35) kk35 ?_
            refine n_of (N' := NN34) nn34 ?_
            refine c_cond rfl (fun h5 => ?_) (fun h5 => ?_)
            · skip
              (first | (cases h5; done) | exact bnn h5 | (have q := of_decide_eq_true h5; exfalso; omega) | exact absurd rfl (ne_of_bneT h5))
            · skip
              refine c_skip ?_
              refine n_of (N' := NN33) nn33 ?_
              refine c_seq fun NN36 nn36 => ?_
              refine c_region fun KK37 kk37 => ?_
              refine n_of (N' := KK37) kk37 ?_
              refine n_of (N' := NN36) nn36 ?_
              refine c_seq fun NN38 nn38 => ?_
              refine c_region fun KK39 kk39 => ?_
              refine ⟨rfl, _, _, (s41 _ _ _ _ (by ((try dsimp only); first | assumption | omega | (simp (disch := omega) only [wr64]; omega))) (by ((try dsimp only); first | assumption | omega | (simp (disch := omega) only [wr64]; omega))) (by ((try dsimp only); first | assumption | omega | (simp (disch := omega) only [wr64]; omega)))), ?_⟩
              refine n_of (N' := KK39) kk39 ?_
              refine n_of (N' := NN38) nn38 ?_
              refine c_seq fun NN40 nn40 => ?_
              refine c_region fun KK41 kk41 => ?_
              refine ⟨rfl, _, _, (s41 _ _ _ _ (by ((try dsimp only); first | assumption | omega | (simp (disch := omega) only [wr64]; omega))) (by ((try dsimp only); first | assumption | omega | (simp (disch := omega) only [wr64]; omega))) (by ((try dsimp only); first | assumption | omega | (simp (disch := omega) only [wr64]; omega)))), ?_⟩
              refine n_of (N' := KK41) kk41 ?_
              refine n_of (N' := NN40) nn40 ?_
              refine c_seq fun NN42 nn42 => ?_
              refine c_seq fun NN43 nn43 => ?_
              refine c_region fun KK44 kk44 => ?_
              refine And.intro (fun h6 => ?_) (fun h6 => ?_)
              · skip
                (first | (cases h6; done) | exact bnn h6 | (have q := of_decide_eq_true h6; exfalso; omega) | exact absurd rfl (ne_of_bneT h6))
              · skip
                have q6 := of_decide_eq_false h6
                (try dsimp only at q6)
                (try simp only [Dat.len] at q6)
                refine ⟨rfl, _, _, (s29 _ _ _ _ _), ?_⟩
                refine And.intro (fun h7 => ?_) (fun h7 => ?_)
                · skip
                  (first | (cases h7; done) | exact bnn h7 | (have q := of_decide_eq_true h7; exfalso; omega) | exact absurd rfl (ne_of_bneT h7))
                · skip
                  refine n_of (N' := KK44) kk44 ?_
                  refine n_of (N' := NN43) nn43 ?_
                  refine c_cond rfl (fun h8 => ?_) (fun h8 => ?_)
                  · skip
                    (first | (cases h8; done) | exact bnn h8 | (have q := of_decide_eq_true h8; exfalso; omega) | exact absurd rfl (ne_of_bneT h8))
                  · skip
                    refine c_skip ?_
                    refine n_of (N' := NN42) nn42 ?_
                    refine c_seq fun NN45 nn45 => ?_
                    refine c_region fun KK46 kk46 => ?_
                    refine n_of (N' := KK46) kk46 ?_
                    refine n_of (N' := NN45) nn45 ?_
                    refine c_seq fun NN47 nn47 => ?_
                    refine c_region fun KK48 kk48 => ?_
                    refine ⟨rfl, _, _, (s41 _ _ _ _ (by ((try dsimp only); first | assumption | omega | (simp (disch := omega) only [wr64]; omega))) (by ((try dsimp only); first | assumption | omega | (simp (disch := omega) only [wr64]; omega))) (by ((try dsimp only); first | assumption | omega | (simp (disch := omega) only [wr64]; omega)))), ?_⟩
                    refine n_of (N' := KK48) kk48 ?_
                    refine n_of (N' := NN47) nn47 ?_
                    refine c_seq fun NN49 nn49 => ?_
                    refine c_region fun KK50 kk50 => ?_
                    refine n_of (N' := KK50) kk50 ?_
                    refine n_of (N' := NN49) nn49 ?_
                    refine c_seq fun NN51 nn51 => ?_
                    refine c_region fun KK52 kk52 => ?_
                    refine ⟨rfl, _, _, (s42 _ _ _ _ _ (by ((try dsimp only); first | assumption | omega | (simp (disch := omega) only [wr64]; omega))) (by ((try dsimp only); first | assumption | omega | (simp (disch := omega) only [wr64]; omega))) (by ((try dsimp only); first | assumption | omega | (simp (disch := omega) only [wr64]; omega)))), ?_⟩
                    refine n_of (N' := KK52) kk52 ?_
                    refine n_of (N' := NN51) nn51 ?_
                    refine c_seq fun NN53 nn53 => ?_
                    refine c_seq fun NN54 nn54 => ?_
                    refine c_region fun KK55 kk55 => ?_
                    refine n_of (N' := KK55) kk55 ?_
                    refine n_of (N' := NN54) nn54 ?_
                    refine c_cond rfl (fun h9 => ?_) (fun h9 => ?_)
                    · skip
                      (first | (cases h9; done) | exact bnn h9 | (have q := of_decide_eq_true h9; exfalso; omega) | exact absurd rfl (ne_of_bneT h9))
                    · skip
                      have q9 := of_decide_eq_false h9
                      (try dsimp only at q9)
                      (try simp only [Dat.len] at q9)
                      refine c_skip ?_
                      refine n_of (N' := NN53) nn53 ?_
                      refine c_seq fun NN56 nn56 => ?_
                      refine c_seq fun NN57 nn57 => ?_
                      refine c_region fun KK58 kk58 => ?_
                      refine n_of (N' := KK58) kk58 ?_
                      refine n_of (N' := NN57) nn57 ?_
                      refine c_cond rfl (fun h10 => ?_) (fun h10 => ?_)
                      · skip
                        (first | (cases h10; done) | exact bnn h10 | (have q := of_decide_eq_true h10; exfalso; omega) | exact absurd rfl (ne_of_bneT h10))
                      · skip
                        have q10 := eq_of_bneF h10
                        (try dsimp only at q10)
                        (try simp only [Dat.len] at q10)
                        refine c_skip ?_
                        refine n_of (N' := NN56) nn56 ?_
                        refine c_seq fun NN59 nn59 => ?_
                        refine c_draw3 11 9 17 10 105 [0, 2, 4, 1, 3, 5, 6, 7, 8] (by kernel_rfl) fun KK60 kk60 => ?_
                        refine ⟨rfl, _, _, (s27 _ _ (by ((try dsimp only); first | assumption | omega | (simp (disch := omega) only [wr64]; omega))) _ _), rfl, ?_⟩
                        refine ⟨rfl, _, _, (s27 _ _ (by ((try dsimp only); first | assumption | omega | (simp (disch := omega) only [wr64]; omega))) _ _), rfl, ?_⟩
                        refine ⟨rfl, _, _, s73 _ _ _ _ _ _ _ _ _, rfl, ?_⟩
                        refine n_of (N' := KK60) kk60 ?_
                        refine n_of (N' := NN59) nn59 ?_
                        refine c_seq fun NN61 nn61 => ?_
                        refine c_seq fun NN62 nn62 => ?_
                        refine c_region fun KK63 kk63 => ?_
                        refine ⟨rfl, _, _, (s29 _ _ _ _ _), ?_⟩
                        refine And.intro (fun h11 => ?_) (fun h11 => ?_)
                        · skip
                          (first | (cases h11; done) | exact bnn h11 | (have q := of_decide_eq_true h11; exfalso; omega) | exact absurd rfl (ne_of_bneT h11))
                        · skip
                          refine n_of (N' := KK63) kk63 ?_
                          refine n_of (N' := NN62) nn62 ?_
                          refine c_cond rfl (fun h12 => ?_) (fun h12 => ?_)
                          · skip
                            (first | (cases h12; done) | exact bnn h12 | (have q := of_decide_eq_true h12; exfalso; omega) | exact absurd rfl (ne_of_bneT h12))
                          · skip
                            refine c_skip ?_
                            refine n_of (N' := NN61) nn61 ?_
                            refine c_seq fun NN64 nn64 => ?_
                            refine c_region fun KK65 kk65 => ?_
                            refine n_of (N' := KK65) kk65 ?_
                            refine n_of (N' := NN64) nn64 ?_
                            refine c_seq fun NN66 nn66 => ?_
                            refine c_region fun KK67 kk67 => ?_
                            refine ⟨rfl, _, _, (s42 _ _ _ _ _ (by ((try dsimp only); first | assumption | omega | (simp (disch := omega) only [wr64]; omega))) (by ((try dsimp only); first | assumption | omega | (simp (disch := omega) only [wr64]; omega))) (by ((try dsimp only); first | assumption | omega | (simp (disch := omega) only [wr64]; omega)))), ?_⟩
                            refine n_of (N' := KK67) kk67 ?_
                            refine n_of (N' := NN66) nn66 ?_
                            refine c_seq fun NN68 nn68 => ?_
                            refine c_seq fun NN69 nn69 => ?_
                            refine c_region fun KK70 kk70 => ?_
                            refine n_of (N' := KK70) kk70 ?_
                            refine n_of (N' := NN69) nn69 ?_
                            refine c_cond rfl (fun h13 => ?_) (fun h13 => ?_)
                            · skip
                              (first | (cases h13; done) | exact bnn h13 | (have q := of_decide_eq_true h13; exfalso; omega) | exact absurd rfl (ne_of_bneT h13))
                            · skip
                              have q13 := of_decide_eq_false h13
                              (try dsimp only at q13)
                              (try simp only [Dat.len] at q13)
                              refine c_skip ?_
                              refine n_of (N' := NN68) nn68 ?_
                              refine c_seq fun NN71 nn71 => ?_
                              refine c_seq fun NN72 nn72 => ?_
                              refine c_region fun KK73 kk73 => ?_
                              refine n_of (N' := KK73) kk73 ?_
                              refine n_of (N' := NN72) nn72 ?_
                              refine c_cond rfl (fun h14 => ?_) (fun h14 => ?_)
                              · skip
                                (first | (cases h14; done) | exact bnn h14 | (have q := of_decide_eq_true h14; exfalso; omega) | exact absurd rfl (ne_of_bneT h14))
                              · skip
                                have q14 := eq_of_bneF h14
                                (try dsimp only at q14)
                                (try simp only [Dat.len] at q14)
                                refine c_skip ?_
                                refine n_of (N' := NN71) nn71 ?_
                                refine c_seq fun NN74 nn74 => ?_
                                refine c_region fun KK75 kk75 => ?_
                                refine n_of (N' := KK75) kk75 ?_
                                refine n_of (N' := NN74) nn74 ?_
                                refine c_ret ?_
                                refine n_of (N' := R0) hR ?_
                                exact ⟨[], rfl, rfl, rfl⟩

end
end Go.AX