/- What the functions of this program do, one contract a function, by that walk: each under what its own statement says. -/
import Derived.Test.YtojajegjmjmekaaB22
set_option linter.unusedVariables false
set_option linter.unusedSimpArgs false
namespace Go.AX
noncomputable section
open Go.RowKit Go.Proofs
set_option maxRecDepth 100000
set_option maxHeartbeats 4000000

/-! RunBasin -/
def rn (w h : Int) (xs : List Nat) (z r : Nat) (k : Int) : Nat → List Nat
  | 0 => xs
  | n + 1 => Rstep w h (rn w h xs z r k n) z r k
def rok (w h : Int) (xs : List Nat) (z r : Nat) (k : Int) : Nat → Bool
  | 0 => true
  | n + 1 => rok w h xs z r k n && okst w h (rn w h xs z r k n) z r k
def sqv (w h : Int) (xs : List Nat) (z r : Nat) (k : Int) (i : Nat) : Nat := acc gS (rn w h xs z r k (i + 1)) (rn w h xs z r k (i + 1)).length
def okrun (w h : Int) (xs : List Nat) (z r : Nat) (k m : Int) : Bool := (okcan w h xs z r k && inB m 0 16) && (rok w h xs z r k m.toNat && (bld (sqv w h xs z r k) m.toNat).all finB)
theorem rok_mono {w h : Int} {xs : List Nat} {z r : Nat} {k : Int} {j : Nat} (hj : rok w h xs z r k j = false) : ∀ {n : Nat}, j ≤ n → rok w h xs z r k n = false
  | 0, hn => by have : j = 0 := by omega
                subst this; exact hj
  | n + 1, hn => by
    by_cases he : j = n + 1
    · subst he; exact hj
    · rw [rok, rok_mono hj (show j ≤ n by omega)]; rfl
theorem okst_isB {w h : Int} {xs : List Nat} {z r : Nat} {k : Int} (h0 : okst w h xs z r k = true) : isB w h (Rstep w h xs z r k) = true := by
  unfold okst at h0
  simp only [Bool.and_eq_true] at h0
  exact spok_isB h0.2.2.2
theorem rn_isB {w h : Int} {xs : List Nat} {z r : Nat} {k : Int} (hb : isB w h xs = true) : ∀ {n : Nat}, rok w h xs z r k n = true → isB w h (rn w h xs z r k n) = true
  | 0, _ => hb
  | n + 1, h0 => by
    simp only [rok, Bool.and_eq_true] at h0
    exact okst_isB h0.2
theorem can_isB {w h : Int} {xs : List Nat} {z r : Nat} {k : Int} (h0 : okcan w h xs z r k = true) : isB w h xs = true := by
  unfold okcan at h0
  simp only [Bool.and_eq_true] at h0
  exact h0.1
theorem can_rn {w h : Int} {xs : List Nat} {z r : Nat} {k : Int} (hc : okcan w h xs z r k = true) {n : Nat} (h0 : rok w h xs z r k n = true) : okcan w h (rn w h xs z r k n) z r k = true := by
  have hb := rn_isB (can_isB hc) h0
  unfold okcan at hc ⊢
  simp only [Bool.and_eq_true] at hc ⊢
  exact ⟨hb, hc.2⟩
abbrev toldR (b : Bool) (w h : Int) (k k2 : Nat) : AV := .tup [bas (gI b w) (gI b h) k, .one (.sl k2), .one (.ex (.bool b))]

theorem s53 (o : Bool) (xs : List Nat) (w h : Int) (z r : Nat) (k m : Int) : SP 53 [ar o xs] [bas w h 0, f32 z, f32 r, i64 k, i64 m] [ar o xs, ar true (gR (okrun w h xs z r k m) (rn w h xs z r k m.toNat)), ar true (gR (okrun w h xs z r k m) (bld (sqv w h xs z r k) m.toNat))] (toldR (okrun w h xs z r k m) w h 1 2) := by
  refine spec_of_codeR (fn := Try.f53) tyOK mixes Try.func53 rfl rfl rfl ⟨.inl rfl, rfl⟩ fun hg R0 hR => ?_
  refine c_seq fun NN1 nn1 => ?_
  refine c_region fun KK2 kk2 => ?_
  refine n_of (N' := KK2) kk2 ?_
  refine n_of (N' := NN1) nn1 ?_
  refine c_seq fun NN3 nn3 => ?_
  refine c_seq fun NN4 nn4 => ?_
  refine c_region fun KK5 kk5 => ?_
  refine ⟨rfl, _, _, s97 _ _ _ _ _ _ _, ?_⟩
  refine And.intro (fun h0 => ?_) (fun h0 => ?_)
  · skip
    refine n_of (N' := KK5) kk5 ?_
    refine n_of (N' := NN4) nn4 ?_
    refine c_cond rfl (fun _ => ?_) (fun h => nomatch h)
    refine c_seq fun NN6 nn6 => ?_
    refine c_region fun KK7 kk7 => ?_
    refine n_of (N' := KK7) kk7 ?_
    refine n_of (N' := NN6) nn6 ?_
    refine c_ret ?_
    refine n_of (N' := R0) hR ?_
    have ok : okrun w h xs z r k m = false := by
      unfold okrun
      rw [not_t h0]; simp
    exact ⟨[.nil 32 (.f []), .nil 32 (.f [])], rfl, rfl, rfl, by rw [ok]; rfl, by rw [ok]; rfl⟩
  · skip
    have hc := not_f h0
    have hb := can_isB hc
    have hc2 := hc
    unfold okcan at hc2
    simp only [Bool.and_eq_true] at hc2
    have hk := inB_le hc2.2.2.2
    obtain ⟨K, rfl⟩ : ∃ K : Nat, k = K := ⟨k.toNat, by omega⟩
    have hlx := isB_pos hb
    refine ⟨rfl, _, _, (s104 _ _ _), ?_⟩
    refine n_of (N' := KK5) kk5 ?_
    refine n_of (N' := NN4) nn4 ?_
    refine c_cond rfl (fun h1 => ?_) (fun h1 => ?_)
    · skip
      refine c_seq fun NN8 nn8 => ?_
      refine c_region fun KK9 kk9 => ?_
      refine n_of (N' := KK9) kk9 ?_
      refine n_of (N' := NN8) nn8 ?_
      refine c_ret ?_
      refine n_of (N' := R0) hR ?_
      have ok : okrun w h xs z r (K : Int) m = false := by
        unfold okrun
        rw [not_t h1]; simp
      exact ⟨[.nil 32 (.f []), .nil 32 (.f [])], rfl, rfl, rfl, by rw [ok]; rfl, by rw [ok]; rfl⟩
    · skip
      have hmm := not_f h1
      have hm := inB_le (not_f h1)
      obtain ⟨M, rfl⟩ : ∃ M : Nat, m = M := ⟨m.toNat, by omega⟩
      refine c_skip ?_
      refine n_of (N' := NN3) nn3 ?_
      refine c_seq fun NN10 nn10 => ?_
      refine c_region fun KK11 kk11 => ?_
      refine ⟨rfl, _, _, s113 _ _ _ _ (by omega), ?_⟩
      refine n_of (N' := KK11) kk11 ?_
      refine n_of (N' := NN10) nn10 ?_
      refine c_seq fun NN12 nn12 => ?_
      refine c_region fun KK13 kk13 => ?_
      refine n_of (N' := KK13) kk13 ?_
      refine n_of (N' := NN12) nn12 ?_
      refine c_seq fun NN14 nn14 => ?_
      refine c_seq fun NN15 nn15 => ?_
      refine c_region fun KK16 kk16 => ?_
      refine n_of (N' := KK16) kk16 ?_
      refine n_of (N' := NN15) nn15 ?_
      refine c_block fun XX17 xx17 => ?_
      refine loop_keep [] [1, 2, 3, 4, 10, 13] (ι := { j : Nat // j ≤ M ∧ rok w h xs z r K j = true ∧ ∀ i, i < j → finB (sqv w h xs z r K i) = true }) (fun i => [(15, exi .i64 i.1), (14, one (.sl 5))]) (fun i => [(3, ar true (rn w h xs z r K i.1)), (5, ar true (bld (sqv w h xs z r K) i.1))]) (fun j => M - j.1) ⟨0, Nat.zero_le _, rfl, fun i hi => absurd hi (Nat.not_lt_zero i)⟩ trivial rfl ?_
      refine ⟨?_, ?_, ?_⟩
      · exact ⟨.inr rfl, .inr rfl, trivial⟩
      · exact ⟨rfl, rfl, rfl, rfl, rfl, rfl, trivial⟩
      refine fun ⟨j, hjM, hj, hx⟩ NL18 nl18 => ?_
      refine c_norm rfl rfl ?_
      refine c_seq fun NN19 nn19 => ?_
      refine c_seq fun NN20 nn20 => ?_
      refine c_region fun KK21 kk21 => ?_
      refine n_of (N' := KK21) kk21 ?_
      refine n_of (N' := NN20) nn20 ?_
      refine c_cond rfl (fun h2 => ?_) (fun h2 => ?_)
      · skip
        have q2 := of_decide_eq_true h2
        (try dsimp only at q2)
        (try simp only [Dat.len, bld_len, List.length_cons, List.length_nil] at q2)
        refine c_skip ?_
        refine n_of (N' := NN19) nn19 ?_
        refine c_seq fun NN22 nn22 => ?_
        refine c_block fun XX23 xx23 => ?_
        refine c_seq fun NN24 nn24 => ?_
        refine c_region fun KK25 kk25 => ?_
        refine ⟨rfl, _, _, s98 _ _ _ _ _ _ K (rn_isB hb hj) (by omega), ?_⟩
        refine n_of (N' := KK25) kk25 ?_
        refine n_of (N' := NN24) nn24 ?_
        refine c_seq fun NN26 nn26 => ?_
        refine c_seq fun NN27 nn27 => ?_
        refine c_region fun KK28 kk28 => ?_
        refine n_of (N' := KK28) kk28 ?_
        refine n_of (N' := NN27) nn27 ?_
        refine c_cond rfl (fun h3 => ?_) (fun h3 => ?_)
        · skip
          refine c_seq fun NN29 nn29 => ?_
          refine c_region fun KK30 kk30 => ?_
          refine n_of (N' := KK30) kk30 ?_
          refine n_of (N' := NN29) nn29 ?_
          refine c_ret ?_
          refine n_of (N' := R0) hR ?_
          have ok : okrun w h xs z r (K : Int) (M : Int) = false := by
            unfold okrun
            rw [Int.toNat_natCast, rok_mono (j := j + 1) (by show (rok w h xs z r K j && okst w h (rn w h xs z r K j) z r K) = false; rw [not_t h3, Bool.and_false]) (by omega)]; simp
          exact ⟨[.nil 32 (.f []), .nil 32 (.f [])], rfl, rfl, rfl, by rw [ok]; rfl, by rw [ok]; rfl⟩
        · skip
          have hs := not_f h3
          rw [hs, gI_t, gI_t, gR_t]
          refine c_skip ?_
          refine n_of (N' := NN26) nn26 ?_
          refine c_seq fun NN31 nn31 => ?_
          refine c_region fun KK32 kk32 => ?_
          refine n_of (N' := KK32) kk32 ?_
          refine n_of (N' := NN31) nn31 ?_
          refine c_seq fun NN33 nn33 => ?_
          refine c_region fun KK34 kk34 => ?_
          refine ⟨rfl, _, _, s86 _ _ _ _, ?_⟩
          refine n_of (N' := KK34) kk34 ?_
          refine n_of (N' := NN33) nn33 ?_
          refine c_seq fun NN35 nn35 => ?_
          refine c_seq fun NN36 nn36 => ?_
          refine c_region fun KK37 kk37 => ?_
          refine ⟨rfl, _, _, (s107 _), ?_⟩
          refine n_of (N' := KK37) kk37 ?_
          refine n_of (N' := NN36) nn36 ?_
          refine c_cond rfl (fun h4 => ?_) (fun h4 => ?_)
          · skip
            refine c_seq fun NN38 nn38 => ?_
            refine c_region fun KK39 kk39 => ?_
            refine n_of (N' := KK39) kk39 ?_
            refine n_of (N' := NN38) nn38 ?_
            refine c_ret ?_
            refine n_of (N' := R0) hR ?_
            have ok : okrun w h xs z r (K : Int) (M : Int) = false := by
              unfold okrun
              rw [Int.toNat_natCast, bld_not j (by omega) (not_t h4)]; simp
            exact ⟨[.nil 32 (.f []), .nil 32 (.f [])], rfl, rfl, rfl, by rw [ok]; rfl, by rw [ok]; rfl⟩
          · skip
            have hq := not_f h4
            refine c_skip ?_
            refine n_of (N' := NN35) nn35 ?_
            refine c_region fun KK40 kk40 => ?_
            refine And.intro ?_ ?_
            · (refine ⟨?_, by decide⟩; (try dsimp only); (try simp only [Dat.len, Int.toNat_natCast, bld_len, List.length_cons, List.length_nil]); omega)   -- 0 append
            refine n_of (N' := KK40) kk40 ?_
            refine n_of (N' := NN22) nn22 ?_
            refine c_region fun KK41 kk41 => ?_
            refine n_of (N' := KK41) kk41 ?_
            refine n_of (N' := NL18) nl18 ?_
            refine ⟨⟨j + 1, by omega, by show (rok w h xs z r K j && okst w h (rn w h xs z r K j) z r K) = true; rw [hj, hs]; rfl, fun i hi => (Nat.lt_or_eq_of_le (Nat.le_of_lt_succ hi)).elim (hx i) (fun e => by subst e; exact hq)⟩, ?_, [0, 1, 2, 6, 4, 5], rfl, ?_, ?_⟩
            · (dsimp only; omega)
            · exact LEq.eq ⟨rfl, rfl, rfl, rfl, rfl, rfl, trivial⟩
            · exact ⟨.inr (congrArg (exi .i64) (wr64 (n := (j : Int) + 1) (by omega) (by omega))), .inr rfl, .inr rfl, .inr rfl, .inr rfl, .inr rfl, .inr rfl, .inr rfl, trivial⟩
      · skip
        have q2 := of_decide_eq_false h2
        (try dsimp only at q2)
        (try simp only [Dat.len, bld_len, List.length_cons, List.length_nil] at q2)
        refine c_exit ?_
        refine x_here xx17 ?_
        refine n_of (N' := NN14) nn14 ?_
        refine c_seq fun NN42 nn42 => ?_
        refine c_region fun KK43 kk43 => ?_
        refine n_of (N' := KK43) kk43 ?_
        refine n_of (N' := NN42) nn42 ?_
        refine c_ret ?_
        refine n_of (N' := R0) hR ?_
        have e : j = M := by omega
        subst e
        have ok : okrun w h xs z r (K : Int) (j : Int) = true := by
          unfold okrun
          rw [Int.toNat_natCast, hc, hmm, hj, bld_all hx]; rfl
        exact ⟨[], rfl, by rw [ok]; rfl, by rw [ok]; rfl⟩

theorem s54 (o : Bool) (xs : List Nat) (w h : Int) (z r : Nat) (k m : Int) : SP 54 [ar o xs] [bas w h 0, f32 z, f32 r, i64 k, i64 m] [ar o xs, ar true (gR (okrun w h xs z r k m) (rn w h xs z r k m.toNat)), ar true (gR (okrun w h xs z r k m) (bld (sqv w h xs z r k) m.toNat))] (toldR (okrun w h xs z r k m) w h 1 2) := by
  refine spec_of_codeR (fn := Try.f54) tyOK mixes Try.func54 rfl rfl rfl ⟨.inl rfl, rfl⟩ fun hg R0 hR => ?_
  refine c_seq fun NN1 nn1 => ?_
  refine c_region fun KK2 kk2 => ?_
  refine n_of (N' := KK2) kk2 ?_
  refine n_of (N' := NN1) nn1 ?_
  refine c_seq fun NN3 nn3 => ?_
  refine c_region fun KK4 kk4 => ?_
  refine ⟨rfl, _, _, s101at _ _ _ _, ?_⟩
  refine n_of (N' := KK4) kk4 ?_
  refine n_of (N' := NN3) nn3 ?_
  refine c_seq fun NN5 nn5 => ?_
  refine c_seq fun NN6 nn6 => ?_
  refine c_region fun KK7 kk7 => ?_
  refine And.intro (fun h0 => ?_) (fun h0 => ?_)
  · skip
    refine And.intro (fun _ => ?_) (fun h => nomatch h)
    refine And.intro (fun _ => ?_) (fun h => nomatch h)
    refine n_of (N' := KK7) kk7 ?_
    refine n_of (N' := NN6) nn6 ?_
    refine c_cond rfl (fun _ => ?_) (fun h => nomatch h)
    refine c_seq fun NN8 nn8 => ?_
    refine c_region fun KK9 kk9 => ?_
    refine n_of (N' := KK9) kk9 ?_
    refine n_of (N' := NN8) nn8 ?_
    refine c_ret ?_
    refine n_of (N' := R0) hR ?_
    have q := not_t h0
    rw [okat] at q
    have ok : okrun w h xs z r k m = false := by
      unfold okrun
      unfold okcan; rw [q]; rfl
    exact ⟨[.nil 32 (.f []), .nil 32 (.f [])], rfl, rfl, rfl, by rw [ok]; rfl, by rw [ok]; rfl⟩
  · skip
    have hb : isB w h xs = true := by have q := not_f h0; rw [okat] at q; exact q
    rw [okat, Rat, hb, gI_t, gI_t, gR_t]
    refine ⟨rfl, _, _, s82 _ _, ?_⟩
    refine And.intro (fun h1 => ?_) (fun h1 => ?_)
    · skip
      refine And.intro (fun _ => ?_) (fun h => nomatch h)
      refine n_of (N' := KK7) kk7 ?_
      refine n_of (N' := NN6) nn6 ?_
      refine c_cond rfl (fun _ => ?_) (fun h => nomatch h)
      refine c_seq fun NN10 nn10 => ?_
      refine c_region fun KK11 kk11 => ?_
      refine n_of (N' := KK11) kk11 ?_
      refine n_of (N' := NN10) nn10 ?_
      refine c_ret ?_
      refine n_of (N' := R0) hR ?_
      have q := not_t h1
      simp only [List.all_cons, List.all_nil, Bool.and_true] at q
      have ok : okrun w h xs z r k m = false := by
        unfold okrun
        have q2 : (finB z && (finB r && inB k 0 200)) = false := by rw [← Bool.and_assoc, q]; rfl
        unfold okcan; rw [q2]; simp
      exact ⟨[.nil 32 (.f []), .nil 32 (.f [])], rfl, rfl, rfl, by rw [ok]; rfl, by rw [ok]; rfl⟩
    · skip
      have hzr := not_f h1
      simp only [List.all_cons, List.all_nil, Bool.and_true] at hzr
      refine ⟨rfl, _, _, (s105 _ _ _), ?_⟩
      refine And.intro (fun h2 => ?_) (fun h2 => ?_)
      · skip
        refine n_of (N' := KK7) kk7 ?_
        refine n_of (N' := NN6) nn6 ?_
        refine c_cond rfl (fun _ => ?_) (fun h => nomatch h)
        refine c_seq fun NN12 nn12 => ?_
        refine c_region fun KK13 kk13 => ?_
        refine n_of (N' := KK13) kk13 ?_
        refine n_of (N' := NN12) nn12 ?_
        refine c_ret ?_
        refine n_of (N' := R0) hR ?_
        have ok : okrun w h xs z r k m = false := by
          unfold okrun
          unfold okcan; rw [not_t h2]; simp
        exact ⟨[.nil 32 (.f []), .nil 32 (.f [])], rfl, rfl, rfl, by rw [ok]; rfl, by rw [ok]; rfl⟩
      · skip
        have hk0 := not_f h2
        refine ⟨rfl, _, _, (s105 _ _ _), ?_⟩
        refine n_of (N' := KK7) kk7 ?_
        refine n_of (N' := NN6) nn6 ?_
        refine c_cond rfl (fun h3 => ?_) (fun h3 => ?_)
        · skip
          refine c_seq fun NN14 nn14 => ?_
          refine c_region fun KK15 kk15 => ?_
          refine n_of (N' := KK15) kk15 ?_
          refine n_of (N' := NN14) nn14 ?_
          refine c_ret ?_
          refine n_of (N' := R0) hR ?_
          have ok : okrun w h xs z r k m = false := by
            unfold okrun
            rw [not_t h3]; simp
          exact ⟨[.nil 32 (.f []), .nil 32 (.f [])], rfl, rfl, rfl, by rw [ok]; rfl, by rw [ok]; rfl⟩
        · skip
          have hmm := not_f h3
          have hm := inB_le (not_f h3)
          obtain ⟨M, rfl⟩ : ∃ M : Nat, m = M := ⟨m.toNat, by omega⟩
          have hc : okcan w h xs z r k = true := by
            unfold okcan
            simp only [Bool.and_eq_true] at hzr ⊢
            exact ⟨hb, hzr.1, hzr.2, hk0⟩
          refine c_skip ?_
          refine n_of (N' := NN5) nn5 ?_
          refine c_seq fun NN16 nn16 => ?_
          refine c_region fun KK17 kk17 => ?_
          refine n_of (N' := KK17) kk17 ?_
          refine n_of (N' := NN16) nn16 ?_
          refine c_seq fun NN18 nn18 => ?_
          refine c_seq fun NN19 nn19 => ?_
          refine c_region fun KK20 kk20 => ?_
          refine n_of (N' := KK20) kk20 ?_
          refine n_of (N' := NN19) nn19 ?_
          refine c_block fun XX21 xx21 => ?_
          refine loop_keep [] [1, 2, 3, 10, 13, 43] (ι := { j : Nat // j ≤ M ∧ rok w h xs z r k j = true }) (fun i => [(44, exi .i64 i.1), (15, one (.sl 6)), (14, exb true)]) (fun i => [(3, ar true (rn w h xs z r k i.1)), (6, ar true (bld (sqv w h xs z r k) i.1))]) (fun j => M - j.1) ⟨0, Nat.zero_le _, rfl⟩ trivial rfl ?_
          refine ⟨?_, ?_, ?_⟩
          · exact ⟨.inr rfl, .inr rfl, .inr rfl, trivial⟩
          · exact ⟨rfl, rfl, rfl, rfl, rfl, rfl, rfl, trivial⟩
          refine fun ⟨j, hjM, hj⟩ NL22 nl22 => ?_
          refine c_norm rfl rfl ?_
          refine c_seq fun NN23 nn23 => ?_
          refine c_region fun KK24 kk24 => ?_
          refine n_of (N' := KK24) kk24 ?_
          refine n_of (N' := NN23) nn23 ?_
          refine c_seq fun NN25 nn25 => ?_
          refine c_cond rfl (fun h4 => ?_) (fun h4 => ?_)
          · skip
            have q4 := of_decide_eq_true h4
            (try dsimp only at q4)
            (try simp only [Dat.len, bld_len, List.length_cons, List.length_nil] at q4)
            refine c_skip ?_
            refine n_of (N' := NN25) nn25 ?_
            refine c_seq fun NN26 nn26 => ?_
            refine c_block fun XX27 xx27 => ?_
            refine c_seq fun NN28 nn28 => ?_
            refine c_seq fun NN29 nn29 => ?_
            refine c_region fun KK30 kk30 => ?_
            refine ⟨rfl, _, _, s44 _ _ _ _ _ _ _, ?_⟩
            refine n_of (N' := KK30) kk30 ?_
            refine n_of (N' := NN29) nn29 ?_
            refine c_seq fun NN31 nn31 => ?_
            refine c_region fun KK32 kk32 => ?_
            refine n_of (N' := KK32) kk32 ?_
            refine n_of (N' := NN31) nn31 ?_
            refine c_cond rfl (fun h5 => ?_) (fun h5 => ?_)
            · skip
              refine c_seq fun NN33 nn33 => ?_
              refine c_region fun KK34 kk34 => ?_
              refine n_of (N' := KK34) kk34 ?_
              refine n_of (N' := NN33) nn33 ?_
              refine c_ret ?_
              refine n_of (N' := R0) hR ?_
              have q := not_t h5
              have q2 : okst w h (rn w h xs z r k j) z r k = false := by unfold okstep at q; rw [can_rn hc hj] at q; exact q
              have ok : okrun w h xs z r k (M : Int) = false := by
                unfold okrun
                rw [Int.toNat_natCast, rok_mono (j := j + 1) (by show (rok w h xs z r k j && okst w h (rn w h xs z r k j) z r k) = false; rw [q2, Bool.and_false]) (by omega)]; simp
              exact ⟨[.nil 32 (.f []), .nil 32 (.f [])], rfl, rfl, rfl, by rw [ok]; rfl, by rw [ok]; rfl⟩
            · skip
              have hs0 := not_f h5
              rw [hs0, gI_t, gI_t, gR_t]
              have hs : okst w h (rn w h xs z r k j) z r k = true := by have q := hs0; unfold okstep at q; rw [can_rn hc hj] at q; exact q
              refine c_skip ?_
              refine n_of (N' := NN28) nn28 ?_
              refine c_region fun KK35 kk35 => ?_
              refine ⟨rfl, _, _, s88 _ _, ?_⟩
              refine And.intro ?_ ?_
              · (refine ⟨?_, by decide⟩; (try dsimp only); (try simp only [Dat.len, Int.toNat_natCast, bld_len, List.length_cons, List.length_nil]); omega)   -- 0 append
              refine n_of (N' := KK35) kk35 ?_
              refine n_of (N' := NN26) nn26 ?_
              refine c_region fun KK36 kk36 => ?_
              refine n_of (N' := KK36) kk36 ?_
              refine n_of (N' := NL22) nl22 ?_
              refine ⟨⟨j + 1, by omega, by show (rok w h xs z r k j && okst w h (rn w h xs z r k j) z r k) = true; rw [hj, hs]; rfl⟩, ?_, [0, 1, 2, 7, 4, 5, 6], rfl, ?_, ?_⟩
              · (dsimp only; omega)
              · exact LEq.eq ⟨rfl, rfl, rfl, rfl, rfl, rfl, rfl, trivial⟩
              · exact ⟨.inr (congrArg (exi .i64) (wr64 (n := (j : Int) + 1) (by omega) (by omega))), .inr rfl, .inr rfl, .inr rfl, .inr rfl, .inr rfl, .inr rfl, .inr rfl, .inr rfl, trivial⟩
          · skip
            have q4 := of_decide_eq_false h4
            (try dsimp only at q4)
            (try simp only [Dat.len, bld_len, List.length_cons, List.length_nil] at q4)
            refine c_exit ?_
            refine x_here xx21 ?_
            refine n_of (N' := NN18) nn18 ?_
            refine c_seq fun NN37 nn37 => ?_
            refine c_seq fun NN38 nn38 => ?_
            refine c_region fun KK39 kk39 => ?_
            refine ⟨rfl, _, _, s82 _ _, ?_⟩
            refine n_of (N' := KK39) kk39 ?_
            refine n_of (N' := NN38) nn38 ?_
            refine c_cond rfl (fun h5 => ?_) (fun h5 => ?_)
            · skip
              refine c_seq fun NN40 nn40 => ?_
              refine c_region fun KK41 kk41 => ?_
              refine n_of (N' := KK41) kk41 ?_
              refine n_of (N' := NN40) nn40 ?_
              refine c_ret ?_
              refine n_of (N' := R0) hR ?_
              have e : j = M := by omega
              subst e
              have ok : okrun w h xs z r k (j : Int) = false := by
                unfold okrun
                rw [Int.toNat_natCast, not_t h5]; simp
              exact ⟨[.nil 32 (.f []), .nil 32 (.f [])], rfl, rfl, rfl, by rw [ok]; rfl, by rw [ok]; rfl⟩
            · skip
              refine c_skip ?_
              refine n_of (N' := NN37) nn37 ?_
              refine c_seq fun NN42 nn42 => ?_
              refine c_region fun KK43 kk43 => ?_
              refine n_of (N' := KK43) kk43 ?_
              refine n_of (N' := NN42) nn42 ?_
              refine c_ret ?_
              refine n_of (N' := R0) hR ?_
              have e : j = M := by omega
              subst e
              have ok : okrun w h xs z r k (j : Int) = true := by
                unfold okrun
                rw [Int.toNat_natCast, hc, hmm, hj, not_f h5]; rfl
              exact ⟨[], rfl, by rw [ok]; rfl, by rw [ok]; rfl⟩

theorem s14 (o : Bool) (xs : List Nat) (w h : Int) (z r : Nat) (k m : Int) : SP 14 [ar o xs] [bas w h 0, f32 z, f32 r, i64 k, i64 m] [ar o xs] (exb true) := by
  refine spec_of_codeR (fn := Try.f14) tyOK mixes Try.func14 rfl rfl rfl ⟨.inl rfl, rfl⟩ fun hg R0 hR => ?_
  have hR1 : (gR (okrun w h xs z r k m) (rn w h xs z r k m.toNat)).length ≤ 256 := gR_len fun hb => isB_len256 (w := w) (h := h) (by unfold okrun at hb; simp only [Bool.and_eq_true] at hb; exact rn_isB (can_isB hb.1.1) hb.2.1)
  have hR2 : (gR (okrun w h xs z r k m) (bld (sqv w h xs z r k) m.toNat)).length ≤ 256 := gR_len fun hb => by
    unfold okrun at hb
    simp only [Bool.and_eq_true] at hb
    have := inB_le hb.1.2
    rw [bld_len]; omega
  refine c_seq fun NN1 nn1 => ?_
  refine c_region fun KK2 kk2 => ?_
  refine n_of (N' := KK2) kk2 ?_
  refine n_of (N' := NN1) nn1 ?_
  refine c_seq fun NN3 nn3 => ?_
  refine c_region fun KK4 kk4 => ?_
  refine n_of (N' := KK4) kk4 ?_
  refine n_of (N' := NN3) nn3 ?_
  refine c_seq fun NN5 nn5 => ?_
  refine c_region fun KK6 kk6 => ?_
  refine ⟨rfl, _, _, (s25 _ _ _ _ _), ?_⟩
  refine n_of (N' := KK6) kk6 ?_
  refine n_of (N' := NN5) nn5 ?_
  refine c_seq fun NN7 nn7 => ?_
  refine c_seq fun NN8 nn8 => ?_
  refine c_region fun KK9 kk9 => ?_
  refine n_of (N' := KK9) kk9 ?_
  refine n_of (N' := NN8) nn8 ?_
  refine c_cond rfl (fun h0 => ?_) (fun h0 => ?_)
  · skip
    have q0 := of_decide_eq_true h0
    (try dsimp only at q0)
    (try simp only [Dat.len] at q0)
    refine c_seq fun NN10 nn10 => ?_
    refine c_region fun KK11 kk11 => ?_
    refine n_of (N' := KK11) kk11 ?_
    refine n_of (N' := NN10) nn10 ?_
    refine c_ret ?_
    refine n_of (N' := R0) hR ?_
    exact ⟨[], rfl, rfl, rfl⟩
  · skip
    have q0 := of_decide_eq_false h0
    (try dsimp only at q0)
    (try simp only [Dat.len] at q0)
    have hn : xs.length ≤ 1048576 := sz_le h0 hg.1.1.1
    refine c_skip ?_
    refine n_of (N' := NN7) nn7 ?_
    refine c_seq fun NN12 nn12 => ?_
    refine c_region fun KK13 kk13 => ?_
    refine ⟨rfl, _, _, (s27 _ _ (by ((try dsimp only); first | assumption | omega | (simp (disch := omega) only [wr64]; omega))) _ _), ?_⟩
    refine ⟨rfl, _, _, (s53 _ _ _ _ _ _ _ _), ?_⟩
    refine n_of (N' := KK13) kk13 ?_
    refine n_of (N' := NN12) nn12 ?_
    refine c_seq fun NN14 nn14 => ?_
    refine c_region fun KK15 kk15 => ?_
    refine ⟨rfl, _, _, (s27 _ _ (by ((try dsimp only); first | assumption | omega | (simp (disch := omega) only [wr64]; omega))) _ _), ?_⟩
    refine n_of (N' := KK15) kk15 ?_
    refine n_of (N' := NN14) nn14 ?_
    refine c_seq fun NN16 nn16 => ?_
    refine c_region fun KK17 kk17 => ?_
    refine ⟨rfl, _, _, (s54 _ _ _ _ _ _ _ _), ?_⟩
    refine n_of (N' := KK17) kk17 ?_
    refine n_of (N' := NN16) nn16 ?_
    refine c_seq fun NN18 nn18 => ?_
    refine c_seq fun NN19 nn19 => ?_
    refine c_region fun KK20 kk20 => ?_
    refine ⟨rfl, _, _, (s29 _ _ _ _ _), ?_⟩
    refine And.intro (fun h1 => ?_) (fun h1 => ?_)
    · skip
      (first | (cases h1; done) | exact bnn h1 | (have q := of_decide_eq_true h1; exfalso; omega) | exact absurd rfl (ne_of_bneT h1))
    · skip
      refine ⟨rfl, _, _, (s55 _ _ _), ?_⟩
      refine And.intro (fun h2 => ?_) (fun h2 => ?_)
      · skip
        (first | (cases h2; done) | exact bnn h2 | (have q := of_decide_eq_true h2; exfalso; omega) | exact absurd rfl (ne_of_bneT h2))
      · skip
        refine n_of (N' := KK20) kk20 ?_
        refine n_of (N' := NN19) nn19 ?_
        refine c_cond rfl (fun h3 => ?_) (fun h3 => ?_)
        · skip
          (first | (cases h3; done) | exact bnn h3 | (have q := of_decide_eq_true h3; exfalso; omega) | exact absurd rfl (ne_of_bneT h3))
        · skip
          refine c_skip ?_
          refine n_of (N' := NN18) nn18 ?_
          refine c_seq fun NN21 nn21 => ?_
          refine c_seq fun NN22 nn22 => ?_
          refine c_draw 3 [0, 1, 2] (by kernel_rfl) fun KK23 kk23 => ?_
          refine ⟨rfl, _, _, (s27 _ _ (by ((try dsimp only); first | assumption | omega | (simp (disch := omega) only [wr64]; omega))) _ _), rfl, ?_⟩
          refine ⟨rfl, _, _, (s29 _ _ _ _ _), ?_⟩
          refine n_of (N' := KK23) kk23 ?_
          refine n_of (N' := NN22) nn22 ?_
          refine c_cond rfl (fun h4 => ?_) (fun h4 => ?_)
          · skip
            (first | (cases h4; done) | exact bnn h4 | (have q := of_decide_eq_true h4; exfalso; omega) | exact absurd rfl (ne_of_bneT h4))
          · skip
            refine c_skip ?_
            refine n_of (N' := NN21) nn21 ?_
            refine c_seq fun NN24 nn24 => ?_
            refine c_region fun KK25 kk25 => ?_
            refine n_of (N' := KK25) kk25 ?_
            refine n_of (N' := NN24) nn24 ?_
            refine c_seq fun NN26 nn26 => ?_
            refine c_region fun KK27 kk27 => ?_
            refine ⟨rfl, _, _, (s41 _ _ _ _ (by ((try dsimp only); first | assumption | omega | (simp (disch := omega) only [wr64]; omega))) (by ((try dsimp only); first | assumption | omega | (simp (disch := omega) only [wr64]; omega))) (by ((try dsimp only); first | assumption | omega | (simp (disch := omega) only [wr64]; omega)))), ?_⟩
            refine n_of (N' := KK27) kk27 ?_
            refine n_of (N' := NN26) nn26 ?_
            refine c_seq fun NN28 nn28 => ?_
            refine c_seq fun NN29 nn29 => ?_
            refine c_region fun KK30 kk30 => ?_
            refine And.intro (fun h5 => ?_) (fun h5 => ?_)
            · skip
              (first | (cases h5; done) | exact bnn h5 | (have q := of_decide_eq_true h5; exfalso; omega) | exact absurd rfl (ne_of_bneT h5))
            · skip
              have q5 := of_decide_eq_false h5
              (try dsimp only at q5)
              (try simp only [Dat.len] at q5)
              refine ⟨rfl, _, _, (s29 _ _ _ _ _), ?_⟩
              refine And.intro (fun h6 => ?_) (fun h6 => ?_)
              · skip
                (first | (cases h6; done) | exact bnn h6 | (have q := of_decide_eq_true h6; exfalso; omega) | exact absurd rfl (ne_of_bneT h6))
              · skip
                refine ⟨rfl, _, _, (s55 _ _ _), ?_⟩
                refine And.intro (fun h7 => ?_) (fun h7 => ?_)
                · skip
                  (first | (cases h7; done) | exact bnn h7 | (have q := of_decide_eq_true h7; exfalso; omega) | exact absurd rfl (ne_of_bneT h7))
                · skip
                  refine n_of (N' := KK30) kk30 ?_
                  refine n_of (N' := NN29) nn29 ?_
                  refine c_cond rfl (fun h8 => ?_) (fun h8 => ?_)
                  · skip
                    (first | (cases h8; done) | exact bnn h8 | (have q := of_decide_eq_true h8; exfalso; omega) | exact absurd rfl (ne_of_bneT h8))
                  · skip
                    refine c_skip ?_
                    refine n_of (N' := NN28) nn28 ?_
                    refine c_seq fun NN31 nn31 => ?_
                    refine c_region fun KK32 kk32 => ?_
                    refine n_of (N' := KK32) kk32 ?_
                    refine n_of (N' := NN31) nn31 ?_
                    refine c_seq fun NN33 nn33 => ?_
                    refine c_region fun KK34 kk34 => ?_
                    refine ⟨rfl, _, _, (s41 _ _ _ _ (by ((try dsimp only); first | assumption | omega | (simp (disch := omega) only [wr64]; omega))) (by ((try dsimp only); first | assumption | omega | (simp (disch := omega) only [wr64]; omega))) (by ((try dsimp only); first | assumption | omega | (simp (disch := omega) only [wr64]; omega)))), ?_⟩
                    refine n_of (N' := KK34) kk34 ?_
                    refine n_of (N' := NN33) nn33 ?_
                    refine c_seq fun NN35 nn35 => ?_
                    refine c_region fun KK36 kk36 => ?_
                    refine ⟨rfl, _, _, (s56 _ _ (by ((try dsimp only); first | assumption | omega | (simp (disch := omega) only [wr64]; omega))) (by ((try dsimp only); first | assumption | omega | (simp (disch := omega) only [wr64]; omega))) (by ((try dsimp only); first | assumption | omega | (simp (disch := omega) only [wr64]; omega)))), ?_⟩
                    refine n_of (N' := KK36) kk36 ?_
                    refine n_of (N' := NN35) nn35 ?_
                    refine c_seq fun NN37 nn37 => ?_
                    refine c_region fun KK38 kk38 => ?_
                    refine n_of (N' := KK38) kk38 ?_
                    refine n_of (N' := NN37) nn37 ?_
                    refine c_seq fun NN39 nn39 => ?_
                    refine c_region fun KK40 kk40 => ?_
                    refine ⟨rfl, _, _, (s42 _ _ _ _ _ (by ((try dsimp only); first | assumption | omega | (simp (disch := omega) only [wr64]; omega))) (by ((try dsimp only); first | assumption | omega | (simp (disch := omega) only [wr64]; omega))) (by ((try dsimp only); first | assumption | omega | (simp (disch := omega) only [wr64]; omega)))), ?_⟩
                    refine n_of (N' := KK40) kk40 ?_
                    refine n_of (N' := NN39) nn39 ?_
                    refine c_seq fun NN41 nn41 => ?_
                    refine c_seq fun NN42 nn42 => ?_
                    refine c_region fun KK43 kk43 => ?_
                    refine n_of (N' := KK43) kk43 ?_
                    refine n_of (N' := NN42) nn42 ?_
                    refine c_cond rfl (fun h9 => ?_) (fun h9 => ?_)
                    · skip
                      (first | (cases h9; done) | exact bnn h9 | (have q := of_decide_eq_true h9; exfalso; omega) | exact absurd rfl (ne_of_bneT h9))
                    · skip
                      have q9 := of_decide_eq_false h9
                      (try dsimp only at q9)
                      (try simp only [Dat.len] at q9)
                      refine c_skip ?_
                      refine n_of (N' := NN41) nn41 ?_
                      refine c_seq fun NN44 nn44 => ?_
                      refine c_region fun KK45 kk45 => ?_
                      refine ⟨rfl, _, _, (s57 _ _ _ (by ((try dsimp only); first | assumption | omega | (simp (disch := omega) only [wr64]; omega))) (by ((try dsimp only); first | assumption | omega | (simp (disch := omega) only [wr64]; omega))) (by ((try dsimp only); first | assumption | omega | (simp (disch := omega) only [wr64]; omega)))), ?_⟩
                      refine n_of (N' := KK45) kk45 ?_
                      refine n_of (N' := NN44) nn44 ?_
                      refine c_seq fun NN46 nn46 => ?_
                      refine c_seq fun NN47 nn47 => ?_
                      refine c_region fun KK48 kk48 => ?_
                      refine n_of (N' := KK48) kk48 ?_
                      refine n_of (N' := NN47) nn47 ?_
                      refine c_cond rfl (fun h10 => ?_) (fun h10 => ?_)
                      · skip
                        (first | (cases h10; done) | exact bnn h10 | (have q := of_decide_eq_true h10; exfalso; omega) | exact absurd rfl (ne_of_bneT h10))
                      · skip
                        have q10 := of_decide_eq_false h10
                        (try dsimp only at q10)
                        (try simp only [Dat.len] at q10)
                        refine c_skip ?_
                        refine n_of (N' := NN46) nn46 ?_
                        refine c_seq fun NN49 nn49 => ?_
                        refine c_seq fun NN50 nn50 => ?_
                        refine c_region fun KK51 kk51 => ?_
                        refine n_of (N' := KK51) kk51 ?_
                        refine n_of (N' := NN50) nn50 ?_
                        refine c_cond rfl (fun h11 => ?_) (fun h11 => ?_)
                        · skip
                          (first | (cases h11; done) | exact bnn h11 | (have q := of_decide_eq_true h11; exfalso; omega) | exact absurd rfl (ne_of_bneT h11))
                        · skip
                          have q11 := eq_of_bneF h11
                          (try dsimp only at q11)
                          (try simp only [Dat.len] at q11)
                          refine c_skip ?_
                          refine n_of (N' := NN49) nn49 ?_
                          refine c_seq fun NN52 nn52 => ?_
                          refine c_region fun KK53 kk53 => ?_
                          refine ⟨rfl, _, _, (s27 _ _ (by ((try dsimp only); first | assumption | omega | (simp (disch := omega) only [wr64]; omega))) _ _), ?_⟩
                          refine ⟨rfl, _, _, (s54 _ _ _ _ _ _ _ _), ?_⟩
                          refine n_of (N' := KK53) kk53 ?_
                          refine n_of (N' := NN52) nn52 ?_
                          refine c_seq fun NN54 nn54 => ?_
                          refine c_seq fun NN55 nn55 => ?_
                          refine c_region fun KK56 kk56 => ?_
                          refine ⟨rfl, _, _, (s29 _ _ _ _ _), ?_⟩
                          refine And.intro (fun h12 => ?_) (fun h12 => ?_)
                          · skip
                            (first | (cases h12; done) | exact bnn h12 | (have q := of_decide_eq_true h12; exfalso; omega) | exact absurd rfl (ne_of_bneT h12))
                          · skip
                            refine ⟨rfl, _, _, (s55 _ _ _), ?_⟩
                            refine And.intro (fun h13 => ?_) (fun h13 => ?_)
                            · skip
                              (first | (cases h13; done) | exact bnn h13 | (have q := of_decide_eq_true h13; exfalso; omega) | exact absurd rfl (ne_of_bneT h13))
                            · skip
                              refine n_of (N' := KK56) kk56 ?_
                              refine n_of (N' := NN55) nn55 ?_
                              refine c_cond rfl (fun h14 => ?_) (fun h14 => ?_)
                              · skip
                                (first | (cases h14; done) | exact bnn h14 | (have q := of_decide_eq_true h14; exfalso; omega) | exact absurd rfl (ne_of_bneT h14))
                              · skip
                                refine c_skip ?_
                                refine n_of (N' := NN54) nn54 ?_
                                refine c_seq fun NN57 nn57 => ?_
                                refine c_region fun KK58 kk58 => ?_
                                refine n_of (N' := KK58) kk58 ?_
                                refine n_of (N' := NN57) nn57 ?_
                                refine c_seq fun NN59 nn59 => ?_
                                refine c_region fun KK60 kk60 => ?_
                                refine ⟨rfl, _, _, (s42 _ _ _ _ _ (by ((try dsimp only); first | assumption | omega | (simp (disch := omega) only [wr64]; omega))) (by ((try dsimp only); first | assumption | omega | (simp (disch := omega) only [wr64]; omega))) (by ((try dsimp only); first | assumption | omega | (simp (disch := omega) only [wr64]; omega)))), ?_⟩
                                refine n_of (N' := KK60) kk60 ?_
                                refine n_of (N' := NN59) nn59 ?_
                                refine c_seq fun NN61 nn61 => ?_
                                refine c_seq fun NN62 nn62 => ?_
                                refine c_region fun KK63 kk63 => ?_
                                refine n_of (N' := KK63) kk63 ?_
                                refine n_of (N' := NN62) nn62 ?_
                                refine c_cond rfl (fun h15 => ?_) (fun h15 => ?_)
                                · skip
                                  (first | (cases h15; done) | exact bnn h15 | (have q := of_decide_eq_true h15; exfalso; omega) | exact absurd rfl (ne_of_bneT h15))
                                · skip
                                  have q15 := of_decide_eq_false h15
                                  (try dsimp only at q15)
                                  (try simp only [Dat.len] at q15)
                                  refine c_skip ?_
                                  refine n_of (N' := NN61) nn61 ?_
                                  refine c_seq fun NN64 nn64 => ?_
                                  refine c_region fun KK65 kk65 => ?_
                                  refine ⟨rfl, _, _, (s57 _ _ _ (by ((try dsimp only); first | assumption | omega | (simp (disch := omega) only [wr64]; omega))) (by ((try dsimp only); first | assumption | omega | (simp (disch := omega) only [wr64]; omega))) (by ((try dsimp only); first | assumption | omega | (simp (disch := omega) only [wr64]; omega)))), ?_⟩
                                  refine n_of (N' := KK65) kk65 ?_
                                  refine n_of (N' := NN64) nn64 ?_
                                  refine c_seq fun NN66 nn66 => ?_
                                  refine c_seq fun NN67 nn67 => ?_
                                  refine c_region fun KK68 kk68 => ?_
                                  refine n_of (N' := KK68) kk68 ?_
                                  refine n_of (N' := NN67) nn67 ?_
                                  refine c_cond rfl (fun h16 => ?_) (fun h16 => ?_)
                                  · skip
                                    (first | (cases h16; done) | exact bnn h16 | (have q := of_decide_eq_true h16; exfalso; omega) | exact absurd rfl (ne_of_bneT h16))
                                  · skip
                                    have q16 := of_decide_eq_false h16
                                    (try dsimp only at q16)
                                    (try simp only [Dat.len] at q16)
                                    refine c_skip ?_
                                    refine n_of (N' := NN66) nn66 ?_
                                    refine c_seq fun NN69 nn69 => ?_
                                    refine c_seq fun NN70 nn70 => ?_
                                    refine c_region fun KK71 kk71 => ?_
                                    refine n_of (N' := KK71) kk71 ?_
                                    refine n_of (N' := NN70) nn70 ?_
                                    refine c_cond rfl (fun h17 => ?_) (fun h17 => ?_)
                                    · skip
                                      (first | (cases h17; done) | exact bnn h17 | (have q := of_decide_eq_true h17; exfalso; omega) | exact absurd rfl (ne_of_bneT h17))
                                    · skip
                                      have q17 := eq_of_bneF h17
                                      (try dsimp only at q17)
                                      (try simp only [Dat.len] at q17)
                                      refine c_skip ?_
                                      refine n_of (N' := NN69) nn69 ?_
                                      refine c_seq fun NN72 nn72 => ?_
                                      refine c_region fun KK73 kk73 => ?_
                                      refine n_of (N' := KK73) kk73 ?_
                                      refine n_of (N' := NN72) nn72 ?_
                                      refine c_ret ?_
                                      refine n_of (N' := R0) hR ?_
                                      exact ⟨[], rfl, rfl, rfl⟩

end
end Go.AX