/- What the functions of this program do, one contract a function, by that walk: each under what its own statement says. -/
import Derived.Test.YtojajegjmjmekaaB21
set_option linter.unusedVariables false
set_option linter.unusedSimpArgs false
namespace Go.AX
noncomputable section
open Go.RowKit Go.Proofs
set_option maxRecDepth 100000
set_option maxHeartbeats 4000000

/-! StepBasin -/
theorem gI_t (n : Int) : gI true n = n := rfl
theorem gR_t (R : List Nat) : gR true R = R := rfl
theorem fin0 : finB (cn .f32 0) = true := by rw [finB_num]; decide
def stS (w h : Int) (xs : List Nat) (k : Int) : List Nat := Rsweep w h xs (Rflat w h (cn .f32 0)) k
def stC (w h : Int) (xs : List Nat) (z : Nat) (k : Int) : List Nat := Rcr w h xs (Rfx w h (stS w h xs k)) (Rfy w h (stS w h xs k)) z
def Rstep (w h : Int) (xs : List Nat) (z r : Nat) (k : Int) : List Nat := spit (stC w h xs z k) r w h 1
def okst (w h : Int) (xs : List Nat) (z r : Nat) (k : Int) : Bool := (okeven w h xs && isB w h (stS w h xs k)) && (okflow w h (stS w h xs k) && (okcr w h xs (Rfx w h (stS w h xs k)) (Rfy w h (stS w h xs k)) z && spok (stC w h xs z k) r w h 1))
def okcan (w h : Int) (xs : List Nat) (z r : Nat) (k : Int) : Bool := isB w h xs && (finB z && (finB r && inB k 0 200))
def okstep (w h : Int) (xs : List Nat) (z r : Nat) (k : Int) : Bool := okcan w h xs z r k && okst w h xs z r k
theorem flat_isB {w h : Int} {xs : List Nat} (hb : isB w h xs = true) : isB w h (Rflat w h (cn .f32 0)) = true := by
  obtain ⟨W, H, rfl, rfl, w1, w2, w3, w4, hl, hWH⟩ := isB_nat hb
  rw [RflatN]
  exact isB_of w1 w2 w3 w4 (bld_len _ _) (bld_all fun i _ => fin0)
theorem okflat_of {w h : Int} {xs : List Nat} (hb : isB w h xs = true) : okflat w h (cn .f32 0) = true := by
  unfold okflat; rw [flat_isB hb, isB_size hb]; rfl
theorem two_self {w h : Int} {xs ys : List Nat} (h1 : isB w h xs = true) (h2 : isB w h ys = true) : two w h xs w h ys = true := by
  unfold two; rw [h1, h2]; simp
theorem sw_b {w h : Int} {xs : List Nat} {w2 k2 : Int} {ys : List Nat} {k : Int} (h0 : oksweep w h xs w2 k2 ys k = true) : isB w h xs = true := by
  unfold oksweep at h0
  simp only [Bool.and_eq_true] at h0
  exact (two_of h0.1.1).1
theorem sw_eq {w h : Int} {xs : List Nat} {k : Int} (hb : isB w h xs = true) : oksweep w h xs w h (Rflat w h (cn .f32 0)) k = (inB k 0 200 && (okeven w h xs && isB w h (stS w h xs k))) := by
  unfold oksweep; rw [two_self hb (flat_isB hb)]; rfl
theorem flow_of {w h : Int} {xs : List Nat} (h0 : okflow w h xs = true) : isB w h (Rfx w h xs) = true ∧ isB w h (Rfy w h xs) = true := by
  unfold okflow at h0
  simp only [Bool.and_eq_true] at h0
  exact h0.2
theorem cr_eq {w h : Int} {xs ys zs : List Nat} {z : Nat} (h1 : isB w h xs = true) (h2 : isB w h ys = true) (h3 : isB w h zs = true) : okcarry w h xs w h ys w h zs z = (finB z && okcr w h xs ys zs z) := by
  unfold okcarry; rw [two_self h1 h2, two_self h1 h3]; rfl
theorem isB_lenN {W H : Nat} {xs : List Nat} (hb : isB W H xs = true) : xs.length = W * H := by
  obtain ⟨W2, H2, e1, e2, _, _, _, _, hl, _⟩ := isB_nat hb
  have e1 : W = W2 := Int.ofNat.inj e1
  have e2 : H = H2 := Int.ofNat.inj e2
  rw [hl, e1, e2]
theorem bl1 {a b c d e f : Bool} (h : (a && b) = false) : ((c && (d && (e && a))) && (b && f)) = false := by cases a <;> cases b <;> simp_all
theorem bl2 {a b c d : Bool} (h : a = false) : (b && (c && (a && d))) = false := by subst h; simp
theorem bl3 {a b c d e f g : Bool} (h : (a && b) = false) : ((c && (a && d)) && (e && (f && (b && g)))) = false := by cases a <;> cases b <;> simp_all

theorem s98 (o : Bool) (xs : List Nat) (w h : Int) (z r k : Nat) (hb : isB w h xs = true) (hk : k ≤ 200) : SP 98 [basV w h 1, ar o xs] [.one (.pv 0 0), f32 z, f32 r, i64 k] [basV w h 1, ar o xs, ar true (gR (okst w h xs z r k) (Rstep w h xs z r k))] (toldB (okst w h xs z r k) w h 2) := by
  refine spec_of_codeR (fn := Try.f98) tyOK mixes Try.func98 rfl rfl rfl ⟨.inl rfl, ⟨.inl rfl, rfl⟩⟩ fun hg R0 hR => ?_
  obtain ⟨W, H, rfl, rfl, w1, w2, w3, w4, hl, hWH⟩ := isB_nat hb
  have hf0 : isB W H (bld (fun _ => cn .f32 0) (W * H)) = true := by rw [← RflatN]; exact flat_isB hb
  have es : stS W H xs k = Rsweep W H xs (bld (fun _ => cn .f32 0) (W * H)) k := by unfold stS; rw [RflatN]
  have ec : stC W H xs z k = Rcr W H xs (Rfx W H (stS W H xs k)) (Rfy W H (stS W H xs k)) z := rfl
  refine c_seq fun NN1 nn1 => ?_
  refine c_region fun KK2 kk2 => ?_
  refine n_of (N' := KK2) kk2 ?_
  refine n_of (N' := NN1) nn1 ?_
  refine c_seq fun NN3 nn3 => ?_
  refine c_draw2 10 9 10 [0, 1, 2, 3, 4, 5, 6, 7, 8] (by kernel_rfl) fun KK4 kk4 => ?_
  refine ⟨rfl, _, _, s93 _ _ w1 w2 w3 w4 _, rfl, ?_⟩
  refine n_of (N' := KK4) kk4 ?_
  refine n_of (N' := NN3) nn3 ?_
  refine c_seq fun NN5 nn5 => ?_
  refine c_region fun KK6 kk6 => ?_
  refine ⟨rfl, _, _, s131 _ _ _ _ _ _ _ hb hf0 hk, ?_⟩
  refine n_of (N' := KK6) kk6 ?_
  refine n_of (N' := NN5) nn5 ?_
  refine c_seq fun NN7 nn7 => ?_
  refine c_seq fun NN8 nn8 => ?_
  refine c_region fun KK9 kk9 => ?_
  refine n_of (N' := KK9) kk9 ?_
  refine n_of (N' := NN8) nn8 ?_
  refine c_cond rfl (fun h0 => ?_) (fun h0 => ?_)
  · skip
    refine c_seq fun NN10 nn10 => ?_
    refine c_region fun KK11 kk11 => ?_
    refine n_of (N' := KK11) kk11 ?_
    refine n_of (N' := NN10) nn10 ?_
    refine c_ret ?_
    refine n_of (N' := R0) hR ?_
    have ok : okst W H xs z r k = false := by unfold okst; rw [es, not_t h0]; simp
    exact ⟨[.nil 32 (.f [])], rfl, rfl, by rw [ok]; rfl, by rw [ok]; rfl⟩
  · skip
    have ok1 := not_f h0
    rw [ok1, gI_t, gI_t, gR_t]
    rw [← es] at ok1 ⊢
    have ok1b := ok1
    simp only [Bool.and_eq_true] at ok1b
    have hS := ok1b.2
    refine c_skip ?_
    refine n_of (N' := NN7) nn7 ?_
    refine c_seq fun NN12 nn12 => ?_
    refine c_region fun KK13 kk13 => ?_
    refine ⟨rfl, _, _, s117 _ _ _ _ hS, ?_⟩
    refine n_of (N' := KK13) kk13 ?_
    refine n_of (N' := NN12) nn12 ?_
    refine c_seq fun NN14 nn14 => ?_
    refine c_seq fun NN15 nn15 => ?_
    refine c_region fun KK16 kk16 => ?_
    refine n_of (N' := KK16) kk16 ?_
    refine n_of (N' := NN15) nn15 ?_
    refine c_cond rfl (fun h1 => ?_) (fun h1 => ?_)
    · skip
      refine c_seq fun NN17 nn17 => ?_
      refine c_region fun KK18 kk18 => ?_
      refine n_of (N' := KK18) kk18 ?_
      refine n_of (N' := NN17) nn17 ?_
      refine c_ret ?_
      refine n_of (N' := R0) hR ?_
      have ok : okst W H xs z r k = false := by unfold okst; rw [not_t h1]; simp
      exact ⟨[.nil 32 (.f [])], rfl, rfl, by rw [ok]; rfl, by rw [ok]; rfl⟩
    · skip
      have ok2 := not_f h1
      rw [ok2, gI_t, gI_t, gR_t, gR_t]
      obtain ⟨hu, hv⟩ := flow_of ok2
      have hl2 := isB_lenN hu
      have hl3 := isB_lenN hv
      refine c_skip ?_
      refine n_of (N' := NN14) nn14 ?_
      refine c_seq fun NN19 nn19 => ?_
      refine c_region fun KK20 kk20 => ?_
      refine ⟨rfl, _, _, s134 _ _ _ _ _ _ _ _ w1 w2 w3 w4 hl hl2 hl3 _, ?_⟩
      refine n_of (N' := KK20) kk20 ?_
      refine n_of (N' := NN19) nn19 ?_
      refine c_seq fun NN21 nn21 => ?_
      refine c_seq fun NN22 nn22 => ?_
      refine c_region fun KK23 kk23 => ?_
      refine n_of (N' := KK23) kk23 ?_
      refine n_of (N' := NN22) nn22 ?_
      refine c_cond rfl (fun h2 => ?_) (fun h2 => ?_)
      · skip
        refine c_seq fun NN24 nn24 => ?_
        refine c_region fun KK25 kk25 => ?_
        refine n_of (N' := KK25) kk25 ?_
        refine n_of (N' := NN24) nn24 ?_
        refine c_ret ?_
        refine n_of (N' := R0) hR ?_
        have ok : okst W H xs z r k = false := by unfold okst; rw [not_t h2]; simp
        exact ⟨[.nil 32 (.f [])], rfl, rfl, by rw [ok]; rfl, by rw [ok]; rfl⟩
      · skip
        have ok3 := not_f h2
        rw [ok3, gI_t, gI_t, gR_t]
        have hC : isB W H (Rcr W H xs (Rfx W H (stS W H xs k)) (Rfy W H (stS W H xs k)) z) = true := by unfold okcr at ok3; simp only [Bool.and_eq_true] at ok3; exact ok3.2
        refine c_skip ?_
        refine n_of (N' := NN21) nn21 ?_
        refine c_seq fun NN26 nn26 => ?_
        refine c_region fun KK27 kk27 => ?_
        refine ⟨rfl, _, _, s124 _ _ _ _ _ 1 hC (by omega), ?_⟩
        refine n_of (N' := KK27) kk27 ?_
        refine n_of (N' := NN26) nn26 ?_
        refine c_ret ?_
        refine n_of (N' := R0) hR ?_
        have ok : okst W H xs z r k = spok (stC W H xs z k) r W H 1 := by unfold okst; rw [ok1, ok2, ok3]; rfl
        exact ⟨[], rfl, by rw [ok]; rfl, by rw [ok]; rfl⟩

theorem s97 (o : Bool) (xs : List Nat) (w h : Int) (z r : Nat) (k : Int) : SP 97 [basV w h 1, ar o xs] [.one (.pv 0 0), f32 z, f32 r, i64 k] [basV w h 1, ar o xs] (exb (okcan w h xs z r k)) := by
  refine spec_of_codeR (fn := Try.f97) tyOK mixes Try.func97 rfl rfl rfl ⟨.inl rfl, ⟨.inl rfl, rfl⟩⟩ fun hg R0 hR => ?_
  refine c_seq fun NN1 nn1 => ?_
  refine c_region fun KK2 kk2 => ?_
  refine n_of (N' := KK2) kk2 ?_
  refine n_of (N' := NN1) nn1 ?_
  refine c_seq fun NN3 nn3 => ?_
  refine c_region fun KK4 kk4 => ?_
  refine ⟨rfl, _, _, s79 _ _ _ _, ?_⟩
  refine And.intro (fun h0 => ?_) (fun h0 => ?_)
  · skip
    refine ⟨rfl, _, _, (s107 _), ?_⟩
    refine And.intro (fun h1 => ?_) (fun h1 => ?_)
    · skip
      refine ⟨rfl, _, _, (s107 _), ?_⟩
      refine And.intro (fun h2 => ?_) (fun h2 => ?_)
      · skip
        refine ⟨rfl, _, _, (s104 _ _ _), ?_⟩
        refine n_of (N' := KK4) kk4 ?_
        refine n_of (N' := NN3) nn3 ?_
        refine c_ret ?_
        refine n_of (N' := R0) hR ?_
        exact ⟨[], rfl, rfl, congrArg exb (by unfold okcan; simp only [h0, h1, h2, Bool.false_and, Bool.true_and, Bool.and_true, Bool.and_false])⟩
      · skip
        refine n_of (N' := KK4) kk4 ?_
        refine n_of (N' := NN3) nn3 ?_
        refine c_ret ?_
        refine n_of (N' := R0) hR ?_
        exact ⟨[], rfl, rfl, congrArg exb (by unfold okcan; simp only [h0, h1, h2, Bool.false_and, Bool.true_and, Bool.and_true, Bool.and_false])⟩
    · skip
      refine And.intro (fun h => nomatch h) (fun _ => ?_)
      refine n_of (N' := KK4) kk4 ?_
      refine n_of (N' := NN3) nn3 ?_
      refine c_ret ?_
      refine n_of (N' := R0) hR ?_
      exact ⟨[], rfl, rfl, congrArg exb (by unfold okcan; simp only [h0, h1, Bool.false_and, Bool.true_and, Bool.and_true, Bool.and_false])⟩
  · skip
    refine And.intro (fun h => nomatch h) (fun _ => ?_)
    refine And.intro (fun h => nomatch h) (fun _ => ?_)
    refine n_of (N' := KK4) kk4 ?_
    refine n_of (N' := NN3) nn3 ?_
    refine c_ret ?_
    refine n_of (N' := R0) hR ?_
    exact ⟨[], rfl, rfl, congrArg exb (by unfold okcan; simp only [h0, Bool.false_and, Bool.true_and, Bool.and_true, Bool.and_false])⟩

theorem s43 (o : Bool) (xs : List Nat) (w h : Int) (z r : Nat) (k : Int) : SP 43 [ar o xs] [bas w h 0, f32 z, f32 r, i64 k] [ar o xs, ar true (gR (okstep w h xs z r k) (Rstep w h xs z r k))] (toldB (okstep w h xs z r k) w h 1) := by
  refine spec_of_codeR (fn := Try.f43) tyOK mixes Try.func43 rfl rfl rfl ⟨.inl rfl, rfl⟩ fun hg R0 hR => ?_
  refine c_seq fun NN1 nn1 => ?_
  refine c_region fun KK2 kk2 => ?_
  refine n_of (N' := KK2) kk2 ?_
  refine n_of (N' := NN1) nn1 ?_
  refine c_seq fun NN3 nn3 => ?_
  refine c_seq fun NN4 nn4 => ?_
  refine c_region fun KK5 kk5 => ?_
  refine ⟨rfl, _, _, (s97 _ _ _ _ _ _ _), ?_⟩
  refine n_of (N' := KK5) kk5 ?_
  refine n_of (N' := NN4) nn4 ?_
  refine c_cond rfl (fun h0 => ?_) (fun h0 => ?_)
  · skip
    refine c_seq fun NN6 nn6 => ?_
    refine c_region fun KK7 kk7 => ?_
    refine n_of (N' := KK7) kk7 ?_
    refine n_of (N' := NN6) nn6 ?_
    refine c_ret ?_
    refine n_of (N' := R0) hR ?_
    have ok : okstep w h xs z r k = false := by unfold okstep; rw [not_t h0]; rfl
    exact ⟨[.nil 32 (.f [])], rfl, rfl, by rw [ok]; rfl, by rw [ok]; rfl⟩
  · skip
    have hc := not_f h0
    have hc2 := hc
    unfold okcan at hc2
    simp only [Bool.and_eq_true] at hc2
    obtain ⟨hb, _, _, hk0⟩ := hc2
    have hk := inB_le hk0
    obtain ⟨K, rfl⟩ : ∃ K : Nat, k = K := ⟨k.toNat, by omega⟩
    refine c_skip ?_
    refine n_of (N' := NN3) nn3 ?_
    refine c_seq fun NN8 nn8 => ?_
    refine c_region fun KK9 kk9 => ?_
    refine ⟨rfl, _, _, s98 _ _ _ _ _ _ K hb (by omega), ?_⟩
    refine n_of (N' := KK9) kk9 ?_
    refine n_of (N' := NN8) nn8 ?_
    refine c_ret ?_
    refine n_of (N' := R0) hR ?_
    have ok : okstep w h xs z r K = okst w h xs z r K := by unfold okstep; rw [hc]; rfl
    exact ⟨[], rfl, by rw [ok], by rw [ok]⟩

theorem s44 (o : Bool) (xs : List Nat) (w h : Int) (z r : Nat) (k : Int) : SP 44 [ar o xs] [bas w h 0, f32 z, f32 r, i64 k] [ar o xs, ar true (gR (okstep w h xs z r k) (Rstep w h xs z r k))] (toldB (okstep w h xs z r k) w h 1) := by
  refine spec_of_codeR (fn := Try.f44) tyOK mixes Try.func44 rfl rfl rfl ⟨.inl rfl, rfl⟩ fun hg R0 hR => ?_
  refine c_seq fun NN1 nn1 => ?_
  refine c_region fun KK2 kk2 => ?_
  refine n_of (N' := KK2) kk2 ?_
  refine n_of (N' := NN1) nn1 ?_
  refine c_seq fun NN3 nn3 => ?_
  refine c_region fun KK4 kk4 => ?_
  refine ⟨rfl, _, _, s40 _ _ _, ?_⟩
  refine n_of (N' := KK4) kk4 ?_
  refine n_of (N' := NN3) nn3 ?_
  refine c_seq fun NN5 nn5 => ?_
  refine c_region fun KK6 kk6 => ?_
  refine ⟨rfl, _, _, s73 _ _ _ _ _ _ _ _ _, ?_⟩
  refine n_of (N' := KK6) kk6 ?_
  refine n_of (N' := NN5) nn5 ?_
  refine c_seq fun NN7 nn7 => ?_
  refine c_region fun KK8 kk8 => ?_
  refine ⟨rfl, _, _, s61 _ _ _ _, ?_⟩
  refine n_of (N' := KK8) kk8 ?_
  refine n_of (N' := NN7) nn7 ?_
  refine c_seq fun NN9 nn9 => ?_
  refine c_seq fun NN10 nn10 => ?_
  refine c_region fun KK11 kk11 => ?_
  refine And.intro (fun h0 => ?_) (fun h0 => ?_)
  · skip
    refine n_of (N' := KK11) kk11 ?_
    refine n_of (N' := NN10) nn10 ?_
    refine c_cond rfl (fun _ => ?_) (fun h => nomatch h)
    refine c_seq fun NN12 nn12 => ?_
    refine c_region fun KK13 kk13 => ?_
    refine n_of (N' := KK13) kk13 ?_
    refine n_of (N' := NN12) nn12 ?_
    refine c_ret ?_
    refine n_of (N' := R0) hR ?_
    have q := not_t h0
    cases hb : isB w h xs
    · have ok : okstep w h xs z r k = false := by
        unfold okstep okcan okst
        rw [hb]; rfl
      exact ⟨[.nil 32 (.f [])], rfl, rfl, by rw [ok]; rfl, by rw [ok]; rfl⟩
    · have e1 := okflat_of hb
      simp only [e1, gI_t, gR_t] at q
      rw [sw_eq hb] at q
      have ok : okstep w h xs z r k = false := by
        unfold okstep okcan okst
        exact bl1 q
      exact ⟨[.nil 32 (.f [])], rfl, rfl, by rw [ok]; rfl, by rw [ok]; rfl⟩
  · skip
    have ok1 := not_f h0
    have hb := sw_b ok1
    have e1 := okflat_of hb
    simp only [e1, gI_t, gR_t] at ok1
    
    refine n_of (N' := KK11) kk11 ?_
    refine n_of (N' := NN10) nn10 ?_
    refine c_cond rfl (fun h1 => ?_) (fun h1 => ?_)
    · skip
      refine c_seq fun NN14 nn14 => ?_
      refine c_region fun KK15 kk15 => ?_
      refine n_of (N' := KK15) kk15 ?_
      refine n_of (N' := NN14) nn14 ?_
      refine c_ret ?_
      refine n_of (N' := R0) hR ?_
      have q := not_t h1
      simp only [e1, ok1, gI_t, gR_t] at q
      have ok : okstep w h xs z r k = false := by
        unfold okstep okcan okst
        have q2 : okflow w h (stS w h xs k) = false := q
        rw [q2]; simp
      exact ⟨[.nil 32 (.f [])], rfl, rfl, by rw [ok]; rfl, by rw [ok]; rfl⟩
    · skip
      have ok2 := not_f h1
      simp only [e1, ok1, gI_t, gR_t] at ok2
      
      refine c_skip ?_
      refine n_of (N' := NN9) nn9 ?_
      refine c_seq fun NN16 nn16 => ?_
      refine c_region fun KK17 kk17 => ?_
      refine ⟨rfl, _, _, s75 _ _ _ _ _ _ _ _ _ _ _ _ _, ?_⟩
      refine n_of (N' := KK17) kk17 ?_
      refine n_of (N' := NN16) nn16 ?_
      refine c_seq fun NN18 nn18 => ?_
      refine c_seq fun NN19 nn19 => ?_
      refine c_region fun KK20 kk20 => ?_
      refine n_of (N' := KK20) kk20 ?_
      refine n_of (N' := NN19) nn19 ?_
      refine c_cond rfl (fun h2 => ?_) (fun h2 => ?_)
      · skip
        refine c_seq fun NN21 nn21 => ?_
        refine c_region fun KK22 kk22 => ?_
        refine n_of (N' := KK22) kk22 ?_
        refine n_of (N' := NN21) nn21 ?_
        refine c_ret ?_
        refine n_of (N' := R0) hR ?_
        have q := not_t h2
        simp only [e1, ok1, ok2, gI_t, gR_t] at q
        obtain ⟨hu, hv⟩ := flow_of ok2
        rw [cr_eq hb hu hv] at q
        have ok : okstep w h xs z r k = false := by
          unfold okstep okcan okst
          exact bl3 q
        exact ⟨[.nil 32 (.f [])], rfl, rfl, by rw [ok]; rfl, by rw [ok]; rfl⟩
      · skip
        have ok3 := not_f h2
        simp only [e1, ok1, ok2, gI_t, gR_t] at ok3
        
        refine c_skip ?_
        refine n_of (N' := NN18) nn18 ?_
        refine c_seq fun NN23 nn23 => ?_
        refine c_region fun KK24 kk24 => ?_
        refine ⟨rfl, _, _, s67 _ _ _ _ _ _, ?_⟩
        refine n_of (N' := KK24) kk24 ?_
        refine n_of (N' := NN23) nn23 ?_
        refine c_ret ?_
        refine n_of (N' := R0) hR ?_
        obtain ⟨hu, hv⟩ := flow_of ok2
        have q1 := ok1
        have q3 := ok3
        rw [sw_eq hb] at q1
        rw [cr_eq hb hu hv] at q3
        have q2 : okflow w h (stS w h xs k) = true := ok2
        simp only [Bool.and_eq_true] at q1 q3
        have ok : okstep w h xs z r k = okspread w h (stC w h xs z k) r 1 := by
          unfold okstep okcan okst okspread
          have q4 : okcr w h xs (Rfx w h (stS w h xs k)) (Rfy w h (stS w h xs k)) z = true := q3.2
          rw [hb, q3.1, q1.1, q1.2.1, q1.2.2, q2, q4]
          have : inB 1 0 64 = true := rfl
          rw [this]; simp
        refine ⟨[], rfl, ?_, ?_⟩
        · simp only [e1, ok1, ok2, ok3, gI_t, gR_t]
          rw [ok]; rfl
        · simp only [e1, ok1, ok2, ok3, gI_t, gR_t]
          rw [ok]; rfl

theorem s9 (o : Bool) (xs : List Nat) (w h : Int) (z r : Nat) (k : Int) : SP 9 [ar o xs] [bas w h 0, f32 z, f32 r, i64 k] [ar o xs] (exb true) := by
  refine spec_of_codeR (fn := Try.f9) tyOK mixes Try.func9 rfl rfl rfl ⟨.inl rfl, rfl⟩ fun hg R0 hR => ?_
  have hR1 : (gR (okstep w h xs z r k) (Rstep w h xs z r k)).length ≤ 256 := gR_len fun hb => isB_len256 (w := w) (h := h) (by unfold okstep okst at hb; simp only [Bool.and_eq_true] at hb; exact spok_isB hb.2.2.2.2)
  refine c_seq fun NN1 nn1 => ?_
  refine c_region fun KK2 kk2 => ?_
  refine n_of (N' := KK2) kk2 ?_
  refine n_of (N' := NN1) nn1 ?_
  refine c_seq fun NN3 nn3 => ?_
  refine c_region fun KK4 kk4 => ?_
  refine n_of (N' := KK4) kk4 ?_
  refine n_of (N' := NN3) nn3 ?_
  refine c_seq fun NN5 nn5 => ?_
  refine c_region fun KK6 kk6 => ?_
  refine ⟨rfl, _, _, (s25 _ _ _ _ _), ?_⟩
  refine n_of (N' := KK6) kk6 ?_
  refine n_of (N' := NN5) nn5 ?_
  refine c_seq fun NN7 nn7 => ?_
  refine c_seq fun NN8 nn8 => ?_
  refine c_region fun KK9 kk9 => ?_
  refine n_of (N' := KK9) kk9 ?_
  refine n_of (N' := NN8) nn8 ?_
  refine c_cond rfl (fun h0 => ?_) (fun h0 => ?_)
  · skip
    have q0 := of_decide_eq_true h0
    (try dsimp only at q0)
    (try simp only [Dat.len] at q0)
    refine c_seq fun NN10 nn10 => ?_
    refine c_region fun KK11 kk11 => ?_
    refine n_of (N' := KK11) kk11 ?_
    refine n_of (N' := NN10) nn10 ?_
    refine c_ret ?_
    refine n_of (N' := R0) hR ?_
    exact ⟨[], rfl, rfl, rfl⟩
  · skip
    have q0 := of_decide_eq_false h0
    (try dsimp only at q0)
    (try simp only [Dat.len] at q0)
    have hn : xs.length ≤ 1048576 := sz_le h0 hg.1.1.1
    refine c_skip ?_
    refine n_of (N' := NN7) nn7 ?_
    refine c_seq fun NN12 nn12 => ?_
    refine c_region fun KK13 kk13 => ?_
    refine ⟨rfl, _, _, (s27 _ _ (by ((try dsimp only); first | assumption | omega | (simp (disch := omega) only [wr64]; omega))) _ _), ?_⟩
    refine ⟨rfl, _, _, (s43 _ _ _ _ _ _ _), ?_⟩
    refine n_of (N' := KK13) kk13 ?_
    refine n_of (N' := NN12) nn12 ?_
    refine c_seq fun NN14 nn14 => ?_
    refine c_region fun KK15 kk15 => ?_
    refine ⟨rfl, _, _, (s27 _ _ (by ((try dsimp only); first | assumption | omega | (simp (disch := omega) only [wr64]; omega))) _ _), ?_⟩
    refine n_of (N' := KK15) kk15 ?_
    refine n_of (N' := NN14) nn14 ?_
    refine c_seq fun NN16 nn16 => ?_
    refine c_region fun KK17 kk17 => ?_
    refine ⟨rfl, _, _, (s44 _ _ _ _ _ _ _), ?_⟩
    refine n_of (N' := KK17) kk17 ?_
    refine n_of (N' := NN16) nn16 ?_
    refine c_seq fun NN18 nn18 => ?_
    refine c_seq fun NN19 nn19 => ?_
    refine c_region fun KK20 kk20 => ?_
    refine ⟨rfl, _, _, (s29 _ _ _ _ _), ?_⟩
    refine And.intro (fun h1 => ?_) (fun h1 => ?_)
    · skip
      (first | (cases h1; done) | exact bnn h1 | (have q := of_decide_eq_true h1; exfalso; omega) | exact absurd rfl (ne_of_bneT h1))
    · skip
      refine n_of (N' := KK20) kk20 ?_
      refine n_of (N' := NN19) nn19 ?_
      refine c_cond rfl (fun h2 => ?_) (fun h2 => ?_)
      · skip
        (first | (cases h2; done) | exact bnn h2 | (have q := of_decide_eq_true h2; exfalso; omega) | exact absurd rfl (ne_of_bneT h2))
      · skip
        refine c_skip ?_
        refine n_of (N' := NN18) nn18 ?_
        refine c_seq fun NN21 nn21 => ?_
        refine c_seq fun NN22 nn22 => ?_
        refine c_draw 3 [0, 1, 2] (by kernel_rfl) fun KK23 kk23 => ?_
        refine ⟨rfl, _, _, (s27 _ _ (by ((try dsimp only); first | assumption | omega | (simp (disch := omega) only [wr64]; omega))) _ _), rfl, ?_⟩
        refine ⟨rfl, _, _, (s29 _ _ _ _ _), ?_⟩
        refine n_of (N' := KK23) kk23 ?_
        refine n_of (N' := NN22) nn22 ?_
        refine c_cond rfl (fun h3 => ?_) (fun h3 => ?_)
        · skip
          (first | (cases h3; done) | exact bnn h3 | (have q := of_decide_eq_true h3; exfalso; omega) | exact absurd rfl (ne_of_bneT h3))
        · skip
          refine c_skip ?_
          refine n_of (N' := NN21) nn21 ?_
          refine c_seq fun NN24 nn24 => ?_
          refine c_region fun KK25 kk25 => ?_
          refine n_of (N' := KK25) kk25 ?_
          refine n_of (N' := NN24) nn24 ?_
          refine c_seq fun NN26 nn26 => ?_
          refine c_region fun KK27 kk27 => ?_
          refine ⟨rfl, _, _, (s41 _ _ _ _ (by ((try dsimp only); first | assumption | omega | (simp (disch := omega) only [wr64]; omega))) (by ((try dsimp only); first | assumption | omega | (simp (disch := omega) only [wr64]; omega))) (by ((try dsimp only); first | assumption | omega | (simp (disch := omega) only [wr64]; omega)))), ?_⟩
          refine n_of (N' := KK27) kk27 ?_
          refine n_of (N' := NN26) nn26 ?_
          refine c_seq fun NN28 nn28 => ?_
          refine c_seq fun NN29 nn29 => ?_
          refine c_region fun KK30 kk30 => ?_
          refine And.intro (fun h4 => ?_) (fun h4 => ?_)
          · skip
            (first | (cases h4; done) | exact bnn h4 | (have q := of_decide_eq_true h4; exfalso; omega) | exact absurd rfl (ne_of_bneT h4))
          · skip
            have q4 := of_decide_eq_false h4
            (try dsimp only at q4)
            (try simp only [Dat.len] at q4)
            refine ⟨rfl, _, _, (s29 _ _ _ _ _), ?_⟩
            refine And.intro (fun h5 => ?_) (fun h5 => ?_)
            · skip
              (first | (cases h5; done) | exact bnn h5 | (have q := of_decide_eq_true h5; exfalso; omega) | exact absurd rfl (ne_of_bneT h5))
            · skip
              refine n_of (N' := KK30) kk30 ?_
              refine n_of (N' := NN29) nn29 ?_
              refine c_cond rfl (fun h6 => ?_) (fun h6 => ?_)
              · skip
                (first | (cases h6; done) | exact bnn h6 | (have q := of_decide_eq_true h6; exfalso; omega) | exact absurd rfl (ne_of_bneT h6))
              · skip
                refine c_skip ?_
                refine n_of (N' := NN28) nn28 ?_
                refine c_seq fun NN31 nn31 => ?_
                refine c_region fun KK32 kk32 => ?_
                refine n_of (N' := KK32) kk32 ?_
                refine n_of (N' := NN31) nn31 ?_
                refine c_seq fun NN33 nn33 => ?_
                refine c_region fun KK34 kk34 => ?_
                refine ⟨rfl, _, _, (s41 _ _ _ _ (by ((try dsimp only); first | assumption | omega | (simp (disch := omega) only [wr64]; omega))) (by ((try dsimp only); first | assumption | omega | (simp (disch := omega) only [wr64]; omega))) (by ((try dsimp only); first | assumption | omega | (simp (disch := omega) only [wr64]; omega)))), ?_⟩
                refine n_of (N' := KK34) kk34 ?_
                refine n_of (N' := NN33) nn33 ?_
                refine c_seq fun NN35 nn35 => ?_
                refine c_region fun KK36 kk36 => ?_
                refine n_of (N' := KK36) kk36 ?_
                refine n_of (N' := NN35) nn35 ?_
                refine c_seq fun NN37 nn37 => ?_
                refine c_region fun KK38 kk38 => ?_
                refine ⟨rfl, _, _, (s42 _ _ _ _ _ (by ((try dsimp only); first | assumption | omega | (simp (disch := omega) only [wr64]; omega))) (by ((try dsimp only); first | assumption | omega | (simp (disch := omega) only [wr64]; omega))) (by ((try dsimp only); first | assumption | omega | (simp (disch := omega) only [wr64]; omega)))), ?_⟩
                refine n_of (N' := KK38) kk38 ?_
                refine n_of (N' := NN37) nn37 ?_
                refine c_seq fun NN39 nn39 => ?_
                refine c_seq fun NN40 nn40 => ?_
                refine c_region fun KK41 kk41 => ?_
                refine n_of (N' := KK41) kk41 ?_
                refine n_of (N' := NN40) nn40 ?_
                refine c_cond rfl (fun h7 => ?_) (fun h7 => ?_)
                · skip
                  (first | (cases h7; done) | exact bnn h7 | (have q := of_decide_eq_true h7; exfalso; omega) | exact absurd rfl (ne_of_bneT h7))
                · skip
                  have q7 := of_decide_eq_false h7
                  (try dsimp only at q7)
                  (try simp only [Dat.len] at q7)
                  refine c_skip ?_
                  refine n_of (N' := NN39) nn39 ?_
                  refine c_seq fun NN42 nn42 => ?_
                  refine c_seq fun NN43 nn43 => ?_
                  refine c_region fun KK44 kk44 => ?_
                  refine n_of (N' := KK44) kk44 ?_
                  refine n_of (N' := NN43) nn43 ?_
                  refine c_cond rfl (fun h8 => ?_) (fun h8 => ?_)
                  · skip
                    (first | (cases h8; done) | exact bnn h8 | (have q := of_decide_eq_true h8; exfalso; omega) | exact absurd rfl (ne_of_bneT h8))
                  · skip
                    have q8 := eq_of_bneF h8
                    (try dsimp only at q8)
                    (try simp only [Dat.len] at q8)
                    refine c_skip ?_
                    refine n_of (N' := NN42) nn42 ?_
                    refine c_seq fun NN45 nn45 => ?_
                    refine c_region fun KK46 kk46 => ?_
                    refine ⟨rfl, _, _, (s27 _ _ (by ((try dsimp only); first | assumption | omega | (simp (disch := omega) only [wr64]; omega))) _ _), ?_⟩
                    refine ⟨rfl, _, _, (s44 _ _ _ _ _ _ _), ?_⟩
                    refine n_of (N' := KK46) kk46 ?_
                    refine n_of (N' := NN45) nn45 ?_
                    refine c_seq fun NN47 nn47 => ?_
                    refine c_seq fun NN48 nn48 => ?_
                    refine c_region fun KK49 kk49 => ?_
                    refine ⟨rfl, _, _, (s29 _ _ _ _ _), ?_⟩
                    refine And.intro (fun h9 => ?_) (fun h9 => ?_)
                    · skip
                      (first | (cases h9; done) | exact bnn h9 | (have q := of_decide_eq_true h9; exfalso; omega) | exact absurd rfl (ne_of_bneT h9))
                    · skip
                      refine n_of (N' := KK49) kk49 ?_
                      refine n_of (N' := NN48) nn48 ?_
                      refine c_cond rfl (fun h10 => ?_) (fun h10 => ?_)
                      · skip
                        (first | (cases h10; done) | exact bnn h10 | (have q := of_decide_eq_true h10; exfalso; omega) | exact absurd rfl (ne_of_bneT h10))
                      · skip
                        refine c_skip ?_
                        refine n_of (N' := NN47) nn47 ?_
                        refine c_seq fun NN50 nn50 => ?_
                        refine c_region fun KK51 kk51 => ?_
                        refine n_of (N' := KK51) kk51 ?_
                        refine n_of (N' := NN50) nn50 ?_
                        refine c_seq fun NN52 nn52 => ?_
                        refine c_region fun KK53 kk53 => ?_
                        refine ⟨rfl, _, _, (s42 _ _ _ _ _ (by ((try dsimp only); first | assumption | omega | (simp (disch := omega) only [wr64]; omega))) (by ((try dsimp only); first | assumption | omega | (simp (disch := omega) only [wr64]; omega))) (by ((try dsimp only); first | assumption | omega | (simp (disch := omega) only [wr64]; omega)))), ?_⟩
                        refine n_of (N' := KK53) kk53 ?_
                        refine n_of (N' := NN52) nn52 ?_
                        refine c_seq fun NN54 nn54 => ?_
                        refine c_seq fun NN55 nn55 => ?_
                        refine c_region fun KK56 kk56 => ?_
                        refine n_of (N' := KK56) kk56 ?_
                        refine n_of (N' := NN55) nn55 ?_
                        refine c_cond rfl (fun h11 => ?_) (fun h11 => ?_)
                        · skip
                          (first | (cases h11; done) | exact bnn h11 | (have q := of_decide_eq_true h11; exfalso; omega) | exact absurd rfl (ne_of_bneT h11))
                        · skip
                          have q11 := of_decide_eq_false h11
                          (try dsimp only at q11)
                          (try simp only [Dat.len] at q11)
                          refine c_skip ?_
                          refine n_of (N' := NN54) nn54 ?_
                          refine c_seq fun NN57 nn57 => ?_
                          refine c_seq fun NN58 nn58 => ?_
                          refine c_region fun KK59 kk59 => ?_
                          refine n_of (N' := KK59) kk59 ?_
                          refine n_of (N' := NN58) nn58 ?_
                          refine c_cond rfl (fun h12 => ?_) (fun h12 => ?_)
                          · skip
                            (first | (cases h12; done) | exact bnn h12 | (have q := of_decide_eq_true h12; exfalso; omega) | exact absurd rfl (ne_of_bneT h12))
                          · skip
                            have q12 := eq_of_bneF h12
                            (try dsimp only at q12)
                            (try simp only [Dat.len] at q12)
                            refine c_skip ?_
                            refine n_of (N' := NN57) nn57 ?_
                            refine c_seq fun NN60 nn60 => ?_
                            refine c_region fun KK61 kk61 => ?_
                            refine n_of (N' := KK61) kk61 ?_
                            refine n_of (N' := NN60) nn60 ?_
                            refine c_ret ?_
                            refine n_of (N' := R0) hR ?_
                            exact ⟨[], rfl, rfl, rfl⟩

end
end Go.AX