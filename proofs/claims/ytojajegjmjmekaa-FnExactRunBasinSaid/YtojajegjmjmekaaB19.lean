/- What the functions of this program do, one contract a function, by that walk: each under what its own statement says. -/
import Derived.Test.YtojajegjmjmekaaB18
import Derived.Test.YtojajegjmjmekaaAxR
set_option linter.unusedVariables false
set_option linter.unusedSimpArgs false
namespace Go.AX
noncomputable section
open Go.RowKit Go.Proofs
set_option maxRecDepth 100000
set_option maxHeartbeats 4000000

/-! CarryBasin -/
theorem ffl_isF {y : Nat} (h : isN .f64 y = false) : IsF .f64 (ffl y) (ffl y) := by
  rw [ffl_def]; unfold ffl0
  refine isF_of_not (F.write_not_nan _ _ ?_) (by rw [← wd_eq]; exact Ieee.double.write_lt _)
  unfold isN FloatKind.decode at h
  replace h : (Ieee.double.read y).isNaN = false := h
  cases hd : Ieee.double.read y with
  | nan s f => rw [hd] at h; cases h
  | infinity s => rfl
  | number s m e => rfl
theorem extern163 {y : Nat} (h : isN .f64 y = false) (w : World) : (callFunc 163 #[.float .f64 y]).run Try.prog w = .ok (.value (.float .f64 (ffl y))) w := by
  rw [run_callFunc_extern (e := Extern.MathFloor.toIntegral "math.archFloor" .down) Try.func163 (by kernel_rfl) rfl (by kernel_rfl) (by kernel_rfl)]
  rw [ffl_def]; unfold ffl0
  unfold isN FloatKind.decode at h
  replace h : (Ieee.double.read y).isNaN = false := h
  cases hd : Ieee.double.read y with
  | nan s f => rw [hd] at h; cases h
  | infinity s =>
    have hd2 : FloatKind.f64.decode y = .infinity s := hd
    have k : Extern.MathFloor.toIntegral "math.archFloor" .down #[.float .f64 y] = pure (.float .f64 (Ieee.double.write ((Ieee.double.read y).integral .down))) := by
      conv => lhs; whnf
      rw [hd2, hd]; rfl
    rw [k, hd]; rfl
  | number s m e =>
    have hd2 : FloatKind.f64.decode y = .number s m e := hd
    have k : Extern.MathFloor.toIntegral "math.archFloor" .down #[.float .f64 y] = pure (.float .f64 (Ieee.double.write ((Ieee.double.read y).integral .down))) := by
      conv => lhs; whnf
      rw [hd2, hd]; rfl
    rw [k, hd]; rfl
theorem s163 (y : Nat) (hy : isN .f64 y = false) : SP 163 [] [.one (.fl .f64 y)] [] (fl64 (ffl y)) := by
  refine ⟨rfl, fun w σ us hs hr => .inr ?_⟩
  match us, hr with
  | [u], ⟨⟨b, hu, hb⟩, _⟩ =>
    subst hu
    rw [isN_of_cn hb hy]
    exact ⟨_, w, extern163 hy w, σ, hs, ⟨_, rfl, ffl_isF hy⟩, Fr.refl _ _ _⟩

theorem s151 (y : Nat) (hy : isN .f64 y = false) : SP 151 [] [.one (.fl .f64 y)] [] (fl64 (ffl y)) := by
  refine spec_of_codeR (fn := Try.f151) tyOK mixes Try.func151 rfl rfl rfl rfl fun hg R0 hR => ?_
  refine c_seq fun NN1 nn1 => ?_
  refine c_region fun KK2 kk2 => ?_
  refine n_of (N' := KK2) kk2 ?_
  refine n_of (N' := NN1) nn1 ?_
  refine c_seq fun NN3 nn3 => ?_
  refine c_cond rfl (fun _ => ?_) (fun h => nomatch h)
  refine c_seq fun NN4 nn4 => ?_
  refine c_region fun KK5 kk5 => ?_
  refine ⟨rfl, _, _, s163 _ hy, ?_⟩
  refine n_of (N' := KK5) kk5 ?_
  refine n_of (N' := NN4) nn4 ?_
  refine c_ret ?_
  refine n_of (N' := R0) hR ?_
  exact ⟨[], rfl, rfl, rfl⟩


theorem fwide_not_nan {x : Nat} (h : isN .f32 x = false) : isN .f64 (fwide x) = false := by
  unfold isN FloatKind.decode at h
  replace h : (Ieee.single.read x).isNaN = false := h
  rw [fwide_def]; unfold fwide0
  cases hd : Ieee.single.read x with
  | nan s f => rw [hd] at h; cases h
  | infinity s => exact F.write_not_nan _ _ rfl
  | number s m e => exact F.write_not_nan _ _ rfl
/-- What is needed of a place and its whole part. -/
structure Flr (x : Nat) (k : Int) : Prop where
  nn : isN .f64 (fwide x) = false
  lo : -1001 ≤ k
  hi : k ≤ 1001
  i1 : floatToIntVal .f64 (ffl (fwide x)) .i64 = some k
  nr : narrows (ffl (fwide x)) = true
  fn : fnarrow (ffl (fwide x)) = fint .f32 k
  i2 : floatToIntVal .f32 (fnarrow (ffl (fwide x))) .i64 = some k
theorem Flr.f1 {x : Nat} {k : Int} (h : Flr x k) : ftoi .f64 (ffl (fwide x)) .i64 = k := by rw [ftoi_def, h.i1]; rfl
theorem Flr.f2 {x : Nat} {k : Int} (h : Flr x k) : ftoi .f32 (fnarrow (ffl (fwide x))) .i64 = k := by rw [ftoi_def, h.i2]; rfl
def Frow (xs : List Nat) (f : Nat) (w h k l : Int) : Nat := fop .add .f32 (atV xs w h k l) (fop .mul .f32 f (fop .sub .f32 (atV xs w h (k + 1) l) (atV xs w h k l)))
def Fab (xs : List Nat) (w h : Int) (x y : Nat) (k l : Int) : Nat := fop .add .f32 (Frow xs (fop .sub .f32 x (fint .f32 k)) w h k l) (fop .mul .f32 (fop .sub .f32 y (fint .f32 l)) (fop .sub .f32 (Frow xs (fop .sub .f32 x (fint .f32 k)) w h k (l + 1)) (Frow xs (fop .sub .f32 x (fint .f32 k)) w h k l)))

theorem s126 (x : Nat) : SP 126 [] [f32 x] [] (exb (nearB x)) := by
  refine spec_of_codeR (fn := Try.f126) tyOK mixes Try.func126 rfl rfl rfl rfl fun hg R0 hR => ?_
  refine c_seq fun NN1 nn1 => ?_
  refine c_region fun KK2 kk2 => ?_
  refine n_of (N' := KK2) kk2 ?_
  refine n_of (N' := NN1) nn1 ?_
  refine c_seq fun NN3 nn3 => ?_
  refine c_region fun KK4 kk4 => ?_
  refine And.intro (fun h0 => ?_) (fun h0 => ?_)
  · skip
    refine n_of (N' := KK4) kk4 ?_
    refine n_of (N' := NN3) nn3 ?_
    refine c_ret ?_
    refine n_of (N' := R0) hR ?_
    exact ⟨[], rfl, rfl, congrArg exb (by unfold nearB; rw [h0]; rfl)⟩
  · skip
    refine n_of (N' := KK4) kk4 ?_
    refine n_of (N' := NN3) nn3 ?_
    refine c_ret ?_
    refine n_of (N' := R0) hR ?_
    exact ⟨[], rfl, rfl, congrArg exb (by unfold nearB; rw [h0]; rfl)⟩

theorem s127 (o : Bool) (xs : List Nat) (W H : Nat) (w1 : 3 ≤ W) (w2 : W ≤ 16) (w3 : 3 ≤ H) (w4 : H ≤ 16) (hl : xs.length = W * H) (x y : Nat) (k l : Int) (hx : Flr x k) (hy : Flr y l) : SP 127 [basV W H 1, ar o xs] [.one (.pv 0 0), f32 x, f32 y] [basV W H 1, ar o xs] (fl32 (Fab xs W H x y k l)) := by
  refine spec_of_codeR (fn := Try.f127) tyOK mixes Try.func127 rfl rfl rfl ⟨.inl rfl, ⟨.inl rfl, rfl⟩⟩ fun hg R0 hR => ?_
  obtain ⟨_, k1, k2, _, _, _, _⟩ := id hx
  obtain ⟨_, l1, l2, _, _, _, _⟩ := id hy
  refine c_seq fun NN1 nn1 => ?_
  refine c_region fun KK2 kk2 => ?_
  refine n_of (N' := KK2) kk2 ?_
  refine n_of (N' := NN1) nn1 ?_
  refine c_seq fun NN3 nn3 => ?_
  refine c_region fun KK4 kk4 => ?_
  refine ⟨rfl, _, _, s151 _ hx.nn, ?_⟩
  refine And.intro ?_ ?_
  · (rw [hx.i1]; rfl)   -- 0 toint
  refine n_of (N' := KK4) kk4 ?_
  refine n_of (N' := NN3) nn3 ?_
  refine c_seq fun NN5 nn5 => ?_
  refine c_region fun KK6 kk6 => ?_
  refine ⟨rfl, _, _, s151 _ hy.nn, ?_⟩
  refine And.intro ?_ ?_
  · (rw [hy.i1]; rfl)   -- 1 toint
  refine n_of (N' := KK6) kk6 ?_
  refine n_of (N' := NN5) nn5 ?_
  refine c_seq fun NN7 nn7 => ?_
  refine c_region fun KK8 kk8 => ?_
  refine n_of (N' := KK8) kk8 ?_
  refine n_of (N' := NN7) nn7 ?_
  refine c_seq fun NN9 nn9 => ?_
  refine c_region fun KK10 kk10 => ?_
  refine n_of (N' := KK10) kk10 ?_
  refine n_of (N' := NN9) nn9 ?_
  refine c_seq fun NN11 nn11 => ?_
  refine c_region fun KK12 kk12 => ?_
  refine ⟨rfl, _, _, s100 _ _ _ _ w1 w2 w3 w4 hl _ _, ?_⟩
  refine ⟨rfl, _, _, s100 _ _ _ _ w1 w2 w3 w4 hl _ _, ?_⟩
  refine ⟨rfl, _, _, s100 _ _ _ _ w1 w2 w3 w4 hl _ _, ?_⟩
  refine n_of (N' := KK12) kk12 ?_
  refine n_of (N' := NN11) nn11 ?_
  refine c_seq fun NN13 nn13 => ?_
  refine c_region fun KK14 kk14 => ?_
  refine ⟨rfl, _, _, s100 _ _ _ _ w1 w2 w3 w4 hl _ _, ?_⟩
  refine ⟨rfl, _, _, s100 _ _ _ _ w1 w2 w3 w4 hl _ _, ?_⟩
  refine ⟨rfl, _, _, s100 _ _ _ _ w1 w2 w3 w4 hl _ _, ?_⟩
  refine n_of (N' := KK14) kk14 ?_
  refine n_of (N' := NN13) nn13 ?_
  refine c_seq fun NN15 nn15 => ?_
  refine c_region fun KK16 kk16 => ?_
  refine n_of (N' := KK16) kk16 ?_
  refine n_of (N' := NN15) nn15 ?_
  refine c_ret ?_
  refine n_of (N' := R0) hR ?_
  exact ⟨[], rfl, rfl, congrArg fl32 (by unfold Fab Frow; simp only [hx.f1, hy.f1]; simp (disch := omega) only [wr64])⟩

/-- The whole part. -/
def whl (x : Nat) : Int := ftoi .f64 (ffl (fwide x)) .i64
theorem flr_of {x : Nat} (hx : x < 4294967296) (h0 : x ≠ 2147483648) (hn : nearB x = true) : Flr x (whl x) := by
  obtain ⟨k, h1, h2, h3, h4, h5, h6⟩ := floor_all hx hn h0
  have e : whl x = k := by unfold whl; rw [ftoi_def, h3]; rfl
  rw [e]
  exact ⟨fwide_not_nan (near_nn hn), h1, h2, h3, h4, h5, h6⟩
theorem flr_place {n : Nat} (hn : n ≤ 256) (y : Nat) (h : nearB (fop .sub .f32 (fint .f32 (n : Int)) y) = true) : Flr (fop .sub .f32 (fint .f32 (n : Int)) y) (whl (fop .sub .f32 (fint .f32 (n : Int)) y)) :=
  flr_of (fop_lt _ _ _ (by simp)) (place_ne hn y) h

theorem s152 (o : Bool) (xs : List Nat) (W H : Nat) (w1 : 3 ≤ W) (w2 : W ≤ 16) (w3 : 3 ≤ H) (w4 : H ≤ 16) (hl : xs.length = W * H) (f : Nat) (k l : Int) (k1 : -1001 ≤ k) (k2 : k ≤ 1001) : SP 152 [.var 70 [.pv 3 0], .var 2 [.ex (.int .i64 k)], .var 32 [.fl .f32 f], basV W H 4, ar o xs] [i64 l, .one (.pv 0 0), .one (.pv 1 0), .one (.pv 2 0)] [.var 70 [.pv 3 0], .var 2 [.ex (.int .i64 k)], .var 32 [.fl .f32 f], basV W H 4, ar o xs] (fl32 (Frow xs f W H k l)) := by
  refine spec_of_codeR (fn := Try.f152) tyOK mixes Try.func152 rfl rfl rfl ⟨.inl rfl, ⟨.inl rfl, ⟨.inl rfl, ⟨.inl rfl, ⟨.inl rfl, rfl⟩⟩⟩⟩⟩ fun hg R0 hR => ?_
  refine c_seq fun NN1 nn1 => ?_
  refine c_region fun KK2 kk2 => ?_
  refine n_of (N' := KK2) kk2 ?_
  refine n_of (N' := NN1) nn1 ?_
  refine c_seq fun NN3 nn3 => ?_
  refine c_region fun KK4 kk4 => ?_
  refine ⟨rfl, _, _, s103 _ _ _ _ w1 w2 w3 w4 hl _ _, ?_⟩
  refine n_of (N' := KK4) kk4 ?_
  refine n_of (N' := NN3) nn3 ?_
  refine c_seq fun NN5 nn5 => ?_
  refine c_draw 10 [0, 1, 2, 3, 4, 5, 7, 6, 8, 9] (by kernel_rfl) fun KK6 kk6 => ?_
  refine ⟨rfl, _, _, s103 _ _ _ _ w1 w2 w3 w4 hl _ _, rfl, ?_⟩
  refine n_of (N' := KK6) kk6 ?_
  refine n_of (N' := NN5) nn5 ?_
  refine c_ret ?_
  refine n_of (N' := R0) hR ?_
  exact ⟨[], rfl, rfl, congrArg fl32 (by unfold Frow; simp (disch := omega) only [wr64])⟩

theorem s128 (o : Bool) (xs : List Nat) (W H : Nat) (w1 : 3 ≤ W) (w2 : W ≤ 16) (w3 : 3 ≤ H) (w4 : H ≤ 16) (hl : xs.length = W * H) (x y : Nat) (hx : nearB x = true → Flr x (whl x)) (hy : nearB y = true → Flr y (whl y)) : SP 128 [basV W H 1, ar o xs] [.one (.pv 0 0), f32 x, f32 y] [basV W H 1, ar o xs] (told (nearB x && nearB y) (Fab xs W H x y (whl x) (whl y))) := by
  refine spec_of_codeR (fn := Try.f128) tyOK mixes Try.func128 rfl rfl rfl ⟨.inl rfl, ⟨.inl rfl, rfl⟩⟩ fun hg R0 hR => ?_
  refine c_seq fun NN1 nn1 => ?_
  refine c_region fun KK2 kk2 => ?_
  refine n_of (N' := KK2) kk2 ?_
  refine n_of (N' := NN1) nn1 ?_
  refine c_seq fun NN3 nn3 => ?_
  refine c_seq fun NN4 nn4 => ?_
  refine c_region fun KK5 kk5 => ?_
  refine ⟨rfl, _, _, s129 _, ?_⟩
  refine And.intro (fun h0 => ?_) (fun h0 => ?_)
  · skip
    refine n_of (N' := KK5) kk5 ?_
    refine n_of (N' := NN4) nn4 ?_
    refine c_cond rfl (fun _ => ?_) (fun h => nomatch h)
    refine c_seq fun NN6 nn6 => ?_
    refine c_region fun KK7 kk7 => ?_
    refine n_of (N' := KK7) kk7 ?_
    refine n_of (N' := NN6) nn6 ?_
    refine c_ret ?_
    refine n_of (N' := R0) hR ?_
    have ok : nearB x = false := by rw [← near_abs]; exact not_t h0
    exact ⟨[], rfl, rfl, by rw [ok]; rfl⟩
  · skip
    have n1 : nearB x = true := by rw [← near_abs]; exact not_f h0
    have fx := hx n1
    obtain ⟨_, k1, k2, _, _, _, _⟩ := id fx
    refine ⟨rfl, _, _, s129 _, ?_⟩
    refine n_of (N' := KK5) kk5 ?_
    refine n_of (N' := NN4) nn4 ?_
    refine c_cond rfl (fun h1 => ?_) (fun h1 => ?_)
    · skip
      refine c_seq fun NN8 nn8 => ?_
      refine c_region fun KK9 kk9 => ?_
      refine n_of (N' := KK9) kk9 ?_
      refine n_of (N' := NN8) nn8 ?_
      refine c_ret ?_
      refine n_of (N' := R0) hR ?_
      have ok : nearB y = false := by rw [← near_abs]; exact not_t h1
      exact ⟨[], rfl, rfl, by rw [ok, Bool.and_false]; rfl⟩
    · skip
      have n2 : nearB y = true := by rw [← near_abs]; exact not_f h1
      have fy := hy n2
      obtain ⟨_, l1, l2, _, _, _, _⟩ := id fy
      refine c_skip ?_
      refine n_of (N' := NN3) nn3 ?_
      refine c_seq fun NN10 nn10 => ?_
      refine c_region fun KK11 kk11 => ?_
      refine ⟨rfl, _, _, s151 _ fx.nn, ?_⟩
      refine And.intro ?_ ?_
      · exact fx.nr   -- 0 narrow
      refine ⟨rfl, _, _, s151 _ fy.nn, ?_⟩
      refine And.intro ?_ ?_
      · exact fy.nr   -- 1 narrow
      refine n_of (N' := KK11) kk11 ?_
      refine n_of (N' := NN10) nn10 ?_
      refine c_seq fun NN12 nn12 => ?_
      refine c_region fun KK13 kk13 => ?_
      refine And.intro ?_ ?_
      · (rw [fx.i2]; rfl)   -- 2 toint
      refine And.intro ?_ ?_
      · (rw [fy.i2]; rfl)   -- 3 toint
      refine n_of (N' := KK13) kk13 ?_
      refine n_of (N' := NN12) nn12 ?_
      refine c_seq fun NN14 nn14 => ?_
      refine c_region fun KK15 kk15 => ?_
      refine n_of (N' := KK15) kk15 ?_
      refine n_of (N' := NN14) nn14 ?_
      refine c_seq fun NN16 nn16 => ?_
      refine c_region fun KK17 kk17 => ?_
      refine ⟨rfl, _, _, s152 _ _ _ _ w1 w2 w3 w4 hl _ _ _ (by (try dsimp only); rw [fx.f2]; omega) (by (try dsimp only); rw [fx.f2]; omega), ?_⟩
      refine n_of (N' := KK17) kk17 ?_
      refine n_of (N' := NN16) nn16 ?_
      refine c_seq fun NN18 nn18 => ?_
      refine c_region fun KK19 kk19 => ?_
      refine ⟨rfl, _, _, s152 _ _ _ _ w1 w2 w3 w4 hl _ _ _ (by (try dsimp only); rw [fx.f2]; omega) (by (try dsimp only); rw [fx.f2]; omega), ?_⟩
      refine n_of (N' := KK19) kk19 ?_
      refine n_of (N' := NN18) nn18 ?_
      refine c_ret ?_
      refine n_of (N' := R0) hR ?_
      exact ⟨[], rfl, rfl, by rw [n1, n2]; unfold Fab; rw [fx.f2, fy.f2]; rw [fx.fn, fy.fn]; simp (disch := omega) only [wr64]; rfl⟩

end
end Go.AX