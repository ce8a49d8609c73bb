/- What the functions of this program do, one contract a function, by that walk: each under what its own statement says. -/
import Derived.Test.YtfhgggjpdimaoaaSqE4
set_option linter.unusedVariables false
set_option linter.unusedSimpArgs false
namespace Go.AX
noncomputable section
open Go.RowKit Go.Proofs
set_option maxRecDepth 100000
set_option maxHeartbeats 4000000
open Go

theorem ixw2 {I J : Int} {i j N : Nat} (eI : I = (i : Int)) (eJ : J = (j : Int)) (hi : i < N) (hj : j < N) (hN : N ≤ 16) : IntKind.i64.wrap (IntKind.i64.wrap (I * (N : Int)) + J) = ((i * N + j : Nat) : Int) := by
  subst eI; subst eJ; exact ixw hi hj hN
theorem ixd2 {I J : Int} {L : Nat} (i j : Nat) {N : Nat} (eI : I = (i : Int)) (eJ : J = (j : Int)) (hL : N * N ≤ L) (hi : i < N) (hj : j < N) (hN : N ≤ 16) : 0 ≤ IntKind.i64.wrap (IntKind.i64.wrap (I * (N : Int)) + J) ∧ IntKind.i64.wrap (IntKind.i64.wrap (I * (N : Int)) + J) < (L : Int) := by
  subst eI; subst eJ; exact ixd hL hi hj hN
theorem ixl2 {I J : Int} {L : Nat} (i j : Nat) {N : Nat} (eI : I = (i : Int)) (eJ : J = (j : Int)) (hL : N * N ≤ L) (hi : i < N) (hj : j < N) (hN : N ≤ 16) : (IntKind.i64.wrap (IntKind.i64.wrap (I * (N : Int)) + J)).toNat < L := by
  subst eI; subst eJ; exact ixl hL hi hj hN
theorem flat_ix2 {F : Nat → Nat → Nat} {I J : Int} (i j : Nat) {N : Nat} (eI : I = (i : Int)) (eJ : J = (j : Int)) (hi : i < N) (hj : j < N) (hN : N ≤ 16) : (flat F N).getD (IntKind.i64.wrap (IntKind.i64.wrap (I * (N : Int)) + J)).toNat 0 = F i j := by
  subst eI; subst eJ; exact flat_ix hi hj hN
theorem vec_ix {b : Nat → Nat} {I : Int} (i : Nat) {N : Nat} (eI : I = (i : Int)) (hi : i < N) : (bld b N).getD I.toNat 0 = b i := by
  subst eI; rw [Int.toNat_natCast, bld_at 0 b hi]
theorem vec_ix2 {b : Nat → Nat} {I : Int} {v : Nat} (i : Nat) {N : Nat} (eI : I = (i : Int)) : (bld b N).set I.toNat v = bld (upb b i v) N := by
  subst eI; rw [Int.toNat_natCast, vec_set]
theorem elim_succ {F : Nat → Nat → Nat} {b : Nat → Nat} {N k : Nat} {G : Nat → Nat → Nat} {g : Nat → Nat} (h : elim F b N k = some (G, g)) (hp : pOK G k N = true) : elim F b N (k + 1) = some ((stp G g k N).1, (stp G g k N).2) := by
  show (elim F b N k).bind _ = _
  rw [h]; show (if pOK G k N = true then some (stp G g k N) else none) = _
  rw [if_pos hp]
theorem sol_piv {F : Nat → Nat → Nat} {b : Nat → Nat} {N k : Nat} {G : Nat → Nat → Nat} {g : Nat → Nat} (h : elim F b N k = some (G, g)) (hk : k < N) (hp : pOK G k N = false) : sol F b N = none := by
  have h1 : elim F b N (k + 1) = none := by
    show (elim F b N k).bind _ = _
    rw [h]; show (if pOK G k N = true then some (stp G g k N) else none) = _
    rw [if_neg (by rw [hp]; simp)]
  have h2 := elim_none h1 (N - (k + 1))
  rw [show k + 1 + (N - (k + 1)) = N by omega] at h2
  unfold sol; rw [h2]; rfl
theorem sol_bad {F : Nat → Nat → Nat} {b : Nat → Nat} {N t : Nat} {G : Nat → Nat → Nat} {g : Nat → Nat} (h : elim F b N N = some (G, g)) (ht : t < N) (hf : finB (bsx G g N (t + 1) (N - 1 - t)) = false) : sol F b N = none := by
  unfold sol; rw [h]
  show (if (bld (bsx G g N N) N).all finB = true then _ else none) = none
  rw [if_neg]
  rw [bld_not (N - 1 - t) (by omega) (by rw [bsx_keep (t := t + 1) (by omega) (Nat.le_refl _) (by omega)]; exact hf)]
  simp
theorem sol_good {F : Nat → Nat → Nat} {b : Nat → Nat} {N : Nat} {G : Nat → Nat → Nat} {g : Nat → Nat} (h : elim F b N N = some (G, g)) (hf : ∀ j, j < N → finB (bsx G g N N j) = true) : sol F b N = some (bld (bsx G g N N) N) := by
  unfold sol; rw [h]
  show (if (bld (bsx G g N N) N).all finB = true then _ else none) = _
  rw [if_pos (bld_all hf)]

theorem quo_ix {F : Nat → Nat → Nat} {i k N : Nat} (hi : i < N) (hk : k < N) (hN : N ≤ 16) : fop .quo .f32 ((flat F N).getD (IntKind.i64.wrap (IntKind.i64.wrap ((i : Int) * (N : Int)) + (k : Int))).toNat 0) ((flat F N).getD (IntKind.i64.wrap (IntKind.i64.wrap ((k : Int) * (N : Int)) + (k : Int))).toNat 0) = fop .quo .f32 (F i k) (F k k) := by
  rw [flat_ix hi hk hN, flat_ix hk hk hN]
theorem col_step {F : Nat → Nat → Nat} {i k m s N : Nat} (hi : i < N) (hk : k < N) (hc : k + 1 + s < N) (hN : N ≤ 16) :
    (flat (el F i k m s) N).set (IntKind.i64.wrap (IntKind.i64.wrap ((i : Int) * (N : Int)) + ((k + 1 + s : Nat) : Int))).toNat (fop .sub .f32 ((flat (el F i k m s) N).getD (IntKind.i64.wrap (IntKind.i64.wrap ((i : Int) * (N : Int)) + ((k + 1 + s : Nat) : Int))).toNat 0)
      (fop .mul .f32 m ((flat (el F i k m s) N).getD (IntKind.i64.wrap (IntKind.i64.wrap ((k : Int) * (N : Int)) + ((k + 1 + s : Nat) : Int))).toNat 0))) = flat (el F i k m (s + 1)) N := by
  rw [flat_ix hi hc hN, flat_ix hk hc hN, flat_put hi hc hN]; rfl
theorem row_b {b : Nat → Nat} {I K : Int} {m N : Nat} (i k : Nat) (eI : I = (i : Int)) (eK : K = (k : Int)) (hi : i < N) (hk : k < N) :
    (bld b N).set I.toNat (fop .sub .f32 ((bld b N).getD I.toNat 0) (fop .mul .f32 m ((bld b N).getD K.toNat 0))) = bld (upb b i (fop .sub .f32 (b i) (fop .mul .f32 m (b k)))) N := by
  rw [vec_ix i eI hi, vec_ix k eK hk, vec_ix2 i eI]
theorem wrI {I : Int} (a : Nat) (h : I + 1 = (a : Int)) (ha : a ≤ 100000) : IntKind.i64.wrap (I + 1) = (a : Int) := by rw [h, wr64 (by omega) (by omega)]
theorem sm_step {F : Nat → Nat → Nat} {x : Nat → Nat} {i s0 s N : Nat} {I J : Int} (eI : I = (i : Int)) (eJ : J = ((i + 1 + s : Nat) : Int)) (hi : i < N) (hj : i + 1 + s < N) (hN : N ≤ 16) :
    fop .sub .f32 (sm F x i s0 s) (fop .mul .f32 ((flat F N).getD (IntKind.i64.wrap (IntKind.i64.wrap (I * (N : Int)) + J)).toNat 0) ((bld x N).getD J.toNat 0)) = sm F x i s0 (s + 1) := by
  rw [flat_ix2 i (i + 1 + s) eI eJ hi hj hN, vec_ix (i + 1 + s) eJ hj]; rfl
theorem back_step {G : Nat → Nat → Nat} {g : Nat → Nat} {t N : Nat} {I : Int} (eI : I = ((N - 1 - t : Nat) : Int)) (ht : t < N) (hN : N ≤ 16) :
    (bld (bsx G g N t) N).set I.toNat (fop .quo .f32 (sm G (bsx G g N t) (N - 1 - t) (g (N - 1 - t)) t) ((flat G N).getD (IntKind.i64.wrap (IntKind.i64.wrap (I * (N : Int)) + I)).toNat 0)) = bld (bsx G g N (t + 1)) N := by
  rw [flat_ix2 (N - 1 - t) (N - 1 - t) eI eI (by omega) (by omega) hN, vec_ix2 (N - 1 - t) eI]; rfl
theorem back_fin {G : Nat → Nat → Nat} {g : Nat → Nat} {t N : Nat} {I : Int} (eI : I = ((N - 1 - t : Nat) : Int)) (ht : t < N) (hN : N ≤ 16) :
    finB (((bld (bsx G g N t) N).set I.toNat (fop .quo .f32 (sm G (bsx G g N t) (N - 1 - t) (g (N - 1 - t)) t) ((flat G N).getD (IntKind.i64.wrap (IntKind.i64.wrap (I * (N : Int)) + I)).toNat 0))).getD I.toNat 0) = finB (bsx G g N (t + 1) (N - 1 - t)) := by
  rw [back_step eI ht hN, vec_ix (N - 1 - t) eI (by omega)]
theorem fin_next {G : Nat → Nat → Nat} {g : Nat → Nat} {t N : Nat} (ht : t < N) (h : ∀ j, j < N → N - t ≤ j → finB (bsx G g N t j) = true) (hv : finB (bsx G g N (t + 1) (N - 1 - t)) = true) : ∀ j, j < N → N - (t + 1) ≤ j → finB (bsx G g N (t + 1) j) = true := by
  intro j h1 h2
  by_cases e : j = N - 1 - t
  · subst e; exact hv
  · rw [bsx_keep (t := t) (by omega) (by omega) (by omega)]; exact h j h1 (by omega)

theorem s51 (o o2 : Bool) (F : Nat → Nat → Nat) (bl : List Nat) (hN0 : 0 < bl.length) (hN : bl.length ≤ 16) : SP 51 [ar o (flat F bl.length), ar o2 bl] [.one (.sl 0), .one (.sl 1)] [ar o (flat F bl.length), ar o2 bl, ar true (solL (sol F (fun i => bl.getD i 0) bl.length))] (.tup [.one (.sl 2), .one (.ex (.bool (sol F (fun i => bl.getD i 0) bl.length).isSome))]) := by
  refine spec_of_codeR (fn := Try.f51) tyOK mixes Try.func51 rfl rfl rfl ⟨.inl rfl, ⟨.inl rfl, rfl⟩⟩ fun hg R0 hR => ?_
  have hNN : bl.length * bl.length ≤ 16 * 16 := Nat.mul_le_mul hN hN
  refine c_seq fun NN1 nn1 => ?_
  refine c_region fun KK2 kk2 => ?_
  refine n_of (N' := KK2) kk2 ?_
  refine n_of (N' := NN1) nn1 ?_
  refine c_seq fun NN3 nn3 => ?_
  refine c_region fun KK4 kk4 => ?_
  refine n_of (N' := KK4) kk4 ?_
  refine n_of (N' := NN3) nn3 ?_
  refine c_seq fun NN5 nn5 => ?_
  refine c_region fun KK6 kk6 => ?_
  refine And.intro ?_ ?_
  · (refine ⟨?_, by decide⟩; (try dsimp only); (try simp only [Dat.len, Int.toNat_natCast, flatN_len, bld_len, List.length_set, List.length_append, List.length_replicate, List.length_nil]); omega)   -- 0 append
  refine n_of (N' := KK6) kk6 ?_
  refine n_of (N' := NN5) nn5 ?_
  refine c_seq fun NN7 nn7 => ?_
  refine c_region fun KK8 kk8 => ?_
  refine And.intro ?_ ?_
  · (refine ⟨?_, by decide⟩; (try dsimp only); (try simp only [Dat.len, Int.toNat_natCast, flatN_len, bld_len, List.length_set, List.length_append, List.length_replicate, List.length_nil]); omega)   -- 1 append
  refine n_of (N' := KK8) kk8 ?_
  refine n_of (N' := NN7) nn7 ?_
  refine c_seq fun NN9 nn9 => ?_
  refine c_seq fun NN10 nn10 => ?_
  refine c_region fun KK11 kk11 => ?_
  refine n_of (N' := KK11) kk11 ?_
  refine n_of (N' := NN10) nn10 ?_
  refine c_block fun XX12 xx12 => ?_
  refine loop_keep [] [6, 7, 8] (ι := { S : Nat × (Nat → Nat → Nat) × (Nat → Nat) // S.1 ≤ bl.length ∧ elim F (fun i => bl.getD i 0) bl.length S.1 = some (S.2.1, S.2.2) }) (fun i => [(9, exi .i64 (i.1.1 : Nat))]) (fun i => [(2, ar true (flat i.1.2.1 bl.length)), (3, ar true (bld i.1.2.2 bl.length))]) (fun i => bl.length - i.1.1) ⟨(0, F, (fun i => bl.getD i 0)), Nat.zero_le _, rfl⟩ trivial rfl ?_
  refine ⟨?_, ?_, ?_⟩
  · exact ⟨.inr rfl, trivial⟩
  · exact ⟨rfl, rfl, rfl, congrArg (ar true) (vec_of bl), trivial⟩
  refine fun ⟨⟨k, G, g⟩, hk, hel⟩ NL13 nl13 => ?_
  refine c_norm rfl rfl ?_
  (try dsimp only at hk hel)
  refine c_seq fun NN14 nn14 => ?_
  refine c_seq fun NN15 nn15 => ?_
  refine c_region fun KK16 kk16 => ?_
  refine n_of (N' := KK16) kk16 ?_
  refine n_of (N' := NN15) nn15 ?_
  refine c_cond rfl (fun h0 => ?_) (fun h0 => ?_)
  · skip
    have q0 := of_decide_eq_true h0
    (try dsimp only at q0)
    (try simp only [Dat.len, flatN_len, bld_len, List.length_set, List.length_append, List.length_replicate, List.length_nil] at q0)
    have hk0 : k < bl.length := by ((try dsimp only); (try simp only [Dat.len, Int.toNat_natCast, List.length_set, flatN_len, bld_len]); first | done | omega)
    have hpv := pv_lt (F := G) hk0
    refine c_skip ?_
    refine n_of (N' := NN14) nn14 ?_
    refine c_seq fun NN17 nn17 => ?_
    refine c_block fun XX18 xx18 => ?_
    refine c_seq fun NN19 nn19 => ?_
    refine c_region fun KK20 kk20 => ?_
    refine ⟨rfl, _, _, s74 _ G bl.length k (by omega) hN, ?_⟩
    refine n_of (N' := KK20) kk20 ?_
    refine n_of (N' := NN19) nn19 ?_
    refine c_seq fun NN21 nn21 => ?_
    refine c_seq fun NN22 nn22 => ?_
    refine c_region fun KK23 kk23 => ?_
    refine And.intro ?_ ?_
    · first | ((try dsimp only); (try simp only [Dat.len, Int.toNat_natCast, List.length_set, flatN_len, bld_len]); first | done | omega) | (exact ixd2 (bl.length - 1 - t) (bl.length - t + s) (by ((try dsimp only); (try simp only [Dat.len, Int.toNat_natCast, List.length_set, flatN_len, bld_len]); first | done | omega)) (by ((try dsimp only); (try simp only [Dat.len, Int.toNat_natCast, List.length_set, flatN_len, bld_len]); first | done | omega)) (by (simp only [Dat.len, List.length_set, flatN_len, bld_len]; first | done | exact Nat.le_refl _)) (by ((try dsimp only); (try simp only [Dat.len, Int.toNat_natCast, List.length_set, flatN_len, bld_len]); first | done | omega)) (by ((try dsimp only); (try simp only [Dat.len, Int.toNat_natCast, List.length_set, flatN_len, bld_len]); first | done | omega)) hN) | (exact ixd2 (bl.length - 1 - t) (bl.length - 1 - t) (by ((try dsimp only); (try simp only [Dat.len, Int.toNat_natCast, List.length_set, flatN_len, bld_len]); first | done | omega)) (by ((try dsimp only); (try simp only [Dat.len, Int.toNat_natCast, List.length_set, flatN_len, bld_len]); first | done | omega)) (by (simp only [Dat.len, List.length_set, flatN_len, bld_len]; first | done | exact Nat.le_refl _)) (by ((try dsimp only); (try simp only [Dat.len, Int.toNat_natCast, List.length_set, flatN_len, bld_len]); first | done | omega)) (by ((try dsimp only); (try simp only [Dat.len, Int.toNat_natCast, List.length_set, flatN_len, bld_len]); first | done | omega)) hN) | exact ixd (by (simp only [Dat.len, List.length_set, flatN_len, bld_len]; first | done | exact Nat.le_refl _)) (by ((try dsimp only); (try simp only [Dat.len, Int.toNat_natCast, List.length_set, flatN_len, bld_len]); first | done | omega)) (by ((try dsimp only); (try simp only [Dat.len, Int.toNat_natCast, List.length_set, flatN_len, bld_len]); first | done | omega)) hN   -- 2 index
    refine And.intro ?_ ?_
    · first | ((try dsimp only); (try simp only [Dat.len, Int.toNat_natCast, List.length_set, flatN_len, bld_len]); first | done | omega) | (exact ixl2 (bl.length - 1 - t) (bl.length - t + s) (by ((try dsimp only); (try simp only [Dat.len, Int.toNat_natCast, List.length_set, flatN_len, bld_len]); first | done | omega)) (by ((try dsimp only); (try simp only [Dat.len, Int.toNat_natCast, List.length_set, flatN_len, bld_len]); first | done | omega)) (by (simp only [Dat.len, List.length_set, flatN_len, bld_len]; first | done | exact Nat.le_refl _)) (by ((try dsimp only); (try simp only [Dat.len, Int.toNat_natCast, List.length_set, flatN_len, bld_len]); first | done | omega)) (by ((try dsimp only); (try simp only [Dat.len, Int.toNat_natCast, List.length_set, flatN_len, bld_len]); first | done | omega)) hN) | (exact ixl2 (bl.length - 1 - t) (bl.length - 1 - t) (by ((try dsimp only); (try simp only [Dat.len, Int.toNat_natCast, List.length_set, flatN_len, bld_len]); first | done | omega)) (by ((try dsimp only); (try simp only [Dat.len, Int.toNat_natCast, List.length_set, flatN_len, bld_len]); first | done | omega)) (by (simp only [Dat.len, List.length_set, flatN_len, bld_len]; first | done | exact Nat.le_refl _)) (by ((try dsimp only); (try simp only [Dat.len, Int.toNat_natCast, List.length_set, flatN_len, bld_len]); first | done | omega)) (by ((try dsimp only); (try simp only [Dat.len, Int.toNat_natCast, List.length_set, flatN_len, bld_len]); first | done | omega)) hN) | exact ixl (by (simp only [Dat.len, List.length_set, flatN_len, bld_len]; first | done | exact Nat.le_refl _)) (by ((try dsimp only); (try simp only [Dat.len, Int.toNat_natCast, List.length_set, flatN_len, bld_len]); first | done | omega)) (by ((try dsimp only); (try simp only [Dat.len, Int.toNat_natCast, List.length_set, flatN_len, bld_len]); first | done | omega)) hN   -- 3 load
    refine ⟨rfl, _, _, s75 _, ?_⟩
    refine n_of (N' := KK23) kk23 ?_
    refine n_of (N' := NN22) nn22 ?_
    refine c_cond rfl (fun h1 => ?_) (fun h1 => ?_)
    · skip
      have hp0 : pOK G k bl.length = false := by
        unfold pOK
        rw [← flat_ix (F := G) hpv.2 hk0 hN]
        exact not_t h1
      refine c_seq fun NN24 nn24 => ?_
      refine c_region fun KK25 kk25 => ?_
      refine n_of (N' := KK25) kk25 ?_
      refine n_of (N' := NN24) nn24 ?_
      refine c_ret ?_
      refine n_of (N' := R0) hR ?_
      have ok := sol_piv hel hk0 hp0
      exact ⟨[.nil 23 (.f [])], rfl, rfl, by rw [ok]; rfl, by rw [ok]; rfl⟩
    · skip
      have hp0 : pOK G k bl.length = true := by
        unfold pOK
        rw [← flat_ix (F := G) hpv.2 hk0 hN]
        exact not_f h1
      refine c_skip ?_
      refine n_of (N' := NN21) nn21 ?_
      refine c_seq fun NN26 nn26 => ?_
      refine c_region fun KK27 kk27 => ?_
      refine ⟨rfl, _, _, s76 G g bl.length k (pv G k bl.length) (by omega) (pv_lt (by omega)).2 hN, ?_⟩
      refine n_of (N' := KK27) kk27 ?_
      refine n_of (N' := NN26) nn26 ?_
      refine c_seq fun NN28 nn28 => ?_
      refine c_region fun KK29 kk29 => ?_
      refine n_of (N' := KK29) kk29 ?_
      refine n_of (N' := NN28) nn28 ?_
      refine c_block fun XX30 xx30 => ?_
      refine loop_keep [] [6, 7, 8, 9] (ι := { t : Nat // k + 1 + t ≤ bl.length }) (fun i => [(11, exi .i64 ((k + 1 + i.1 : Nat) : Int))]) (fun i => [(2, ar true (flat (rws (fun r c => G (swp k (pv G k bl.length) r) c) (fun r => g (swp k (pv G k bl.length) r)) k bl.length i.1).1 bl.length)), (3, ar true (bld (rws (fun r c => G (swp k (pv G k bl.length) r) c) (fun r => g (swp k (pv G k bl.length) r)) k bl.length i.1).2 bl.length))]) (fun i => bl.length - i.1) ⟨0, by omega⟩ trivial rfl ?_
      refine ⟨?_, ?_, ?_⟩
      · exact ⟨.inr (congrArg (exi .i64) (wrN (a := k) (b := 1) (by omega))), trivial⟩
      · exact ⟨rfl, rfl, rfl, rfl, trivial⟩
      refine fun ⟨t, ht⟩ NL31 nl31 => ?_
      refine c_norm rfl rfl ?_
      refine c_seq fun NN32 nn32 => ?_
      refine c_seq fun NN33 nn33 => ?_
      refine c_region fun KK34 kk34 => ?_
      refine n_of (N' := KK34) kk34 ?_
      refine n_of (N' := NN33) nn33 ?_
      refine c_cond rfl (fun h2 => ?_) (fun h2 => ?_)
      · skip
        have q2 := of_decide_eq_true h2
        (try dsimp only at q2)
        (try simp only [Dat.len, flatN_len, bld_len, List.length_set, List.length_append, List.length_replicate, List.length_nil] at q2)
        have ht1 : k + 1 + t < bl.length := by ((try dsimp only); (try simp only [Dat.len, Int.toNat_natCast, List.length_set, flatN_len, bld_len]); first | done | omega)
        refine c_skip ?_
        refine n_of (N' := NN32) nn32 ?_
        refine c_seq fun NN35 nn35 => ?_
        refine c_block fun XX36 xx36 => ?_
        refine c_seq fun NN37 nn37 => ?_
        refine c_draw 16 [0, 1, 2, 3, 4, 5, 6, 7, 8, 9, 10, 11, 12, 13, 14, 15] (by kernel_rfl) fun KK38 kk38 => ?_
        refine And.intro ?_ ?_
        · first | ((try dsimp only); (try simp only [Dat.len, Int.toNat_natCast, List.length_set, flatN_len, bld_len]); first | done | omega) | (exact ixd2 (bl.length - 1 - t) (bl.length - t + s) (by ((try dsimp only); (try simp only [Dat.len, Int.toNat_natCast, List.length_set, flatN_len, bld_len]); first | done | omega)) (by ((try dsimp only); (try simp only [Dat.len, Int.toNat_natCast, List.length_set, flatN_len, bld_len]); first | done | omega)) (by (simp only [Dat.len, List.length_set, flatN_len, bld_len]; first | done | exact Nat.le_refl _)) (by ((try dsimp only); (try simp only [Dat.len, Int.toNat_natCast, List.length_set, flatN_len, bld_len]); first | done | omega)) (by ((try dsimp only); (try simp only [Dat.len, Int.toNat_natCast, List.length_set, flatN_len, bld_len]); first | done | omega)) hN) | (exact ixd2 (bl.length - 1 - t) (bl.length - 1 - t) (by ((try dsimp only); (try simp only [Dat.len, Int.toNat_natCast, List.length_set, flatN_len, bld_len]); first | done | omega)) (by ((try dsimp only); (try simp only [Dat.len, Int.toNat_natCast, List.length_set, flatN_len, bld_len]); first | done | omega)) (by (simp only [Dat.len, List.length_set, flatN_len, bld_len]; first | done | exact Nat.le_refl _)) (by ((try dsimp only); (try simp only [Dat.len, Int.toNat_natCast, List.length_set, flatN_len, bld_len]); first | done | omega)) (by ((try dsimp only); (try simp only [Dat.len, Int.toNat_natCast, List.length_set, flatN_len, bld_len]); first | done | omega)) hN) | exact ixd (by (simp only [Dat.len, List.length_set, flatN_len, bld_len]; first | done | exact Nat.le_refl _)) (by ((try dsimp only); (try simp only [Dat.len, Int.toNat_natCast, List.length_set, flatN_len, bld_len]); first | done | omega)) (by ((try dsimp only); (try simp only [Dat.len, Int.toNat_natCast, List.length_set, flatN_len, bld_len]); first | done | omega)) hN   -- 4 index
        refine And.intro ?_ ?_
        · first | ((try dsimp only); (try simp only [Dat.len, Int.toNat_natCast, List.length_set, flatN_len, bld_len]); first | done | omega) | (exact ixl2 (bl.length - 1 - t) (bl.length - t + s) (by ((try dsimp only); (try simp only [Dat.len, Int.toNat_natCast, List.length_set, flatN_len, bld_len]); first | done | omega)) (by ((try dsimp only); (try simp only [Dat.len, Int.toNat_natCast, List.length_set, flatN_len, bld_len]); first | done | omega)) (by (simp only [Dat.len, List.length_set, flatN_len, bld_len]; first | done | exact Nat.le_refl _)) (by ((try dsimp only); (try simp only [Dat.len, Int.toNat_natCast, List.length_set, flatN_len, bld_len]); first | done | omega)) (by ((try dsimp only); (try simp only [Dat.len, Int.toNat_natCast, List.length_set, flatN_len, bld_len]); first | done | omega)) hN) | (exact ixl2 (bl.length - 1 - t) (bl.length - 1 - t) (by ((try dsimp only); (try simp only [Dat.len, Int.toNat_natCast, List.length_set, flatN_len, bld_len]); first | done | omega)) (by ((try dsimp only); (try simp only [Dat.len, Int.toNat_natCast, List.length_set, flatN_len, bld_len]); first | done | omega)) (by (simp only [Dat.len, List.length_set, flatN_len, bld_len]; first | done | exact Nat.le_refl _)) (by ((try dsimp only); (try simp only [Dat.len, Int.toNat_natCast, List.length_set, flatN_len, bld_len]); first | done | omega)) (by ((try dsimp only); (try simp only [Dat.len, Int.toNat_natCast, List.length_set, flatN_len, bld_len]); first | done | omega)) hN) | exact ixl (by (simp only [Dat.len, List.length_set, flatN_len, bld_len]; first | done | exact Nat.le_refl _)) (by ((try dsimp only); (try simp only [Dat.len, Int.toNat_natCast, List.length_set, flatN_len, bld_len]); first | done | omega)) (by ((try dsimp only); (try simp only [Dat.len, Int.toNat_natCast, List.length_set, flatN_len, bld_len]); first | done | omega)) hN   -- 5 load
        refine And.intro ?_ ?_
        · first | ((try dsimp only); (try simp only [Dat.len, Int.toNat_natCast, List.length_set, flatN_len, bld_len]); first | done | omega) | (exact ixd2 (bl.length - 1 - t) (bl.length - t + s) (by ((try dsimp only); (try simp only [Dat.len, Int.toNat_natCast, List.length_set, flatN_len, bld_len]); first | done | omega)) (by ((try dsimp only); (try simp only [Dat.len, Int.toNat_natCast, List.length_set, flatN_len, bld_len]); first | done | omega)) (by (simp only [Dat.len, List.length_set, flatN_len, bld_len]; first | done | exact Nat.le_refl _)) (by ((try dsimp only); (try simp only [Dat.len, Int.toNat_natCast, List.length_set, flatN_len, bld_len]); first | done | omega)) (by ((try dsimp only); (try simp only [Dat.len, Int.toNat_natCast, List.length_set, flatN_len, bld_len]); first | done | omega)) hN) | (exact ixd2 (bl.length - 1 - t) (bl.length - 1 - t) (by ((try dsimp only); (try simp only [Dat.len, Int.toNat_natCast, List.length_set, flatN_len, bld_len]); first | done | omega)) (by ((try dsimp only); (try simp only [Dat.len, Int.toNat_natCast, List.length_set, flatN_len, bld_len]); first | done | omega)) (by (simp only [Dat.len, List.length_set, flatN_len, bld_len]; first | done | exact Nat.le_refl _)) (by ((try dsimp only); (try simp only [Dat.len, Int.toNat_natCast, List.length_set, flatN_len, bld_len]); first | done | omega)) (by ((try dsimp only); (try simp only [Dat.len, Int.toNat_natCast, List.length_set, flatN_len, bld_len]); first | done | omega)) hN) | exact ixd (by (simp only [Dat.len, List.length_set, flatN_len, bld_len]; first | done | exact Nat.le_refl _)) (by ((try dsimp only); (try simp only [Dat.len, Int.toNat_natCast, List.length_set, flatN_len, bld_len]); first | done | omega)) (by ((try dsimp only); (try simp only [Dat.len, Int.toNat_natCast, List.length_set, flatN_len, bld_len]); first | done | omega)) hN   -- 6 index
        refine And.intro ?_ ?_
        · first | ((try dsimp only); (try simp only [Dat.len, Int.toNat_natCast, List.length_set, flatN_len, bld_len]); first | done | omega) | (exact ixl2 (bl.length - 1 - t) (bl.length - t + s) (by ((try dsimp only); (try simp only [Dat.len, Int.toNat_natCast, List.length_set, flatN_len, bld_len]); first | done | omega)) (by ((try dsimp only); (try simp only [Dat.len, Int.toNat_natCast, List.length_set, flatN_len, bld_len]); first | done | omega)) (by (simp only [Dat.len, List.length_set, flatN_len, bld_len]; first | done | exact Nat.le_refl _)) (by ((try dsimp only); (try simp only [Dat.len, Int.toNat_natCast, List.length_set, flatN_len, bld_len]); first | done | omega)) (by ((try dsimp only); (try simp only [Dat.len, Int.toNat_natCast, List.length_set, flatN_len, bld_len]); first | done | omega)) hN) | (exact ixl2 (bl.length - 1 - t) (bl.length - 1 - t) (by ((try dsimp only); (try simp only [Dat.len, Int.toNat_natCast, List.length_set, flatN_len, bld_len]); first | done | omega)) (by ((try dsimp only); (try simp only [Dat.len, Int.toNat_natCast, List.length_set, flatN_len, bld_len]); first | done | omega)) (by (simp only [Dat.len, List.length_set, flatN_len, bld_len]; first | done | exact Nat.le_refl _)) (by ((try dsimp only); (try simp only [Dat.len, Int.toNat_natCast, List.length_set, flatN_len, bld_len]); first | done | omega)) (by ((try dsimp only); (try simp only [Dat.len, Int.toNat_natCast, List.length_set, flatN_len, bld_len]); first | done | omega)) hN) | exact ixl (by (simp only [Dat.len, List.length_set, flatN_len, bld_len]; first | done | exact Nat.le_refl _)) (by ((try dsimp only); (try simp only [Dat.len, Int.toNat_natCast, List.length_set, flatN_len, bld_len]); first | done | omega)) (by ((try dsimp only); (try simp only [Dat.len, Int.toNat_natCast, List.length_set, flatN_len, bld_len]); first | done | omega)) hN   -- 7 load
        refine n_of (N' := KK38) kk38 ?_
        refine n_of (N' := NN37) nn37 ?_
        refine c_seq fun NN39 nn39 => ?_
        refine c_seq fun NN40 nn40 => ?_
        refine c_region fun KK41 kk41 => ?_
        refine n_of (N' := KK41) kk41 ?_
        refine n_of (N' := NN40) nn40 ?_
        refine c_block fun XX42 xx42 => ?_
        refine loop_keep [] [6, 7, 8, 9, 11] (ι := { s : Nat // k + 1 + s ≤ bl.length }) (fun i => [(12, fl32 (fop .quo .f32 ((rws (fun r c => G (swp k (pv G k bl.length) r) c) (fun r => g (swp k (pv G k bl.length) r)) k bl.length t).1 (k + 1 + t) k) ((rws (fun r c => G (swp k (pv G k bl.length) r) c) (fun r => g (swp k (pv G k bl.length) r)) k bl.length t).1 k k))), (13, exi .i64 ((k + 1 + i.1 : Nat) : Int))]) (fun i => [(2, ar true (flat (el (rws (fun r c => G (swp k (pv G k bl.length) r) c) (fun r => g (swp k (pv G k bl.length) r)) k bl.length t).1 (k + 1 + t) k (fop .quo .f32 ((rws (fun r c => G (swp k (pv G k bl.length) r) c) (fun r => g (swp k (pv G k bl.length) r)) k bl.length t).1 (k + 1 + t) k) ((rws (fun r c => G (swp k (pv G k bl.length) r) c) (fun r => g (swp k (pv G k bl.length) r)) k bl.length t).1 k k)) i.1) bl.length))]) (fun i => bl.length - i.1) ⟨0, by omega⟩ trivial rfl ?_
        refine ⟨?_, ?_, ?_⟩
        · exact ⟨.inr (congrArg fl32 (quo_ix ht1 hk0 hN)), .inr (congrArg (exi .i64) (wrN (a := k) (b := 1) (by omega))), trivial⟩
        · exact ⟨rfl, rfl, rfl, rfl, trivial⟩
        refine fun ⟨s, hs⟩ NL43 nl43 => ?_
        refine c_norm rfl rfl ?_
        refine c_seq fun NN44 nn44 => ?_
        refine c_seq fun NN45 nn45 => ?_
        refine c_region fun KK46 kk46 => ?_
        refine n_of (N' := KK46) kk46 ?_
        refine n_of (N' := NN45) nn45 ?_
        refine c_cond rfl (fun h3 => ?_) (fun h3 => ?_)
        · skip
          have q3 := of_decide_eq_true h3
          (try dsimp only at q3)
          (try simp only [Dat.len, flatN_len, bld_len, List.length_set, List.length_append, List.length_replicate, List.length_nil] at q3)
          have hs1 : k + 1 + s < bl.length := by ((try dsimp only); (try simp only [Dat.len, Int.toNat_natCast, List.length_set, flatN_len, bld_len]); first | done | omega)
          refine c_skip ?_
          refine n_of (N' := NN44) nn44 ?_
          refine c_seq fun NN47 nn47 => ?_
          refine c_block fun XX48 xx48 => ?_
          refine c_draw 25 [0, 1, 2, 3, 4, 5, 6, 7, 8, 9, 10, 11, 12, 13, 14, 15, 16, 17, 18, 19, 20, 21, 22, 23, 24] (by kernel_rfl) fun KK49 kk49 => ?_
          refine And.intro ?_ ?_
          · first | ((try dsimp only); (try simp only [Dat.len, Int.toNat_natCast, List.length_set, flatN_len, bld_len]); first | done | omega) | (exact ixd2 (bl.length - 1 - t) (bl.length - t + s) (by ((try dsimp only); (try simp only [Dat.len, Int.toNat_natCast, List.length_set, flatN_len, bld_len]); first | done | omega)) (by ((try dsimp only); (try simp only [Dat.len, Int.toNat_natCast, List.length_set, flatN_len, bld_len]); first | done | omega)) (by (simp only [Dat.len, List.length_set, flatN_len, bld_len]; first | done | exact Nat.le_refl _)) (by ((try dsimp only); (try simp only [Dat.len, Int.toNat_natCast, List.length_set, flatN_len, bld_len]); first | done | omega)) (by ((try dsimp only); (try simp only [Dat.len, Int.toNat_natCast, List.length_set, flatN_len, bld_len]); first | done | omega)) hN) | (exact ixd2 (bl.length - 1 - t) (bl.length - 1 - t) (by ((try dsimp only); (try simp only [Dat.len, Int.toNat_natCast, List.length_set, flatN_len, bld_len]); first | done | omega)) (by ((try dsimp only); (try simp only [Dat.len, Int.toNat_natCast, List.length_set, flatN_len, bld_len]); first | done | omega)) (by (simp only [Dat.len, List.length_set, flatN_len, bld_len]; first | done | exact Nat.le_refl _)) (by ((try dsimp only); (try simp only [Dat.len, Int.toNat_natCast, List.length_set, flatN_len, bld_len]); first | done | omega)) (by ((try dsimp only); (try simp only [Dat.len, Int.toNat_natCast, List.length_set, flatN_len, bld_len]); first | done | omega)) hN) | exact ixd (by (simp only [Dat.len, List.length_set, flatN_len, bld_len]; first | done | exact Nat.le_refl _)) (by ((try dsimp only); (try simp only [Dat.len, Int.toNat_natCast, List.length_set, flatN_len, bld_len]); first | done | omega)) (by ((try dsimp only); (try simp only [Dat.len, Int.toNat_natCast, List.length_set, flatN_len, bld_len]); first | done | omega)) hN   -- 8 index
          refine And.intro ?_ ?_
          · first | ((try dsimp only); (try simp only [Dat.len, Int.toNat_natCast, List.length_set, flatN_len, bld_len]); first | done | omega) | (exact ixl2 (bl.length - 1 - t) (bl.length - t + s) (by ((try dsimp only); (try simp only [Dat.len, Int.toNat_natCast, List.length_set, flatN_len, bld_len]); first | done | omega)) (by ((try dsimp only); (try simp only [Dat.len, Int.toNat_natCast, List.length_set, flatN_len, bld_len]); first | done | omega)) (by (simp only [Dat.len, List.length_set, flatN_len, bld_len]; first | done | exact Nat.le_refl _)) (by ((try dsimp only); (try simp only [Dat.len, Int.toNat_natCast, List.length_set, flatN_len, bld_len]); first | done | omega)) (by ((try dsimp only); (try simp only [Dat.len, Int.toNat_natCast, List.length_set, flatN_len, bld_len]); first | done | omega)) hN) | (exact ixl2 (bl.length - 1 - t) (bl.length - 1 - t) (by ((try dsimp only); (try simp only [Dat.len, Int.toNat_natCast, List.length_set, flatN_len, bld_len]); first | done | omega)) (by ((try dsimp only); (try simp only [Dat.len, Int.toNat_natCast, List.length_set, flatN_len, bld_len]); first | done | omega)) (by (simp only [Dat.len, List.length_set, flatN_len, bld_len]; first | done | exact Nat.le_refl _)) (by ((try dsimp only); (try simp only [Dat.len, Int.toNat_natCast, List.length_set, flatN_len, bld_len]); first | done | omega)) (by ((try dsimp only); (try simp only [Dat.len, Int.toNat_natCast, List.length_set, flatN_len, bld_len]); first | done | omega)) hN) | exact ixl (by (simp only [Dat.len, List.length_set, flatN_len, bld_len]; first | done | exact Nat.le_refl _)) (by ((try dsimp only); (try simp only [Dat.len, Int.toNat_natCast, List.length_set, flatN_len, bld_len]); first | done | omega)) (by ((try dsimp only); (try simp only [Dat.len, Int.toNat_natCast, List.length_set, flatN_len, bld_len]); first | done | omega)) hN   -- 9 load
          refine And.intro ?_ ?_
          · first | ((try dsimp only); (try simp only [Dat.len, Int.toNat_natCast, List.length_set, flatN_len, bld_len]); first | done | omega) | (exact ixd2 (bl.length - 1 - t) (bl.length - t + s) (by ((try dsimp only); (try simp only [Dat.len, Int.toNat_natCast, List.length_set, flatN_len, bld_len]); first | done | omega)) (by ((try dsimp only); (try simp only [Dat.len, Int.toNat_natCast, List.length_set, flatN_len, bld_len]); first | done | omega)) (by (simp only [Dat.len, List.length_set, flatN_len, bld_len]; first | done | exact Nat.le_refl _)) (by ((try dsimp only); (try simp only [Dat.len, Int.toNat_natCast, List.length_set, flatN_len, bld_len]); first | done | omega)) (by ((try dsimp only); (try simp only [Dat.len, Int.toNat_natCast, List.length_set, flatN_len, bld_len]); first | done | omega)) hN) | (exact ixd2 (bl.length - 1 - t) (bl.length - 1 - t) (by ((try dsimp only); (try simp only [Dat.len, Int.toNat_natCast, List.length_set, flatN_len, bld_len]); first | done | omega)) (by ((try dsimp only); (try simp only [Dat.len, Int.toNat_natCast, List.length_set, flatN_len, bld_len]); first | done | omega)) (by (simp only [Dat.len, List.length_set, flatN_len, bld_len]; first | done | exact Nat.le_refl _)) (by ((try dsimp only); (try simp only [Dat.len, Int.toNat_natCast, List.length_set, flatN_len, bld_len]); first | done | omega)) (by ((try dsimp only); (try simp only [Dat.len, Int.toNat_natCast, List.length_set, flatN_len, bld_len]); first | done | omega)) hN) | exact ixd (by (simp only [Dat.len, List.length_set, flatN_len, bld_len]; first | done | exact Nat.le_refl _)) (by ((try dsimp only); (try simp only [Dat.len, Int.toNat_natCast, List.length_set, flatN_len, bld_len]); first | done | omega)) (by ((try dsimp only); (try simp only [Dat.len, Int.toNat_natCast, List.length_set, flatN_len, bld_len]); first | done | omega)) hN   -- 10 index
          refine And.intro ?_ ?_
          · first | ((try dsimp only); (try simp only [Dat.len, Int.toNat_natCast, List.length_set, flatN_len, bld_len]); first | done | omega) | (exact ixl2 (bl.length - 1 - t) (bl.length - t + s) (by ((try dsimp only); (try simp only [Dat.len, Int.toNat_natCast, List.length_set, flatN_len, bld_len]); first | done | omega)) (by ((try dsimp only); (try simp only [Dat.len, Int.toNat_natCast, List.length_set, flatN_len, bld_len]); first | done | omega)) (by (simp only [Dat.len, List.length_set, flatN_len, bld_len]; first | done | exact Nat.le_refl _)) (by ((try dsimp only); (try simp only [Dat.len, Int.toNat_natCast, List.length_set, flatN_len, bld_len]); first | done | omega)) (by ((try dsimp only); (try simp only [Dat.len, Int.toNat_natCast, List.length_set, flatN_len, bld_len]); first | done | omega)) hN) | (exact ixl2 (bl.length - 1 - t) (bl.length - 1 - t) (by ((try dsimp only); (try simp only [Dat.len, Int.toNat_natCast, List.length_set, flatN_len, bld_len]); first | done | omega)) (by ((try dsimp only); (try simp only [Dat.len, Int.toNat_natCast, List.length_set, flatN_len, bld_len]); first | done | omega)) (by (simp only [Dat.len, List.length_set, flatN_len, bld_len]; first | done | exact Nat.le_refl _)) (by ((try dsimp only); (try simp only [Dat.len, Int.toNat_natCast, List.length_set, flatN_len, bld_len]); first | done | omega)) (by ((try dsimp only); (try simp only [Dat.len, Int.toNat_natCast, List.length_set, flatN_len, bld_len]); first | done | omega)) hN) | exact ixl (by (simp only [Dat.len, List.length_set, flatN_len, bld_len]; first | done | exact Nat.le_refl _)) (by ((try dsimp only); (try simp only [Dat.len, Int.toNat_natCast, List.length_set, flatN_len, bld_len]); first | done | omega)) (by ((try dsimp only); (try simp only [Dat.len, Int.toNat_natCast, List.length_set, flatN_len, bld_len]); first | done | omega)) hN   -- 11 load
          refine And.intro ?_ ?_
          · first | ((try dsimp only); (try simp only [Dat.len, Int.toNat_natCast, List.length_set, flatN_len, bld_len]); first | done | omega) | (exact ixd2 (bl.length - 1 - t) (bl.length - t + s) (by ((try dsimp only); (try simp only [Dat.len, Int.toNat_natCast, List.length_set, flatN_len, bld_len]); first | done | omega)) (by ((try dsimp only); (try simp only [Dat.len, Int.toNat_natCast, List.length_set, flatN_len, bld_len]); first | done | omega)) (by (simp only [Dat.len, List.length_set, flatN_len, bld_len]; first | done | exact Nat.le_refl _)) (by ((try dsimp only); (try simp only [Dat.len, Int.toNat_natCast, List.length_set, flatN_len, bld_len]); first | done | omega)) (by ((try dsimp only); (try simp only [Dat.len, Int.toNat_natCast, List.length_set, flatN_len, bld_len]); first | done | omega)) hN) | (exact ixd2 (bl.length - 1 - t) (bl.length - 1 - t) (by ((try dsimp only); (try simp only [Dat.len, Int.toNat_natCast, List.length_set, flatN_len, bld_len]); first | done | omega)) (by ((try dsimp only); (try simp only [Dat.len, Int.toNat_natCast, List.length_set, flatN_len, bld_len]); first | done | omega)) (by (simp only [Dat.len, List.length_set, flatN_len, bld_len]; first | done | exact Nat.le_refl _)) (by ((try dsimp only); (try simp only [Dat.len, Int.toNat_natCast, List.length_set, flatN_len, bld_len]); first | done | omega)) (by ((try dsimp only); (try simp only [Dat.len, Int.toNat_natCast, List.length_set, flatN_len, bld_len]); first | done | omega)) hN) | exact ixd (by (simp only [Dat.len, List.length_set, flatN_len, bld_len]; first | done | exact Nat.le_refl _)) (by ((try dsimp only); (try simp only [Dat.len, Int.toNat_natCast, List.length_set, flatN_len, bld_len]); first | done | omega)) (by ((try dsimp only); (try simp only [Dat.len, Int.toNat_natCast, List.length_set, flatN_len, bld_len]); first | done | omega)) hN   -- 12 index
          refine And.intro ?_ ?_
          · first | ((try dsimp only); (try simp only [Dat.len, Int.toNat_natCast, List.length_set, flatN_len, bld_len]); first | done | omega) | (exact ixl2 (bl.length - 1 - t) (bl.length - t + s) (by ((try dsimp only); (try simp only [Dat.len, Int.toNat_natCast, List.length_set, flatN_len, bld_len]); first | done | omega)) (by ((try dsimp only); (try simp only [Dat.len, Int.toNat_natCast, List.length_set, flatN_len, bld_len]); first | done | omega)) (by (simp only [Dat.len, List.length_set, flatN_len, bld_len]; first | done | exact Nat.le_refl _)) (by ((try dsimp only); (try simp only [Dat.len, Int.toNat_natCast, List.length_set, flatN_len, bld_len]); first | done | omega)) (by ((try dsimp only); (try simp only [Dat.len, Int.toNat_natCast, List.length_set, flatN_len, bld_len]); first | done | omega)) hN) | (exact ixl2 (bl.length - 1 - t) (bl.length - 1 - t) (by ((try dsimp only); (try simp only [Dat.len, Int.toNat_natCast, List.length_set, flatN_len, bld_len]); first | done | omega)) (by ((try dsimp only); (try simp only [Dat.len, Int.toNat_natCast, List.length_set, flatN_len, bld_len]); first | done | omega)) (by (simp only [Dat.len, List.length_set, flatN_len, bld_len]; first | done | exact Nat.le_refl _)) (by ((try dsimp only); (try simp only [Dat.len, Int.toNat_natCast, List.length_set, flatN_len, bld_len]); first | done | omega)) (by ((try dsimp only); (try simp only [Dat.len, Int.toNat_natCast, List.length_set, flatN_len, bld_len]); first | done | omega)) hN) | exact ixl (by (simp only [Dat.len, List.length_set, flatN_len, bld_len]; first | done | exact Nat.le_refl _)) (by ((try dsimp only); (try simp only [Dat.len, Int.toNat_natCast, List.length_set, flatN_len, bld_len]); first | done | omega)) (by ((try dsimp only); (try simp only [Dat.len, Int.toNat_natCast, List.length_set, flatN_len, bld_len]); first | done | omega)) hN   -- 13 store
          refine n_of (N' := KK49) kk49 ?_
          refine n_of (N' := NN47) nn47 ?_
          refine c_region fun KK50 kk50 => ?_
          refine n_of (N' := KK50) kk50 ?_
          refine n_of (N' := NL43) nl43 ?_
          refine ⟨⟨s + 1, by omega⟩, ?_, [0, 1, 2, 3], rfl, ?_, ?_⟩
          · (dsimp only; omega)
          · exact LEq.eq ⟨rfl, rfl, congrArg (ar true) (col_step ht1 hk0 hs1 hN), rfl, trivial⟩
          · exact ⟨.inr rfl, .inr (congrArg (exi .i64) (wrN (a := k + 1 + s) (b := 1) (by omega))), .inr rfl, .inr rfl, .inr rfl, .inr rfl, .inr rfl, trivial⟩
        · skip
          have q3 := of_decide_eq_false h3
          (try dsimp only at q3)
          (try simp only [Dat.len, flatN_len, bld_len, List.length_set, List.length_append, List.length_replicate, List.length_nil] at q3)
          have e : s = bl.length - (k + 1) := by ((try dsimp only); (try simp only [Dat.len, Int.toNat_natCast, List.length_set, flatN_len, bld_len]); first | done | omega)
          subst e
          refine c_exit ?_
          refine x_here xx42 ?_
          refine n_of (N' := NN39) nn39 ?_
          refine c_draw 13 [0, 1, 2, 3, 4, 5, 6, 7, 8, 9, 10, 11, 12] (by kernel_rfl) fun KK51 kk51 => ?_
          refine And.intro ?_ ?_
          · first | ((try dsimp only); (try simp only [Dat.len, Int.toNat_natCast, List.length_set, flatN_len, bld_len]); first | done | omega) | (exact ixd2 (bl.length - 1 - t) (bl.length - t + s) (by ((try dsimp only); (try simp only [Dat.len, Int.toNat_natCast, List.length_set, flatN_len, bld_len]); first | done | omega)) (by ((try dsimp only); (try simp only [Dat.len, Int.toNat_natCast, List.length_set, flatN_len, bld_len]); first | done | omega)) (by (simp only [Dat.len, List.length_set, flatN_len, bld_len]; first | done | exact Nat.le_refl _)) (by ((try dsimp only); (try simp only [Dat.len, Int.toNat_natCast, List.length_set, flatN_len, bld_len]); first | done | omega)) (by ((try dsimp only); (try simp only [Dat.len, Int.toNat_natCast, List.length_set, flatN_len, bld_len]); first | done | omega)) hN) | (exact ixd2 (bl.length - 1 - t) (bl.length - 1 - t) (by ((try dsimp only); (try simp only [Dat.len, Int.toNat_natCast, List.length_set, flatN_len, bld_len]); first | done | omega)) (by ((try dsimp only); (try simp only [Dat.len, Int.toNat_natCast, List.length_set, flatN_len, bld_len]); first | done | omega)) (by (simp only [Dat.len, List.length_set, flatN_len, bld_len]; first | done | exact Nat.le_refl _)) (by ((try dsimp only); (try simp only [Dat.len, Int.toNat_natCast, List.length_set, flatN_len, bld_len]); first | done | omega)) (by ((try dsimp only); (try simp only [Dat.len, Int.toNat_natCast, List.length_set, flatN_len, bld_len]); first | done | omega)) hN) | exact ixd (by (simp only [Dat.len, List.length_set, flatN_len, bld_len]; first | done | exact Nat.le_refl _)) (by ((try dsimp only); (try simp only [Dat.len, Int.toNat_natCast, List.length_set, flatN_len, bld_len]); first | done | omega)) (by ((try dsimp only); (try simp only [Dat.len, Int.toNat_natCast, List.length_set, flatN_len, bld_len]); first | done | omega)) hN   -- 14 index
          refine And.intro ?_ ?_
          · first | ((try dsimp only); (try simp only [Dat.len, Int.toNat_natCast, List.length_set, flatN_len, bld_len]); first | done | omega) | (exact ixl2 (bl.length - 1 - t) (bl.length - t + s) (by ((try dsimp only); (try simp only [Dat.len, Int.toNat_natCast, List.length_set, flatN_len, bld_len]); first | done | omega)) (by ((try dsimp only); (try simp only [Dat.len, Int.toNat_natCast, List.length_set, flatN_len, bld_len]); first | done | omega)) (by (simp only [Dat.len, List.length_set, flatN_len, bld_len]; first | done | exact Nat.le_refl _)) (by ((try dsimp only); (try simp only [Dat.len, Int.toNat_natCast, List.length_set, flatN_len, bld_len]); first | done | omega)) (by ((try dsimp only); (try simp only [Dat.len, Int.toNat_natCast, List.length_set, flatN_len, bld_len]); first | done | omega)) hN) | (exact ixl2 (bl.length - 1 - t) (bl.length - 1 - t) (by ((try dsimp only); (try simp only [Dat.len, Int.toNat_natCast, List.length_set, flatN_len, bld_len]); first | done | omega)) (by ((try dsimp only); (try simp only [Dat.len, Int.toNat_natCast, List.length_set, flatN_len, bld_len]); first | done | omega)) (by (simp only [Dat.len, List.length_set, flatN_len, bld_len]; first | done | exact Nat.le_refl _)) (by ((try dsimp only); (try simp only [Dat.len, Int.toNat_natCast, List.length_set, flatN_len, bld_len]); first | done | omega)) (by ((try dsimp only); (try simp only [Dat.len, Int.toNat_natCast, List.length_set, flatN_len, bld_len]); first | done | omega)) hN) | exact ixl (by (simp only [Dat.len, List.length_set, flatN_len, bld_len]; first | done | exact Nat.le_refl _)) (by ((try dsimp only); (try simp only [Dat.len, Int.toNat_natCast, List.length_set, flatN_len, bld_len]); first | done | omega)) (by ((try dsimp only); (try simp only [Dat.len, Int.toNat_natCast, List.length_set, flatN_len, bld_len]); first | done | omega)) hN   -- 15 load
          refine And.intro ?_ ?_
          · first | ((try dsimp only); (try simp only [Dat.len, Int.toNat_natCast, List.length_set, flatN_len, bld_len]); first | done | omega) | (exact ixd2 (bl.length - 1 - t) (bl.length - t + s) (by ((try dsimp only); (try simp only [Dat.len, Int.toNat_natCast, List.length_set, flatN_len, bld_len]); first | done | omega)) (by ((try dsimp only); (try simp only [Dat.len, Int.toNat_natCast, List.length_set, flatN_len, bld_len]); first | done | omega)) (by (simp only [Dat.len, List.length_set, flatN_len, bld_len]; first | done | exact Nat.le_refl _)) (by ((try dsimp only); (try simp only [Dat.len, Int.toNat_natCast, List.length_set, flatN_len, bld_len]); first | done | omega)) (by ((try dsimp only); (try simp only [Dat.len, Int.toNat_natCast, List.length_set, flatN_len, bld_len]); first | done | omega)) hN) | (exact ixd2 (bl.length - 1 - t) (bl.length - 1 - t) (by ((try dsimp only); (try simp only [Dat.len, Int.toNat_natCast, List.length_set, flatN_len, bld_len]); first | done | omega)) (by ((try dsimp only); (try simp only [Dat.len, Int.toNat_natCast, List.length_set, flatN_len, bld_len]); first | done | omega)) (by (simp only [Dat.len, List.length_set, flatN_len, bld_len]; first | done | exact Nat.le_refl _)) (by ((try dsimp only); (try simp only [Dat.len, Int.toNat_natCast, List.length_set, flatN_len, bld_len]); first | done | omega)) (by ((try dsimp only); (try simp only [Dat.len, Int.toNat_natCast, List.length_set, flatN_len, bld_len]); first | done | omega)) hN) | exact ixd (by (simp only [Dat.len, List.length_set, flatN_len, bld_len]; first | done | exact Nat.le_refl _)) (by ((try dsimp only); (try simp only [Dat.len, Int.toNat_natCast, List.length_set, flatN_len, bld_len]); first | done | omega)) (by ((try dsimp only); (try simp only [Dat.len, Int.toNat_natCast, List.length_set, flatN_len, bld_len]); first | done | omega)) hN   -- 16 index
          refine And.intro ?_ ?_
          · first | ((try dsimp only); (try simp only [Dat.len, Int.toNat_natCast, List.length_set, flatN_len, bld_len]); first | done | omega) | (exact ixl2 (bl.length - 1 - t) (bl.length - t + s) (by ((try dsimp only); (try simp only [Dat.len, Int.toNat_natCast, List.length_set, flatN_len, bld_len]); first | done | omega)) (by ((try dsimp only); (try simp only [Dat.len, Int.toNat_natCast, List.length_set, flatN_len, bld_len]); first | done | omega)) (by (simp only [Dat.len, List.length_set, flatN_len, bld_len]; first | done | exact Nat.le_refl _)) (by ((try dsimp only); (try simp only [Dat.len, Int.toNat_natCast, List.length_set, flatN_len, bld_len]); first | done | omega)) (by ((try dsimp only); (try simp only [Dat.len, Int.toNat_natCast, List.length_set, flatN_len, bld_len]); first | done | omega)) hN) | (exact ixl2 (bl.length - 1 - t) (bl.length - 1 - t) (by ((try dsimp only); (try simp only [Dat.len, Int.toNat_natCast, List.length_set, flatN_len, bld_len]); first | done | omega)) (by ((try dsimp only); (try simp only [Dat.len, Int.toNat_natCast, List.length_set, flatN_len, bld_len]); first | done | omega)) (by (simp only [Dat.len, List.length_set, flatN_len, bld_len]; first | done | exact Nat.le_refl _)) (by ((try dsimp only); (try simp only [Dat.len, Int.toNat_natCast, List.length_set, flatN_len, bld_len]); first | done | omega)) (by ((try dsimp only); (try simp only [Dat.len, Int.toNat_natCast, List.length_set, flatN_len, bld_len]); first | done | omega)) hN) | exact ixl (by (simp only [Dat.len, List.length_set, flatN_len, bld_len]; first | done | exact Nat.le_refl _)) (by ((try dsimp only); (try simp only [Dat.len, Int.toNat_natCast, List.length_set, flatN_len, bld_len]); first | done | omega)) (by ((try dsimp only); (try simp only [Dat.len, Int.toNat_natCast, List.length_set, flatN_len, bld_len]); first | done | omega)) hN   -- 17 load
          refine And.intro ?_ ?_
          · first | ((try dsimp only); (try simp only [Dat.len, Int.toNat_natCast, List.length_set, flatN_len, bld_len]); first | done | omega) | (exact ixd2 (bl.length - 1 - t) (bl.length - t + s) (by ((try dsimp only); (try simp only [Dat.len, Int.toNat_natCast, List.length_set, flatN_len, bld_len]); first | done | omega)) (by ((try dsimp only); (try simp only [Dat.len, Int.toNat_natCast, List.length_set, flatN_len, bld_len]); first | done | omega)) (by (simp only [Dat.len, List.length_set, flatN_len, bld_len]; first | done | exact Nat.le_refl _)) (by ((try dsimp only); (try simp only [Dat.len, Int.toNat_natCast, List.length_set, flatN_len, bld_len]); first | done | omega)) (by ((try dsimp only); (try simp only [Dat.len, Int.toNat_natCast, List.length_set, flatN_len, bld_len]); first | done | omega)) hN) | (exact ixd2 (bl.length - 1 - t) (bl.length - 1 - t) (by ((try dsimp only); (try simp only [Dat.len, Int.toNat_natCast, List.length_set, flatN_len, bld_len]); first | done | omega)) (by ((try dsimp only); (try simp only [Dat.len, Int.toNat_natCast, List.length_set, flatN_len, bld_len]); first | done | omega)) (by (simp only [Dat.len, List.length_set, flatN_len, bld_len]; first | done | exact Nat.le_refl _)) (by ((try dsimp only); (try simp only [Dat.len, Int.toNat_natCast, List.length_set, flatN_len, bld_len]); first | done | omega)) (by ((try dsimp only); (try simp only [Dat.len, Int.toNat_natCast, List.length_set, flatN_len, bld_len]); first | done | omega)) hN) | exact ixd (by (simp only [Dat.len, List.length_set, flatN_len, bld_len]; first | done | exact Nat.le_refl _)) (by ((try dsimp only); (try simp only [Dat.len, Int.toNat_natCast, List.length_set, flatN_len, bld_len]); first | done | omega)) (by ((try dsimp only); (try simp only [Dat.len, Int.toNat_natCast, List.length_set, flatN_len, bld_len]); first | done | omega)) hN   -- 18 index
          refine And.intro ?_ ?_
          · first | ((try dsimp only); (try simp only [Dat.len, Int.toNat_natCast, List.length_set, flatN_len, bld_len]); first | done | omega) | (exact ixl2 (bl.length - 1 - t) (bl.length - t + s) (by ((try dsimp only); (try simp only [Dat.len, Int.toNat_natCast, List.length_set, flatN_len, bld_len]); first | done | omega)) (by ((try dsimp only); (try simp only [Dat.len, Int.toNat_natCast, List.length_set, flatN_len, bld_len]); first | done | omega)) (by (simp only [Dat.len, List.length_set, flatN_len, bld_len]; first | done | exact Nat.le_refl _)) (by ((try dsimp only); (try simp only [Dat.len, Int.toNat_natCast, List.length_set, flatN_len, bld_len]); first | done | omega)) (by ((try dsimp only); (try simp only [Dat.len, Int.toNat_natCast, List.length_set, flatN_len, bld_len]); first | done | omega)) hN) | (exact ixl2 (bl.length - 1 - t) (bl.length - 1 - t) (by ((try dsimp only); (try simp only [Dat.len, Int.toNat_natCast, List.length_set, flatN_len, bld_len]); first | done | omega)) (by ((try dsimp only); (try simp only [Dat.len, Int.toNat_natCast, List.length_set, flatN_len, bld_len]); first | done | omega)) (by (simp only [Dat.len, List.length_set, flatN_len, bld_len]; first | done | exact Nat.le_refl _)) (by ((try dsimp only); (try simp only [Dat.len, Int.toNat_natCast, List.length_set, flatN_len, bld_len]); first | done | omega)) (by ((try dsimp only); (try simp only [Dat.len, Int.toNat_natCast, List.length_set, flatN_len, bld_len]); first | done | omega)) hN) | exact ixl (by (simp only [Dat.len, List.length_set, flatN_len, bld_len]; first | done | exact Nat.le_refl _)) (by ((try dsimp only); (try simp only [Dat.len, Int.toNat_natCast, List.length_set, flatN_len, bld_len]); first | done | omega)) (by ((try dsimp only); (try simp only [Dat.len, Int.toNat_natCast, List.length_set, flatN_len, bld_len]); first | done | omega)) hN   -- 19 store
          refine n_of (N' := KK51) kk51 ?_
          refine n_of (N' := NN35) nn35 ?_
          refine c_region fun KK52 kk52 => ?_
          refine n_of (N' := KK52) kk52 ?_
          refine n_of (N' := NL31) nl31 ?_
          refine ⟨⟨t + 1, by omega⟩, ?_, [0, 1, 2, 3], rfl, ?_, ?_⟩
          · (dsimp only; omega)
          · exact LEq.eq ⟨rfl, rfl, rfl, congrArg (ar true) (row_b (k + 1 + t) k (by ((try dsimp only); (try simp only [Dat.len, Int.toNat_natCast, List.length_set, flatN_len, bld_len]); first | done | omega)) (by ((try dsimp only); (try simp only [Dat.len, Int.toNat_natCast, List.length_set, flatN_len, bld_len]); first | done | omega)) ht1 hk0), trivial⟩
          · exact ⟨.inr (congrArg (exi .i64) (wrN (a := k + 1 + t) (b := 1) (by omega))), .inr rfl, .inr rfl, .inr rfl, .inr rfl, trivial⟩
      · skip
        have q2 := of_decide_eq_false h2
        (try dsimp only at q2)
        (try simp only [Dat.len, flatN_len, bld_len, List.length_set, List.length_append, List.length_replicate, List.length_nil] at q2)
        have e : t = bl.length - (k + 1) := by ((try dsimp only); (try simp only [Dat.len, Int.toNat_natCast, List.length_set, flatN_len, bld_len]); first | done | omega)
        subst e
        refine c_exit ?_
        refine x_here xx30 ?_
        refine n_of (N' := NN17) nn17 ?_
        refine c_region fun KK53 kk53 => ?_
        refine n_of (N' := KK53) kk53 ?_
        refine n_of (N' := NL13) nl13 ?_
        refine ⟨⟨(k + 1, (stp G g k bl.length).1, (stp G g k bl.length).2), hk0, elim_succ hel hp0⟩, ?_, [0, 1, 2, 3], rfl, ?_, ?_⟩
        · (dsimp only; omega)
        · exact LEq.eq ⟨rfl, rfl, rfl, rfl, trivial⟩
        · exact ⟨.inr (congrArg (exi .i64) (wrN (a := k) (b := 1) (by omega))), .inr rfl, .inr rfl, .inr rfl, trivial⟩
  · skip
    have q0 := of_decide_eq_false h0
    (try dsimp only at q0)
    (try simp only [Dat.len, flatN_len, bld_len, List.length_set, List.length_append, List.length_replicate, List.length_nil] at q0)
    have e : k = bl.length := by ((try dsimp only); (try simp only [Dat.len, Int.toNat_natCast, List.length_set, flatN_len, bld_len]); first | done | omega)
    subst e
    refine c_exit ?_
    refine x_here xx12 ?_
    refine n_of (N' := NN9) nn9 ?_
    refine c_seq fun NN54 nn54 => ?_
    refine c_region fun KK55 kk55 => ?_
    refine And.intro ?_ ?_
    · (refine ⟨rfl, ?_, ?_, by decide⟩ <;> (try dsimp only) <;> (try simp only [Dat.len]) <;> omega)   -- 20 make
    refine n_of (N' := KK55) kk55 ?_
    refine n_of (N' := NN54) nn54 ?_
    refine c_seq fun NN56 nn56 => ?_
    refine c_seq fun NN57 nn57 => ?_
    refine c_region fun KK58 kk58 => ?_
    refine n_of (N' := KK58) kk58 ?_
    refine n_of (N' := NN57) nn57 ?_
    refine c_block fun XX59 xx59 => ?_
    refine loop_keep [] [6, 7, 8, 14] (ι := { t : Nat // t ≤ bl.length ∧ ∀ j, j < bl.length → bl.length - t ≤ j → finB (bsx G g bl.length t j) = true }) (fun i => [(15, exi .i64 ((bl.length : Int) - 1 - (i.1 : Nat)))]) (fun i => [(4, ar true (bld (bsx G g bl.length i.1) bl.length))]) (fun i => bl.length - i.1) ⟨0, Nat.zero_le _, fun j h1 h2 => by omega⟩ trivial rfl ?_
    refine ⟨?_, ?_, ?_⟩
    · exact ⟨.inr (congrArg (exi .i64) ((wr64 (n := (bl.length : Int) - 1) (by omega) (by omega)).trans (show (bl.length : Int) - 1 = (bl.length : Int) - 1 - ((0 : Nat) : Int) by omega))), trivial⟩
    · exact ⟨rfl, rfl, rfl, rfl, congrArg (ar true) (zero_vec _), trivial⟩
    refine fun ⟨t, ht, hfin⟩ NL60 nl60 => ?_
    refine c_norm rfl rfl ?_
    refine c_seq fun NN61 nn61 => ?_
    refine c_seq fun NN62 nn62 => ?_
    refine c_region fun KK63 kk63 => ?_
    refine n_of (N' := KK63) kk63 ?_
    refine n_of (N' := NN62) nn62 ?_
    refine c_cond rfl (fun h1 => ?_) (fun h1 => ?_)
    · skip
      have q1 := of_decide_eq_true h1
      (try dsimp only at q1)
      (try simp only [Dat.len, flatN_len, bld_len, List.length_set, List.length_append, List.length_replicate, List.length_nil] at q1)
      have ht1 : t < bl.length := by ((try dsimp only); (try simp only [Dat.len, Int.toNat_natCast, List.length_set, flatN_len, bld_len]); first | done | omega)
      have eI : (bl.length : Int) - 1 - (t : Int) = ((bl.length - 1 - t : Nat) : Int) := by omega
      refine c_skip ?_
      refine n_of (N' := NN61) nn61 ?_
      refine c_seq fun NN64 nn64 => ?_
      refine c_block fun XX65 xx65 => ?_
      refine c_seq fun NN66 nn66 => ?_
      refine c_region fun KK67 kk67 => ?_
      refine And.intro ?_ ?_
      · first | ((try dsimp only); (try simp only [Dat.len, Int.toNat_natCast, List.length_set, flatN_len, bld_len]); first | done | omega) | (exact ixd2 (bl.length - 1 - t) (bl.length - t + s) (by ((try dsimp only); (try simp only [Dat.len, Int.toNat_natCast, List.length_set, flatN_len, bld_len]); first | done | omega)) (by ((try dsimp only); (try simp only [Dat.len, Int.toNat_natCast, List.length_set, flatN_len, bld_len]); first | done | omega)) (by (simp only [Dat.len, List.length_set, flatN_len, bld_len]; first | done | exact Nat.le_refl _)) (by ((try dsimp only); (try simp only [Dat.len, Int.toNat_natCast, List.length_set, flatN_len, bld_len]); first | done | omega)) (by ((try dsimp only); (try simp only [Dat.len, Int.toNat_natCast, List.length_set, flatN_len, bld_len]); first | done | omega)) hN) | (exact ixd2 (bl.length - 1 - t) (bl.length - 1 - t) (by ((try dsimp only); (try simp only [Dat.len, Int.toNat_natCast, List.length_set, flatN_len, bld_len]); first | done | omega)) (by ((try dsimp only); (try simp only [Dat.len, Int.toNat_natCast, List.length_set, flatN_len, bld_len]); first | done | omega)) (by (simp only [Dat.len, List.length_set, flatN_len, bld_len]; first | done | exact Nat.le_refl _)) (by ((try dsimp only); (try simp only [Dat.len, Int.toNat_natCast, List.length_set, flatN_len, bld_len]); first | done | omega)) (by ((try dsimp only); (try simp only [Dat.len, Int.toNat_natCast, List.length_set, flatN_len, bld_len]); first | done | omega)) hN) | exact ixd (by (simp only [Dat.len, List.length_set, flatN_len, bld_len]; first | done | exact Nat.le_refl _)) (by ((try dsimp only); (try simp only [Dat.len, Int.toNat_natCast, List.length_set, flatN_len, bld_len]); first | done | omega)) (by ((try dsimp only); (try simp only [Dat.len, Int.toNat_natCast, List.length_set, flatN_len, bld_len]); first | done | omega)) hN   -- 21 index
      refine And.intro ?_ ?_
      · first | ((try dsimp only); (try simp only [Dat.len, Int.toNat_natCast, List.length_set, flatN_len, bld_len]); first | done | omega) | (exact ixl2 (bl.length - 1 - t) (bl.length - t + s) (by ((try dsimp only); (try simp only [Dat.len, Int.toNat_natCast, List.length_set, flatN_len, bld_len]); first | done | omega)) (by ((try dsimp only); (try simp only [Dat.len, Int.toNat_natCast, List.length_set, flatN_len, bld_len]); first | done | omega)) (by (simp only [Dat.len, List.length_set, flatN_len, bld_len]; first | done | exact Nat.le_refl _)) (by ((try dsimp only); (try simp only [Dat.len, Int.toNat_natCast, List.length_set, flatN_len, bld_len]); first | done | omega)) (by ((try dsimp only); (try simp only [Dat.len, Int.toNat_natCast, List.length_set, flatN_len, bld_len]); first | done | omega)) hN) | (exact ixl2 (bl.length - 1 - t) (bl.length - 1 - t) (by ((try dsimp only); (try simp only [Dat.len, Int.toNat_natCast, List.length_set, flatN_len, bld_len]); first | done | omega)) (by ((try dsimp only); (try simp only [Dat.len, Int.toNat_natCast, List.length_set, flatN_len, bld_len]); first | done | omega)) (by (simp only [Dat.len, List.length_set, flatN_len, bld_len]; first | done | exact Nat.le_refl _)) (by ((try dsimp only); (try simp only [Dat.len, Int.toNat_natCast, List.length_set, flatN_len, bld_len]); first | done | omega)) (by ((try dsimp only); (try simp only [Dat.len, Int.toNat_natCast, List.length_set, flatN_len, bld_len]); first | done | omega)) hN) | exact ixl (by (simp only [Dat.len, List.length_set, flatN_len, bld_len]; first | done | exact Nat.le_refl _)) (by ((try dsimp only); (try simp only [Dat.len, Int.toNat_natCast, List.length_set, flatN_len, bld_len]); first | done | omega)) (by ((try dsimp only); (try simp only [Dat.len, Int.toNat_natCast, List.length_set, flatN_len, bld_len]); first | done | omega)) hN   -- 22 load
      refine n_of (N' := KK67) kk67 ?_
      refine n_of (N' := NN66) nn66 ?_
      refine c_seq fun NN68 nn68 => ?_
      refine c_seq fun NN69 nn69 => ?_
      refine c_region fun KK70 kk70 => ?_
      refine n_of (N' := KK70) kk70 ?_
      refine n_of (N' := NN69) nn69 ?_
      refine c_block fun XX71 xx71 => ?_
      refine loop_keep [] [6, 7, 8, 14, 15] (ι := { s : Nat // s ≤ t }) (fun i => [(16, fl32 (sm G (bsx G g bl.length t) (bl.length - 1 - t) (g (bl.length - 1 - t)) i.1)), (17, exi .i64 ((bl.length - t + i.1 : Nat) : Int))]) (fun i => []) (fun i => t - i.1) ⟨0, Nat.zero_le _⟩ trivial rfl ?_
      refine ⟨?_, ?_, ?_⟩
      · exact ⟨.inr (congrArg fl32 (vec_ix (bl.length - 1 - t) eI (by omega))), .inr (congrArg (exi .i64) (wrI (bl.length - t) (by ((try dsimp only); (try simp only [Dat.len, Int.toNat_natCast, List.length_set, flatN_len, bld_len]); first | done | omega)) (by omega))), trivial⟩
      · exact ⟨rfl, rfl, rfl, rfl, rfl, trivial⟩
      refine fun ⟨s, hs⟩ NL72 nl72 => ?_
      refine c_norm rfl rfl ?_
      refine c_seq fun NN73 nn73 => ?_
      refine c_seq fun NN74 nn74 => ?_
      refine c_region fun KK75 kk75 => ?_
      refine n_of (N' := KK75) kk75 ?_
      refine n_of (N' := NN74) nn74 ?_
      refine c_cond rfl (fun h2 => ?_) (fun h2 => ?_)
      · skip
        have q2 := of_decide_eq_true h2
        (try dsimp only at q2)
        (try simp only [Dat.len, flatN_len, bld_len, List.length_set, List.length_append, List.length_replicate, List.length_nil] at q2)
        have hs1 : bl.length - t + s < bl.length := by ((try dsimp only); (try simp only [Dat.len, Int.toNat_natCast, List.length_set, flatN_len, bld_len]); first | done | omega)
        refine c_skip ?_
        refine n_of (N' := NN73) nn73 ?_
        refine c_seq fun NN76 nn76 => ?_
        refine c_block fun XX77 xx77 => ?_
        refine c_draw 14 [0, 1, 2, 3, 4, 5, 6, 7, 8, 9, 10, 11, 12, 13] (by kernel_rfl) fun KK78 kk78 => ?_
        refine And.intro ?_ ?_
        · first | ((try dsimp only); (try simp only [Dat.len, Int.toNat_natCast, List.length_set, flatN_len, bld_len]); first | done | omega) | (exact ixd2 (bl.length - 1 - t) (bl.length - t + s) (by ((try dsimp only); (try simp only [Dat.len, Int.toNat_natCast, List.length_set, flatN_len, bld_len]); first | done | omega)) (by ((try dsimp only); (try simp only [Dat.len, Int.toNat_natCast, List.length_set, flatN_len, bld_len]); first | done | omega)) (by (simp only [Dat.len, List.length_set, flatN_len, bld_len]; first | done | exact Nat.le_refl _)) (by ((try dsimp only); (try simp only [Dat.len, Int.toNat_natCast, List.length_set, flatN_len, bld_len]); first | done | omega)) (by ((try dsimp only); (try simp only [Dat.len, Int.toNat_natCast, List.length_set, flatN_len, bld_len]); first | done | omega)) hN) | (exact ixd2 (bl.length - 1 - t) (bl.length - 1 - t) (by ((try dsimp only); (try simp only [Dat.len, Int.toNat_natCast, List.length_set, flatN_len, bld_len]); first | done | omega)) (by ((try dsimp only); (try simp only [Dat.len, Int.toNat_natCast, List.length_set, flatN_len, bld_len]); first | done | omega)) (by (simp only [Dat.len, List.length_set, flatN_len, bld_len]; first | done | exact Nat.le_refl _)) (by ((try dsimp only); (try simp only [Dat.len, Int.toNat_natCast, List.length_set, flatN_len, bld_len]); first | done | omega)) (by ((try dsimp only); (try simp only [Dat.len, Int.toNat_natCast, List.length_set, flatN_len, bld_len]); first | done | omega)) hN) | exact ixd (by (simp only [Dat.len, List.length_set, flatN_len, bld_len]; first | done | exact Nat.le_refl _)) (by ((try dsimp only); (try simp only [Dat.len, Int.toNat_natCast, List.length_set, flatN_len, bld_len]); first | done | omega)) (by ((try dsimp only); (try simp only [Dat.len, Int.toNat_natCast, List.length_set, flatN_len, bld_len]); first | done | omega)) hN   -- 23 index
        refine And.intro ?_ ?_
        · first | ((try dsimp only); (try simp only [Dat.len, Int.toNat_natCast, List.length_set, flatN_len, bld_len]); first | done | omega) | (exact ixl2 (bl.length - 1 - t) (bl.length - t + s) (by ((try dsimp only); (try simp only [Dat.len, Int.toNat_natCast, List.length_set, flatN_len, bld_len]); first | done | omega)) (by ((try dsimp only); (try simp only [Dat.len, Int.toNat_natCast, List.length_set, flatN_len, bld_len]); first | done | omega)) (by (simp only [Dat.len, List.length_set, flatN_len, bld_len]; first | done | exact Nat.le_refl _)) (by ((try dsimp only); (try simp only [Dat.len, Int.toNat_natCast, List.length_set, flatN_len, bld_len]); first | done | omega)) (by ((try dsimp only); (try simp only [Dat.len, Int.toNat_natCast, List.length_set, flatN_len, bld_len]); first | done | omega)) hN) | (exact ixl2 (bl.length - 1 - t) (bl.length - 1 - t) (by ((try dsimp only); (try simp only [Dat.len, Int.toNat_natCast, List.length_set, flatN_len, bld_len]); first | done | omega)) (by ((try dsimp only); (try simp only [Dat.len, Int.toNat_natCast, List.length_set, flatN_len, bld_len]); first | done | omega)) (by (simp only [Dat.len, List.length_set, flatN_len, bld_len]; first | done | exact Nat.le_refl _)) (by ((try dsimp only); (try simp only [Dat.len, Int.toNat_natCast, List.length_set, flatN_len, bld_len]); first | done | omega)) (by ((try dsimp only); (try simp only [Dat.len, Int.toNat_natCast, List.length_set, flatN_len, bld_len]); first | done | omega)) hN) | exact ixl (by (simp only [Dat.len, List.length_set, flatN_len, bld_len]; first | done | exact Nat.le_refl _)) (by ((try dsimp only); (try simp only [Dat.len, Int.toNat_natCast, List.length_set, flatN_len, bld_len]); first | done | omega)) (by ((try dsimp only); (try simp only [Dat.len, Int.toNat_natCast, List.length_set, flatN_len, bld_len]); first | done | omega)) hN   -- 24 load
        refine And.intro ?_ ?_
        · first | ((try dsimp only); (try simp only [Dat.len, Int.toNat_natCast, List.length_set, flatN_len, bld_len]); first | done | omega) | (exact ixd2 (bl.length - 1 - t) (bl.length - t + s) (by ((try dsimp only); (try simp only [Dat.len, Int.toNat_natCast, List.length_set, flatN_len, bld_len]); first | done | omega)) (by ((try dsimp only); (try simp only [Dat.len, Int.toNat_natCast, List.length_set, flatN_len, bld_len]); first | done | omega)) (by (simp only [Dat.len, List.length_set, flatN_len, bld_len]; first | done | exact Nat.le_refl _)) (by ((try dsimp only); (try simp only [Dat.len, Int.toNat_natCast, List.length_set, flatN_len, bld_len]); first | done | omega)) (by ((try dsimp only); (try simp only [Dat.len, Int.toNat_natCast, List.length_set, flatN_len, bld_len]); first | done | omega)) hN) | (exact ixd2 (bl.length - 1 - t) (bl.length - 1 - t) (by ((try dsimp only); (try simp only [Dat.len, Int.toNat_natCast, List.length_set, flatN_len, bld_len]); first | done | omega)) (by ((try dsimp only); (try simp only [Dat.len, Int.toNat_natCast, List.length_set, flatN_len, bld_len]); first | done | omega)) (by (simp only [Dat.len, List.length_set, flatN_len, bld_len]; first | done | exact Nat.le_refl _)) (by ((try dsimp only); (try simp only [Dat.len, Int.toNat_natCast, List.length_set, flatN_len, bld_len]); first | done | omega)) (by ((try dsimp only); (try simp only [Dat.len, Int.toNat_natCast, List.length_set, flatN_len, bld_len]); first | done | omega)) hN) | exact ixd (by (simp only [Dat.len, List.length_set, flatN_len, bld_len]; first | done | exact Nat.le_refl _)) (by ((try dsimp only); (try simp only [Dat.len, Int.toNat_natCast, List.length_set, flatN_len, bld_len]); first | done | omega)) (by ((try dsimp only); (try simp only [Dat.len, Int.toNat_natCast, List.length_set, flatN_len, bld_len]); first | done | omega)) hN   -- 25 index
        refine And.intro ?_ ?_
        · first | ((try dsimp only); (try simp only [Dat.len, Int.toNat_natCast, List.length_set, flatN_len, bld_len]); first | done | omega) | (exact ixl2 (bl.length - 1 - t) (bl.length - t + s) (by ((try dsimp only); (try simp only [Dat.len, Int.toNat_natCast, List.length_set, flatN_len, bld_len]); first | done | omega)) (by ((try dsimp only); (try simp only [Dat.len, Int.toNat_natCast, List.length_set, flatN_len, bld_len]); first | done | omega)) (by (simp only [Dat.len, List.length_set, flatN_len, bld_len]; first | done | exact Nat.le_refl _)) (by ((try dsimp only); (try simp only [Dat.len, Int.toNat_natCast, List.length_set, flatN_len, bld_len]); first | done | omega)) (by ((try dsimp only); (try simp only [Dat.len, Int.toNat_natCast, List.length_set, flatN_len, bld_len]); first | done | omega)) hN) | (exact ixl2 (bl.length - 1 - t) (bl.length - 1 - t) (by ((try dsimp only); (try simp only [Dat.len, Int.toNat_natCast, List.length_set, flatN_len, bld_len]); first | done | omega)) (by ((try dsimp only); (try simp only [Dat.len, Int.toNat_natCast, List.length_set, flatN_len, bld_len]); first | done | omega)) (by (simp only [Dat.len, List.length_set, flatN_len, bld_len]; first | done | exact Nat.le_refl _)) (by ((try dsimp only); (try simp only [Dat.len, Int.toNat_natCast, List.length_set, flatN_len, bld_len]); first | done | omega)) (by ((try dsimp only); (try simp only [Dat.len, Int.toNat_natCast, List.length_set, flatN_len, bld_len]); first | done | omega)) hN) | exact ixl (by (simp only [Dat.len, List.length_set, flatN_len, bld_len]; first | done | exact Nat.le_refl _)) (by ((try dsimp only); (try simp only [Dat.len, Int.toNat_natCast, List.length_set, flatN_len, bld_len]); first | done | omega)) (by ((try dsimp only); (try simp only [Dat.len, Int.toNat_natCast, List.length_set, flatN_len, bld_len]); first | done | omega)) hN   -- 26 load
        refine n_of (N' := KK78) kk78 ?_
        refine n_of (N' := NN76) nn76 ?_
        refine c_region fun KK79 kk79 => ?_
        refine n_of (N' := KK79) kk79 ?_
        refine n_of (N' := NL72) nl72 ?_
        refine ⟨⟨s + 1, by omega⟩, ?_, [0, 1, 2, 3, 4], rfl, ?_, ?_⟩
        · (dsimp only; omega)
        · exact LEq.eq ⟨rfl, rfl, rfl, rfl, rfl, trivial⟩
        · exact ⟨.inr (congrArg fl32 (sm_step eI (show ((bl.length - t + s : Nat) : Int) = ((bl.length - 1 - t + 1 + s : Nat) : Int) by ((try dsimp only); (try simp only [Dat.len, Int.toNat_natCast, List.length_set, flatN_len, bld_len]); first | done | omega)) (by ((try dsimp only); (try simp only [Dat.len, Int.toNat_natCast, List.length_set, flatN_len, bld_len]); first | done | omega)) (by ((try dsimp only); (try simp only [Dat.len, Int.toNat_natCast, List.length_set, flatN_len, bld_len]); first | done | omega)) hN)), .inr (congrArg (exi .i64) (wrN (a := bl.length - t + s) (b := 1) (by omega))), .inr rfl, .inr rfl, .inr rfl, .inr rfl, .inr rfl, trivial⟩
      · skip
        have q2 := of_decide_eq_false h2
        (try dsimp only at q2)
        (try simp only [Dat.len, flatN_len, bld_len, List.length_set, List.length_append, List.length_replicate, List.length_nil] at q2)
        have e : t = s := by ((try dsimp only); (try simp only [Dat.len, Int.toNat_natCast, List.length_set, flatN_len, bld_len]); first | done | omega)
        subst e
        refine c_exit ?_
        refine x_here xx71 ?_
        refine n_of (N' := NN68) nn68 ?_
        refine c_seq fun NN80 nn80 => ?_
        refine c_region fun KK81 kk81 => ?_
        refine And.intro ?_ ?_
        · first | ((try dsimp only); (try simp only [Dat.len, Int.toNat_natCast, List.length_set, flatN_len, bld_len]); first | done | omega) | (exact ixd2 (bl.length - 1 - t) (bl.length - t + s) (by ((try dsimp only); (try simp only [Dat.len, Int.toNat_natCast, List.length_set, flatN_len, bld_len]); first | done | omega)) (by ((try dsimp only); (try simp only [Dat.len, Int.toNat_natCast, List.length_set, flatN_len, bld_len]); first | done | omega)) (by (simp only [Dat.len, List.length_set, flatN_len, bld_len]; first | done | exact Nat.le_refl _)) (by ((try dsimp only); (try simp only [Dat.len, Int.toNat_natCast, List.length_set, flatN_len, bld_len]); first | done | omega)) (by ((try dsimp only); (try simp only [Dat.len, Int.toNat_natCast, List.length_set, flatN_len, bld_len]); first | done | omega)) hN) | (exact ixd2 (bl.length - 1 - t) (bl.length - 1 - t) (by ((try dsimp only); (try simp only [Dat.len, Int.toNat_natCast, List.length_set, flatN_len, bld_len]); first | done | omega)) (by ((try dsimp only); (try simp only [Dat.len, Int.toNat_natCast, List.length_set, flatN_len, bld_len]); first | done | omega)) (by (simp only [Dat.len, List.length_set, flatN_len, bld_len]; first | done | exact Nat.le_refl _)) (by ((try dsimp only); (try simp only [Dat.len, Int.toNat_natCast, List.length_set, flatN_len, bld_len]); first | done | omega)) (by ((try dsimp only); (try simp only [Dat.len, Int.toNat_natCast, List.length_set, flatN_len, bld_len]); first | done | omega)) hN) | exact ixd (by (simp only [Dat.len, List.length_set, flatN_len, bld_len]; first | done | exact Nat.le_refl _)) (by ((try dsimp only); (try simp only [Dat.len, Int.toNat_natCast, List.length_set, flatN_len, bld_len]); first | done | omega)) (by ((try dsimp only); (try simp only [Dat.len, Int.toNat_natCast, List.length_set, flatN_len, bld_len]); first | done | omega)) hN   -- 27 index
        refine And.intro ?_ ?_
        · first | ((try dsimp only); (try simp only [Dat.len, Int.toNat_natCast, List.length_set, flatN_len, bld_len]); first | done | omega) | (exact ixl2 (bl.length - 1 - t) (bl.length - t + s) (by ((try dsimp only); (try simp only [Dat.len, Int.toNat_natCast, List.length_set, flatN_len, bld_len]); first | done | omega)) (by ((try dsimp only); (try simp only [Dat.len, Int.toNat_natCast, List.length_set, flatN_len, bld_len]); first | done | omega)) (by (simp only [Dat.len, List.length_set, flatN_len, bld_len]; first | done | exact Nat.le_refl _)) (by ((try dsimp only); (try simp only [Dat.len, Int.toNat_natCast, List.length_set, flatN_len, bld_len]); first | done | omega)) (by ((try dsimp only); (try simp only [Dat.len, Int.toNat_natCast, List.length_set, flatN_len, bld_len]); first | done | omega)) hN) | (exact ixl2 (bl.length - 1 - t) (bl.length - 1 - t) (by ((try dsimp only); (try simp only [Dat.len, Int.toNat_natCast, List.length_set, flatN_len, bld_len]); first | done | omega)) (by ((try dsimp only); (try simp only [Dat.len, Int.toNat_natCast, List.length_set, flatN_len, bld_len]); first | done | omega)) (by (simp only [Dat.len, List.length_set, flatN_len, bld_len]; first | done | exact Nat.le_refl _)) (by ((try dsimp only); (try simp only [Dat.len, Int.toNat_natCast, List.length_set, flatN_len, bld_len]); first | done | omega)) (by ((try dsimp only); (try simp only [Dat.len, Int.toNat_natCast, List.length_set, flatN_len, bld_len]); first | done | omega)) hN) | exact ixl (by (simp only [Dat.len, List.length_set, flatN_len, bld_len]; first | done | exact Nat.le_refl _)) (by ((try dsimp only); (try simp only [Dat.len, Int.toNat_natCast, List.length_set, flatN_len, bld_len]); first | done | omega)) (by ((try dsimp only); (try simp only [Dat.len, Int.toNat_natCast, List.length_set, flatN_len, bld_len]); first | done | omega)) hN   -- 28 load
        refine And.intro ?_ ?_
        · first | ((try dsimp only); (try simp only [Dat.len, Int.toNat_natCast, List.length_set, flatN_len, bld_len]); first | done | omega) | (exact ixd2 (bl.length - 1 - t) (bl.length - t + s) (by ((try dsimp only); (try simp only [Dat.len, Int.toNat_natCast, List.length_set, flatN_len, bld_len]); first | done | omega)) (by ((try dsimp only); (try simp only [Dat.len, Int.toNat_natCast, List.length_set, flatN_len, bld_len]); first | done | omega)) (by (simp only [Dat.len, List.length_set, flatN_len, bld_len]; first | done | exact Nat.le_refl _)) (by ((try dsimp only); (try simp only [Dat.len, Int.toNat_natCast, List.length_set, flatN_len, bld_len]); first | done | omega)) (by ((try dsimp only); (try simp only [Dat.len, Int.toNat_natCast, List.length_set, flatN_len, bld_len]); first | done | omega)) hN) | (exact ixd2 (bl.length - 1 - t) (bl.length - 1 - t) (by ((try dsimp only); (try simp only [Dat.len, Int.toNat_natCast, List.length_set, flatN_len, bld_len]); first | done | omega)) (by ((try dsimp only); (try simp only [Dat.len, Int.toNat_natCast, List.length_set, flatN_len, bld_len]); first | done | omega)) (by (simp only [Dat.len, List.length_set, flatN_len, bld_len]; first | done | exact Nat.le_refl _)) (by ((try dsimp only); (try simp only [Dat.len, Int.toNat_natCast, List.length_set, flatN_len, bld_len]); first | done | omega)) (by ((try dsimp only); (try simp only [Dat.len, Int.toNat_natCast, List.length_set, flatN_len, bld_len]); first | done | omega)) hN) | exact ixd (by (simp only [Dat.len, List.length_set, flatN_len, bld_len]; first | done | exact Nat.le_refl _)) (by ((try dsimp only); (try simp only [Dat.len, Int.toNat_natCast, List.length_set, flatN_len, bld_len]); first | done | omega)) (by ((try dsimp only); (try simp only [Dat.len, Int.toNat_natCast, List.length_set, flatN_len, bld_len]); first | done | omega)) hN   -- 29 index
        refine And.intro ?_ ?_
        · first | ((try dsimp only); (try simp only [Dat.len, Int.toNat_natCast, List.length_set, flatN_len, bld_len]); first | done | omega) | (exact ixl2 (bl.length - 1 - t) (bl.length - t + s) (by ((try dsimp only); (try simp only [Dat.len, Int.toNat_natCast, List.length_set, flatN_len, bld_len]); first | done | omega)) (by ((try dsimp only); (try simp only [Dat.len, Int.toNat_natCast, List.length_set, flatN_len, bld_len]); first | done | omega)) (by (simp only [Dat.len, List.length_set, flatN_len, bld_len]; first | done | exact Nat.le_refl _)) (by ((try dsimp only); (try simp only [Dat.len, Int.toNat_natCast, List.length_set, flatN_len, bld_len]); first | done | omega)) (by ((try dsimp only); (try simp only [Dat.len, Int.toNat_natCast, List.length_set, flatN_len, bld_len]); first | done | omega)) hN) | (exact ixl2 (bl.length - 1 - t) (bl.length - 1 - t) (by ((try dsimp only); (try simp only [Dat.len, Int.toNat_natCast, List.length_set, flatN_len, bld_len]); first | done | omega)) (by ((try dsimp only); (try simp only [Dat.len, Int.toNat_natCast, List.length_set, flatN_len, bld_len]); first | done | omega)) (by (simp only [Dat.len, List.length_set, flatN_len, bld_len]; first | done | exact Nat.le_refl _)) (by ((try dsimp only); (try simp only [Dat.len, Int.toNat_natCast, List.length_set, flatN_len, bld_len]); first | done | omega)) (by ((try dsimp only); (try simp only [Dat.len, Int.toNat_natCast, List.length_set, flatN_len, bld_len]); first | done | omega)) hN) | exact ixl (by (simp only [Dat.len, List.length_set, flatN_len, bld_len]; first | done | exact Nat.le_refl _)) (by ((try dsimp only); (try simp only [Dat.len, Int.toNat_natCast, List.length_set, flatN_len, bld_len]); first | done | omega)) (by ((try dsimp only); (try simp only [Dat.len, Int.toNat_natCast, List.length_set, flatN_len, bld_len]); first | done | omega)) hN   -- 30 store
        refine n_of (N' := KK81) kk81 ?_
        refine n_of (N' := NN80) nn80 ?_
        refine c_seq fun NN82 nn82 => ?_
        refine c_region fun KK83 kk83 => ?_
        refine And.intro ?_ ?_
        · first | ((try dsimp only); (try simp only [Dat.len, Int.toNat_natCast, List.length_set, flatN_len, bld_len]); first | done | omega) | (exact ixd2 (bl.length - 1 - t) (bl.length - t + s) (by ((try dsimp only); (try simp only [Dat.len, Int.toNat_natCast, List.length_set, flatN_len, bld_len]); first | done | omega)) (by ((try dsimp only); (try simp only [Dat.len, Int.toNat_natCast, List.length_set, flatN_len, bld_len]); first | done | omega)) (by (simp only [Dat.len, List.length_set, flatN_len, bld_len]; first | done | exact Nat.le_refl _)) (by ((try dsimp only); (try simp only [Dat.len, Int.toNat_natCast, List.length_set, flatN_len, bld_len]); first | done | omega)) (by ((try dsimp only); (try simp only [Dat.len, Int.toNat_natCast, List.length_set, flatN_len, bld_len]); first | done | omega)) hN) | (exact ixd2 (bl.length - 1 - t) (bl.length - 1 - t) (by ((try dsimp only); (try simp only [Dat.len, Int.toNat_natCast, List.length_set, flatN_len, bld_len]); first | done | omega)) (by ((try dsimp only); (try simp only [Dat.len, Int.toNat_natCast, List.length_set, flatN_len, bld_len]); first | done | omega)) (by (simp only [Dat.len, List.length_set, flatN_len, bld_len]; first | done | exact Nat.le_refl _)) (by ((try dsimp only); (try simp only [Dat.len, Int.toNat_natCast, List.length_set, flatN_len, bld_len]); first | done | omega)) (by ((try dsimp only); (try simp only [Dat.len, Int.toNat_natCast, List.length_set, flatN_len, bld_len]); first | done | omega)) hN) | exact ixd (by (simp only [Dat.len, List.length_set, flatN_len, bld_len]; first | done | exact Nat.le_refl _)) (by ((try dsimp only); (try simp only [Dat.len, Int.toNat_natCast, List.length_set, flatN_len, bld_len]); first | done | omega)) (by ((try dsimp only); (try simp only [Dat.len, Int.toNat_natCast, List.length_set, flatN_len, bld_len]); first | done | omega)) hN   -- 31 index
        refine And.intro ?_ ?_
        · first | ((try dsimp only); (try simp only [Dat.len, Int.toNat_natCast, List.length_set, flatN_len, bld_len]); first | done | omega) | (exact ixl2 (bl.length - 1 - t) (bl.length - t + s) (by ((try dsimp only); (try simp only [Dat.len, Int.toNat_natCast, List.length_set, flatN_len, bld_len]); first | done | omega)) (by ((try dsimp only); (try simp only [Dat.len, Int.toNat_natCast, List.length_set, flatN_len, bld_len]); first | done | omega)) (by (simp only [Dat.len, List.length_set, flatN_len, bld_len]; first | done | exact Nat.le_refl _)) (by ((try dsimp only); (try simp only [Dat.len, Int.toNat_natCast, List.length_set, flatN_len, bld_len]); first | done | omega)) (by ((try dsimp only); (try simp only [Dat.len, Int.toNat_natCast, List.length_set, flatN_len, bld_len]); first | done | omega)) hN) | (exact ixl2 (bl.length - 1 - t) (bl.length - 1 - t) (by ((try dsimp only); (try simp only [Dat.len, Int.toNat_natCast, List.length_set, flatN_len, bld_len]); first | done | omega)) (by ((try dsimp only); (try simp only [Dat.len, Int.toNat_natCast, List.length_set, flatN_len, bld_len]); first | done | omega)) (by (simp only [Dat.len, List.length_set, flatN_len, bld_len]; first | done | exact Nat.le_refl _)) (by ((try dsimp only); (try simp only [Dat.len, Int.toNat_natCast, List.length_set, flatN_len, bld_len]); first | done | omega)) (by ((try dsimp only); (try simp only [Dat.len, Int.toNat_natCast, List.length_set, flatN_len, bld_len]); first | done | omega)) hN) | exact ixl (by (simp only [Dat.len, List.length_set, flatN_len, bld_len]; first | done | exact Nat.le_refl _)) (by ((try dsimp only); (try simp only [Dat.len, Int.toNat_natCast, List.length_set, flatN_len, bld_len]); first | done | omega)) (by ((try dsimp only); (try simp only [Dat.len, Int.toNat_natCast, List.length_set, flatN_len, bld_len]); first | done | omega)) hN   -- 32 load
        refine ⟨rfl, _, _, s64 _, ?_⟩
        refine n_of (N' := KK83) kk83 ?_
        refine n_of (N' := NN82) nn82 ?_
        refine c_cond rfl (fun h3 => ?_) (fun h3 => ?_)
        · skip
          have hv : finB (bsx G g bl.length (t + 1) (bl.length - 1 - t)) = false := (back_fin eI ht1 hN).symm.trans (not_t h3)
          refine c_seq fun NN84 nn84 => ?_
          refine c_region fun KK85 kk85 => ?_
          refine n_of (N' := KK85) kk85 ?_
          refine n_of (N' := NN84) nn84 ?_
          refine c_ret ?_
          refine n_of (N' := R0) hR ?_
          have ok := sol_bad hel ht1 hv
          exact ⟨[.nil 23 (.f [])], rfl, rfl, by rw [ok]; rfl, by rw [ok]; rfl⟩
        · skip
          have hv : finB (bsx G g bl.length (t + 1) (bl.length - 1 - t)) = true := (back_fin eI ht1 hN).symm.trans (not_f h3)
          refine c_skip ?_
          refine n_of (N' := NN64) nn64 ?_
          refine c_region fun KK86 kk86 => ?_
          refine n_of (N' := KK86) kk86 ?_
          refine n_of (N' := NL60) nl60 ?_
          refine ⟨⟨t + 1, ht1, fin_next ht1 hfin hv⟩, ?_, [0, 1, 2, 3, 4], rfl, ?_, ?_⟩
          · (dsimp only; omega)
          · exact LEq.eq ⟨rfl, rfl, rfl, rfl, congrArg (ar true) (back_step eI ht1 hN), trivial⟩
          · exact ⟨.inr (congrArg (exi .i64) ((wr64 (n := (bl.length : Int) - 1 - (t : Int) - 1) (by omega) (by omega)).trans (show (bl.length : Int) - 1 - (t : Int) - 1 = (bl.length : Int) - 1 - ((t + 1 : Nat) : Int) by omega))), .inr rfl, .inr rfl, .inr rfl, .inr rfl, trivial⟩
    · skip
      have q1 := of_decide_eq_false h1
      (try dsimp only at q1)
      (try simp only [Dat.len, flatN_len, bld_len, List.length_set, List.length_append, List.length_replicate, List.length_nil] at q1)
      have e : t = bl.length := by ((try dsimp only); (try simp only [Dat.len, Int.toNat_natCast, List.length_set, flatN_len, bld_len]); first | done | omega)
      subst e
      refine c_exit ?_
      refine x_here xx59 ?_
      refine n_of (N' := NN56) nn56 ?_
      refine c_seq fun NN87 nn87 => ?_
      refine c_region fun KK88 kk88 => ?_
      refine n_of (N' := KK88) kk88 ?_
      refine n_of (N' := NN87) nn87 ?_
      refine c_ret ?_
      refine n_of (N' := R0) hR ?_
      have ok := sol_good hel (fun j hj => hfin j hj (by omega))
      exact ⟨[], rfl, by rw [ok]; rfl, by rw [ok]; rfl⟩

end
end Go.AX
