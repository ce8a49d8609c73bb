/- What the functions of this program do, one contract a function, by that walk: each under what its own statement says. -/
import Derived.Test.YtfhgggjpdimaoaaSqE10
set_option linter.unusedVariables false
set_option linter.unusedSimpArgs false
namespace Go.AX
noncomputable section
open Go.RowKit Go.Proofs
set_option maxRecDepth 100000
set_option maxHeartbeats 4000000
open Go

/-! ## The elimination -/

section
variable {P : Program} {ty : TyT} {n m0 : Nat} {id : Nat} {ops : Array Oper} {s : St} {N : St → Prop} {X : Nat → St → Prop} {R : St → Prop}
/-- A call on all that is told. -/
theorem k_whole (hty : TyOK P ty) {pre post : List Oper} {o : Oper} (hops : ops.toList = pre ++ o :: post) (hg : o.guard = none) (hd : okDst n o.dst = true)
    (h : vOps P ty n m0 ops.toList 0 pre s (fun s1 => ∃ f args L' ret, callOf s1.env o.op = some (f, args) ∧ Spec P f s1.L args L' ret ∧ vOps P ty n m0 ops.toList (pre.length + 1) post ⟨envPut s1.env o.dst ret, L'⟩ N)) : CodeOK P n m0 (.region id ops false) s N X R := by
  intro w0 σ0 L0 Q hl hN hX hR σ a w hA
  subst hl
  refine wp_region_list ?_
  have key := vOps_app (P := P) (w0 := w0) (σ0 := σ0) (L0 := L0) (Q := Q) hty (ops := ops.toList) (r2 := o :: post) (fun s1 σ1 a1 w1 hK1 hA1 => ?_) pre 0 _ σ a w h hA
  · rw [← hops] at key
    simpa using key
  obtain ⟨f, args, L', ret, hc, hspec, hp⟩ := hK1
  refine wpList_plain hg fun K hK => ?_
  obtain ⟨us, r1, r2⟩ := callOf_sound (P := P) hc (fun x _ => hA1.env.ev x) w1
  refine wp_callR r2 (hspec.2 w1 σ1 us hA1.sat r1) fun v w2 ⟨σ2, g1, g2, g3⟩ => ?_
  refine hK _ _ ?_
  have hA2 : At w0 σ0 L0 n ⟨envPut s1.env o.dst ret, L'⟩ σ2 (a1.put o.dst v) w2 := ⟨g1, hA1.fr.trans g3, (hA1.env.pre g3.pre).put hA1.size hd g2, by rw [put_defers]; exact hA1.nodef, by rw [put_size]; exact hA1.size⟩
  exact vOps_sound hty hN post (pre.length + 1) _ σ2 _ w2 hp hA2
end
theorem s54m (l0 l1 l2 l3 : List Nat) (G : FF) (N x C k : Nat) (hk : k < N) (hN : N ≤ 16) (hcf : ∀ i, i < N → CF .f32 (G i k)) :
    SP 54 (full l0 l1 l2 l3 (mat G N) x) [.one (.sw 4 N C), i64 k] (full l0 l1 l2 l3 (mat G N) x) (exi .i64 (if pOK G k N = true then ((pv G k N : Nat) : Int) else -1)) := by
  have h := s54 l0 l1 l2 l3 (mat G N) x C k (by rw [mat_len]; exact hk) (by rw [mat_len]; exact hN) (fun i hi => by
    rw [mat_len] at hi ⊢
    rw [mat_row hi, bld_len])
  rw [← pv_found hk hcf]
  have e : (mat G N).length = N := mat_len G N
  have h2 : ∀ n, n = N → SP 54 (full l0 l1 l2 l3 (mat G N) x) [.one (.sw 4 n C), i64 k] (full l0 l1 l2 l3 (mat G N) x) (exi .i64 (pvI (colM (mat G N) k) k (n - k)).1) → SP 54 (full l0 l1 l2 l3 (mat G N) x) [.one (.sw 4 N C), i64 k] (full l0 l1 l2 l3 (mat G N) x) (exi .i64 (pvI (colM (mat G N) k) k (N - k)).1) := fun n hn h => by subst hn; exact h
  exact h2 _ e h
noncomputable def cR14 : Code := fstC (sndC cBody)
theorem r14_ok {l0 l1 l2 l3 : List Nat} {G : FF} {N x k : Nat} (hk : k < N) (hN : N ≤ 16) {Nx : St → Prop} {X : Nat → St → Prop} {R : St → Prop}
    (h : ∀ e, LeEnvS e ((10, exi .i64 (if pOK G k N = true then ((pv G k N : Nat) : Int) else -1)) :: envK N x k) → Nx ⟨e, full l0 l1 l2 l3 (mat G N) x⟩) :
    CodeOK Try.prog 208 2 cR14 ⟨envK N x k, full l0 l1 l2 l3 (mat G N) x⟩ Nx X R := by
  refine k_good fun hg => ?_
  have hcf : ∀ i, i < N → CF .f32 (G i k) := fun i hi => by
    have h1 := good_rows (M := mat G N) hg.2.2.2.2.2 i k (by rw [mat_len]; exact hi) (by rw [mat_row hi, bld_len]; exact hk)
    rwa [mat_row hi, bld_at 0 _ hk] at h1
  refine k_whole tyOK (pre := _ :: _ :: []) rfl rfl rfl ?_
  refine vOps_q0 rfl rfl rfl rfl rfl ?_
  refine vOps_q0 rfl rfl rfl rfl rfl ?_
  refine ⟨_, _, _, _, rfl, s54m _ _ _ _ _ _ _ _ _ hk hN hcf, ?_⟩
  refine vOps_q0 rfl rfl rfl rfl rfl ?_
  exact h _ ⟨.inr rfl, .inr rfl, .inr rfl, .inr rfl, .inr rfl, .inr rfl, .inr rfl, trivial⟩
theorem LeEnvS_trans {e1 e2 : List (Nat × AV)} (h : ∀ t, envGet e2 t = one .any ∨ envGet e1 t = envGet e2 t) : ∀ {e3 : List (Nat × AV)}, LeEnvS e2 e3 → LeEnvS e1 e3
  | [], _ => trivial
  | (t, α) :: r, ⟨h1, h2⟩ => ⟨by
    rcases h1 with h1 | h1
    · exact .inl h1
    · rcases h t with h3 | h3
      · exact .inl (h1.symm.trans h3)
      · exact .inr (h3.trans h1), LeEnvS_trans h h2⟩
theorem LeEnvS_get' {e1 : List (Nat × AV)} : ∀ {e2 : List (Nat × AV)}, LeEnvS e1 e2 → ∀ t, envGet e2 t = one .any ∨ envGet e1 t = envGet e2 t
  | [], _, t => .inl rfl
  | (t', α) :: r, ⟨h1, h2⟩, t => by
    simp only [envGet]
    cases hb : Nat.beq t' t
    · exact LeEnvS_get' h2 t
    · have := Nat.eq_of_beq_eq_true hb; subst this
      rcases h1 with h1 | h1
      · exact .inl h1
      · exact .inr h1
theorem LeEnvS.trans {e1 e2 e3 : List (Nat × AV)} (h : LeEnvS e1 e2) (k : LeEnvS e2 e3) : LeEnvS e1 e3 := LeEnvS_trans (LeEnvS_get' h) k
theorem el_succ {G : FF} {r k m s : Nat} : upd (el G r k m s) r (k + 1 + s) (fop .sub .f32 (el G r k m s r (k + 1 + s)) (fop .mul .f32 m (el G r k m s k (k + 1 + s)))) = el G r k m (s + 1) := rfl
theorem row_ok {l0 l1 l3 : List Nat} {g : BB} {G : FF} {N x k r : Nat} (hN : N ≤ 16) (hk : k < N) (hr : r < N) (hkr : k < r) {Nx : St → Prop} {X : Nat → St → Prop} {R : St → Prop}
    (h : ∀ e M l, M = mat (el G r k (fop .quo .f32 (G r k) (G k k)) (N - (k + 1))) N → l = bld (upb g r (fop .sub .f32 (g r) (fop .mul .f32 (fop .quo .f32 (G r k) (G k k)) (g k)))) N → LeEnvS e (envA N x k r) → Nx ⟨e, full l0 l1 l l3 M x⟩) :
    CodeOK Try.prog 208 2 cRow ⟨envA N x k r, full l0 l1 (bld g N) l3 (mat G N) x⟩ Nx X R := by
  refine k_seq fun N1 n1 => ?_
  refine r21_ok hk hr (by omega) fun e M f eM ef he => ?_
  subst eM
  refine n_of (N' := N1) n1 ?_
  refine k_imp (Imp.env he) ?_
  refine k_seq fun N2 n2 => ?_
  refine k_seq fun N3 n3 => ?_
  refine k_code tyOK mixes ?_
  refine c_region fun K4 k4 => ?_
  refine n_of (N' := K4) k4 ?_
  refine n_of (N' := N3) n3 ?_
  refine k_block fun X5 x5 => ?_
  refine k_loop (ι := { s : Nat // k + 1 + s ≤ N }) (fun i => ⟨envB N x k r (k + 1 + i.1) f, full l0 l1 (bld g N) l3 (mat (el G r k f i.1) N) x⟩) (fun i => N - i.1) ⟨0, by omega⟩ (Imp.env ⟨.inr rfl, .inr rfl, .inr rfl, .inr rfl, .inr rfl, .inr rfl, .inr (congrArg (exi .i64) (wrN (a := k) (b := 1) (by omega))), .inr rfl, .inr rfl, trivial⟩) ?_
  refine fun ⟨s, hs⟩ N6 n6 => ?_
  refine k_seq fun N7 n7 => ?_
  refine k_seq fun N8 n8 => ?_
  refine k_code tyOK mixes ?_
  refine c_region fun K9 k9 => ?_
  refine n_of (N' := K9) k9 ?_
  refine n_of (N' := N8) n8 ?_
  refine k_cond rfl (fun h0 => ?_) (fun h0 => ?_)
  · have q0 := of_decide_eq_true h0
    (try dsimp only at q0)
    have hj : k + 1 + s < N := by omega
    refine k_skip ?_
    refine n_of (N' := N7) n7 ?_
    refine k_seq fun N10 n10 => ?_
    refine k_block fun X11 x11 => ?_
    refine k_imp (s' := ⟨envB N x k r (k + 1 + s) f, full l0 l1 (bld g N) l3 (mat (el G r k f s) N) x⟩) (Imp.env ⟨.inr rfl, .inr rfl, .inr rfl, .inr rfl, .inr rfl, .inr rfl, .inr rfl, .inr rfl, .inr rfl, trivial⟩) ?_
    refine r25_ok hk hr hj (by omega) fun e M eM he => ?_
    subst eM
    refine n_of (N' := N10) n10 ?_
    refine k_imp (Imp.env he) ?_
    refine k_code tyOK mixes ?_
    refine c_region fun K12 k12 => ?_
    refine n_of (N' := K12) k12 ?_
    refine n_of (N' := N6) n6 ?_
    exact ⟨⟨s + 1, by omega⟩, by (dsimp only; omega), Imp.env ⟨.inr rfl, .inr rfl, .inr rfl, .inr rfl, .inr rfl, .inr rfl, .inr (congrArg (exi .i64) (wrN (a := k + 1 + s) (b := 1) (by omega))), .inr rfl, .inr rfl, trivial⟩⟩
  · have q0 := of_decide_eq_false h0
    (try dsimp only at q0)
    have e : s = N - (k + 1) := by omega
    subst e
    refine k_exit ?_
    refine x_here x5 ?_
    refine n_of (N' := N2) n2 ?_
    refine k_imp (s' := ⟨envF N x k r f, _⟩) (Imp.env ⟨.inr rfl, .inr rfl, .inr rfl, .inr rfl, .inr rfl, .inr rfl, .inr rfl, .inr rfl, trivial⟩) ?_
    refine r26_ok hk hr fun e l el he => ?_
    subst ef
    exact h _ _ _ rfl el (he.trans ⟨.inr rfl, .inr rfl, .inr rfl, .inr rfl, .inr rfl, .inr rfl, .inr rfl, trivial⟩)
noncomputable def cRws : Code := sndC (sndC (sndC (sndC cBody)))
theorem rws_ok {l0 l1 l3 : List Nat} {g : BB} {G : FF} {N x k : Nat} (hN : N ≤ 16) (hk : k < N) {Nx : St → Prop} {X : Nat → St → Prop} {R : St → Prop}
    (h : ∀ e M l, M = mat (rws G g k N (N - (k + 1))).1 N → l = bld (rws G g k N (N - (k + 1))).2 N → LeEnvS e (envK N x k) → Nx ⟨e, full l0 l1 l l3 M x⟩) :
    CodeOK Try.prog 208 2 cRws ⟨envK N x k, full l0 l1 (bld g N) l3 (mat G N) x⟩ Nx X R := by
  refine k_seq fun N3 n3 => ?_
  refine k_code tyOK mixes ?_
  refine c_region fun K4 k4 => ?_
  refine n_of (N' := K4) k4 ?_
  refine n_of (N' := N3) n3 ?_
  refine k_block fun X5 x5 => ?_
  refine k_loop (ι := { t : Nat // k + 1 + t ≤ N }) (fun i => ⟨envA N x k (k + 1 + i.1), full l0 l1 (bld (rws G g k N i.1).2 N) l3 (mat (rws G g k N i.1).1 N) x⟩) (fun i => N - i.1) ⟨0, by omega⟩ (Imp.env ⟨.inr rfl, .inr rfl, .inr rfl, .inr rfl, .inr (congrArg (exi .i64) (wrN (a := k) (b := 1) (by omega))), .inr rfl, .inr rfl, trivial⟩) ?_
  refine fun ⟨t, ht⟩ N6 n6 => ?_
  refine k_seq fun N7 n7 => ?_
  refine k_seq fun N8 n8 => ?_
  refine k_code tyOK mixes ?_
  refine c_region fun K9 k9 => ?_
  refine n_of (N' := K9) k9 ?_
  refine n_of (N' := N8) n8 ?_
  refine k_cond rfl (fun h0 => ?_) (fun h0 => ?_)
  · have q0 := of_decide_eq_true h0
    (try dsimp only at q0)
    have hj : k + 1 + t < N := by omega
    refine k_skip ?_
    refine n_of (N' := N7) n7 ?_
    refine k_seq fun N10 n10 => ?_
    refine k_block fun X11 x11 => ?_
    refine k_imp (s' := ⟨envA N x k (k + 1 + t), full l0 l1 (bld (rws G g k N t).2 N) l3 (mat (rws G g k N t).1 N) x⟩) (Imp.env ⟨.inr rfl, .inr rfl, .inr rfl, .inr rfl, .inr rfl, .inr rfl, .inr rfl, trivial⟩) ?_
    refine row_ok hN hk hj (by omega) fun e M l eM el he => ?_
    subst eM
    subst el
    refine n_of (N' := N10) n10 ?_
    refine k_imp (Imp.env he) ?_
    refine k_code tyOK mixes ?_
    refine c_region fun K12 k12 => ?_
    refine n_of (N' := K12) k12 ?_
    refine n_of (N' := N6) n6 ?_
    exact ⟨⟨t + 1, by omega⟩, by (dsimp only; omega), Imp.env ⟨.inr rfl, .inr rfl, .inr rfl, .inr rfl, .inr (congrArg (exi .i64) (wrN (a := k + 1 + t) (b := 1) (by omega))), .inr rfl, .inr rfl, trivial⟩⟩
  · have q0 := of_decide_eq_false h0
    (try dsimp only at q0)
    have e : t = N - (k + 1) := by omega
    subst e
    refine k_exit ?_
    refine x_here x5 ?_
    exact h _ _ _ rfl rfl ⟨.inr rfl, .inr rfl, .inr rfl, .inr rfl, .inr rfl, .inr rfl, trivial⟩
abbrev envL (N x k : Nat) : List (Nat × AV) := [(1, one (.sl 2)), (6, exi .i64 (N : Int)), (7, one (.sw 4 N (N + x))), (62, exi .i64 (N : Int)), (63, exi .i64 (k : Int))]
abbrev envNo : List (Nat × AV) := [(4, one (.ex (.slice none 0 0))), (5, exb false)]
theorem body_ok {l0 l1 l3 : List Nat} {g : BB} {G : FF} {N x k : Nat} (hN : N ≤ 16) (hk : k < N) {Nx : St → Prop} {X : Nat → St → Prop} {R : St → Prop}
    (hT : pOK G k N = true → ∀ e M l, M = mat (stp G g k N).1 N → l = bld (stp G g k N).2 N → LeEnvS e (envL N x k) → Nx ⟨e, full l0 l1 l l3 M x⟩)
    (hF : pOK G k N = false → ∀ e, LeEnvS e envNo → R ⟨e, full l0 l1 (bld g N) l3 (mat G N) x⟩) :
    CodeOK Try.prog 208 2 cBody ⟨envL N x k, full l0 l1 (bld g N) l3 (mat G N) x⟩ Nx X R := by
  refine k_seq fun N1 n1 => ?_
  refine k_code tyOK mixes ?_
  refine c_region fun K2 k2 => ?_
  refine n_of (N' := K2) k2 ?_
  refine n_of (N' := N1) n1 ?_
  refine k_imp (s' := ⟨envK N x k, full l0 l1 (bld g N) l3 (mat G N) x⟩) (Imp.env ⟨.inr rfl, .inr rfl, .inr rfl, .inr rfl, .inr rfl, .inr rfl, trivial⟩) ?_
  refine k_seq fun N3 n3 => ?_
  refine r14_ok hk hN fun e he => ?_
  refine n_of (N' := N3) n3 ?_
  refine k_imp (Imp.env he) ?_
  refine k_seq fun N4 n4 => ?_
  cases hp : pOK G k N
  · refine k_imp (s' := ⟨(10, exi .i64 (-1)) :: envK N x k, full l0 l1 (bld g N) l3 (mat G N) x⟩) (Imp.env ⟨.inr (congrArg (exi .i64) (if_neg (by simp))), .inr rfl, .inr rfl, .inr rfl, .inr rfl, .inr rfl, .inr rfl, trivial⟩) ?_
    refine k_seq fun N5 n5 => ?_
    refine k_code tyOK mixes ?_
    refine c_region fun K6 k6 => ?_
    refine n_of (N' := K6) k6 ?_
    refine n_of (N' := N5) n5 ?_
    refine k_cond rfl (fun h0 => ?_) (fun h0 => ?_)
    · refine k_seq fun N7 n7 => ?_
      refine k_code tyOK mixes ?_
      refine c_region fun K8 k8 => ?_
      refine n_of (N' := K8) k8 ?_
      refine n_of (N' := N7) n7 ?_
      refine k_ret ?_
      exact hF hp _ ⟨.inr rfl, .inr rfl, trivial⟩
    · exact absurd h0 (by decide)
  · have hpv := pv_lt (F := G) hk
    refine k_imp (s' := ⟨(10, exi .i64 ((pv G k N : Nat) : Int)) :: envK N x k, full l0 l1 (bld g N) l3 (mat G N) x⟩) (Imp.env ⟨.inr (congrArg (exi .i64) (if_pos rfl)), .inr rfl, .inr rfl, .inr rfl, .inr rfl, .inr rfl, .inr rfl, trivial⟩) ?_
    refine k_seq fun N5 n5 => ?_
    refine k_code tyOK mixes ?_
    refine c_region fun K6 k6 => ?_
    refine n_of (N' := K6) k6 ?_
    refine n_of (N' := N5) n5 ?_
    refine k_cond rfl (fun h0 => ?_) (fun h0 => ?_)
    · have q0 := of_decide_eq_true h0
      (try dsimp only at q0)
      omega
    · refine k_skip ?_
      refine n_of (N' := N4) n4 ?_
      refine k_imp (s' := ⟨envW N x k (pv G k N), full l0 l1 (bld g N) l3 (mat G N) x⟩) (Imp.env ⟨.inr rfl, .inr rfl, .inr rfl, .inr rfl, .inr rfl, .inr rfl, .inr rfl, trivial⟩) ?_
      refine k_seq fun N7 n7 => ?_
      refine r17_any hk hpv.2 fun e M l eM el he => ?_
      subst eM
      subst el
      refine n_of (N' := N7) n7 ?_
      refine k_imp (Imp.env he) ?_
      refine rws_ok hN hk fun e M l eM el he => ?_
      exact hT hp _ _ _ eM el (he.trans ⟨.inr rfl, .inr rfl, .inr rfl, .inr rfl, .inr rfl, trivial⟩)
end
end Go.AX
