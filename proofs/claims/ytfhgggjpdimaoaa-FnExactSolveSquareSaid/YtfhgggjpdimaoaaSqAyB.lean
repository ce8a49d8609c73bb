/- A symbolic walk over the code of one function, and that it tells no more than the model does: no condition. -/
import Derived.Test.YtfhgggjpdimaoaaSqAyA
set_option linter.unusedVariables false
set_option linter.unusedSimpArgs false
namespace Go.AX
noncomputable section
open Go.RowKit

/-! ## A matrix: a slice of rows, each an array of its own -/

abbrev rowE (m : List Nat) : Ent := .arr true 23 (.f m)
def lnk (N x : Nat) : List AC := (List.range N).map (fun j => .sl (j + 5)) ++ List.replicate x .any
abbrev fullV (l0 l1 l2 l3 : List Nat) (M : List (List Nat)) (cs : List AC) : List Ent := rowE l0 :: rowE l1 :: rowE l2 :: rowE l3 :: .var 35 cs :: M.map rowE
abbrev full (l0 l1 l2 l3 : List Nat) (M : List (List Nat)) (x : Nat) : List Ent := fullV l0 l1 l2 l3 M (lnk M.length x)
def envR (g : Nat → Nat) : List (Nat × AV) → List (Nat × AV)
  | [] => []
  | (t, α) :: r => (t, α.ren g) :: envR g r
theorem envR_get {g : Nat → Nat} : ∀ {e : List (Nat × AV)} {t : Nat}, envGet (envR g e) t = (envGet e t).ren g
  | [], t => rfl
  | (t', α) :: r, t => by
    simp only [envR, envGet]
    cases Nat.beq t' t
    · exact envR_get
    · rfl
theorem RelCs_of {σ : List Value} : ∀ {cs : List AC} {us : List Value}, cs.length = us.length → (∀ (j : Nat) c u, cs[j]? = some c → us[j]? = some u → RelC σ c u) → RelCs σ cs us
  | [], [], _, _ => trivial
  | c :: cs, u :: us, hl, h => ⟨h 0 c u rfl rfl, RelCs_of (by simpa using hl) fun j c u h1 h2 => h (j + 1) c u (by simpa using h1) (by simpa using h2)⟩
  | [], _ :: _, h, _ => by simp at h
  | _ :: _, [], h, _ => by simp at h
theorem RelCs.at {σ : List Value} : ∀ {cs : List AC} {us : List Value}, RelCs σ cs us → ∀ {j : Nat} {c u}, cs[j]? = some c → us[j]? = some u → RelC σ c u := fun h j c u h1 h2 => by
  obtain ⟨u', h3, h4⟩ := h.get h1
  rw [h2] at h3; cases h3; exact h4
theorem lnk_lt {N x j : Nat} (h : j < N) : (lnk N x)[j]? = some (.sl (j + 5)) := by
  unfold lnk; rw [List.getElem?_append_left (by simpa using h)]; simp [h]
theorem lnk_ge {N x j : Nat} (h : N ≤ j) {c : AC} (hc : (lnk N x)[j]? = some c) : c = .any := by
  unfold lnk at hc; rw [List.getElem?_append_right (by simpa using h)] at hc
  have := List.getElem?_eq_some_iff.1 hc
  obtain ⟨h1, h2⟩ := this; simpa using h2.symm
theorem lnk_len (N x : Nat) : (lnk N x).length = N + x := by simp [lnk]
theorem row_at {M : List (List Nat)} {j : Nat} (h : j < M.length) : (M.map rowE)[j]? = some (rowE (M.getD j [])) := by
  simp [List.getD_eq_getElem?_getD, h]
theorem beq_ne {i j : Nat} (h : i ≠ j) : Nat.beq i j = false := by
  cases hb : Nat.beq i j
  · rfl
  · exact absurd (Nat.eq_of_beq_eq_true hb) h
theorem relV_ex {σ : List Value} {v : Value} : RelC σ (.ex v) v := rfl

/-- The headers of the rows that are not lent are told by what they are. -/
def lend (σ : List Value) (I : List Nat) (N x : Nat) : List AC := (List.range N).map (fun j => if j ∈ I then .sl (j + 5) else .ex (σ.getD (j + 5) undef)) ++ List.replicate x .any
theorem lend_len (σ : List Value) (I : List Nat) (N x : Nat) : (lend σ I N x).length = N + x := by simp [lend]
theorem lend_lt {σ : List Value} {I : List Nat} {N x j : Nat} (h : j < N) : (lend σ I N x)[j]? = some (if j ∈ I then .sl (j + 5) else .ex (σ.getD (j + 5) undef)) := by
  unfold lend; rw [List.getElem?_append_left (by simpa using h)]; simp [h]
theorem lend_ge {σ : List Value} {I : List Nat} {N x j : Nat} (h : N ≤ j) {c : AC} (hc : (lend σ I N x)[j]? = some c) : c = .any := by
  unfold lend at hc; rw [List.getElem?_append_right (by simpa using h)] at hc
  have := List.getElem?_eq_some_iff.1 hc
  obtain ⟨h1, h2⟩ := this; simpa using h2.symm
theorem lend_rel {σ : List Value} {I : List Nat} {N x : Nat} {us : List Value} (h : RelCs σ (lnk N x) us) : RelCs σ (lend σ I N x) us := by
  refine RelCs_of (by rw [lend_len, ← lnk_len N x, h.len]) fun j c u hc hu => ?_
  by_cases hj : j < N
  · rw [lend_lt hj] at hc
    cases hc
    have h1 := h.at (lnk_lt hj) hu
    split
    · exact h1
    · have h2 : σ[j + 5]? = some u := h1.1
      show u = σ.getD (j + 5) undef
      rw [List.getD_eq_getElem?_getD, h2]; rfl
  · rw [lend_ge (Nat.le_of_not_lt hj) hc]; trivial
theorem lend_back {σ σ' : List Value} {I : List Nat} {N x : Nat} {us us0 : List Value} (h0 : RelCs σ (lnk N x) us0) (hp : Pre σ σ') (h : RelCs σ' (lend σ I N x) us) : RelCs σ' (lnk N x) us := by
  refine RelCs_of (by rw [lnk_len, ← lend_len σ I N x, h.len]) fun j c u hc hu => ?_
  by_cases hj : j < N
  · rw [lnk_lt hj] at hc
    cases hc
    have h1 := h.at (lend_lt hj) hu
    split at h1
    · exact h1
    · have e : u = σ.getD (j + 5) undef := h1
      obtain ⟨u0, h2, h3⟩ := h0.get (lnk_lt hj)
      have h4 : σ[j + 5]? = some u0 := h3.1
      rw [List.getD_eq_getElem?_getD, h4] at e
      have e : u = u0 := e
      subst e
      exact ⟨hp _ _ h4, h3.2⟩
  · rw [lnk_ge (Nat.le_of_not_lt hj) hc]; trivial

section
variable {P : Program} {ty : TyT} {n m0 : Nat} {c : Code} {N : St → Prop} {X : Nat → St → Prop} {R : St → Prop}
theorem k_borrow2 {env env' : List (Nat × AV)} {l0 l1 l2 l3 : List Nat} {M : List (List Nat)} {x i k : Nat} (hik : i ≠ k) (hi : i < M.length) (hk : k < M.length) (he : LeEnv [0, 1, 2, 3, 4, i + 5, k + 5] env env')
    (h : ∀ C : List AC, C[i]? = some (.sl 5) → C[k]? = some (.sl 6) → C.length = M.length + x → ∀ N', (N' = fun s' => ∃ k0 k1 k2 k3 r1 r2, s'.L = [rowE k0, rowE k1, rowE k2, rowE k3, .var 35 C, rowE r1, rowE r2] ∧ N ⟨envR (gmap [0, 1, 2, 3, 4, i + 5, k + 5] (M.length + 5)) s'.env, full k0 k1 k2 k3 ((M.set i r1).set k r2) x⟩) →
      CodeOK P n 7 c ⟨env', [rowE l0, rowE l1, rowE l2, rowE l3, .var 35 C, rowE (M.getD i []), rowE (M.getD k [])]⟩ N' (fun _ _ => False) (fun _ => False)) : CodeOK P n m0 c ⟨env, full l0 l1 l2 l3 M x⟩ N X R := by
  intro w0 σ0 L0 Q hl hN hX hR σ a w hA
  have hV : (full l0 l1 l2 l3 M x)[4]? = some (.var 35 (lnk M.length x)) := rfl
  obtain ⟨vV, hσ4⟩ := hA.sat.some_val hV
  obtain ⟨g, us0, _, _, hrel0⟩ := hA.sat.ok _ _ _ hV hσ4
  have hA1 : At w0 σ0 L0 n ⟨env, fullV l0 l1 l2 l3 M (lend σ [i, k] M.length x)⟩ σ a w := hA.retell hV fun us hr => lend_rel hr
  have hfl : (fullV l0 l1 l2 l3 M (lend σ [i, k] M.length x)).length = M.length + 5 := by simp
  have hsl := hA1.sat.len
  rw [hfl] at hsl
  have gi : (fullV l0 l1 l2 l3 M (lend σ [i, k] M.length x))[i + 5]? = some (rowE (M.getD i [])) := row_at hi
  have gk : (fullV l0 l1 l2 l3 M (lend σ [i, k] M.length x))[k + 5]? = some (rowE (M.getD k [])) := row_at hk
  have hok : okPi [0, 1, 2, 3, 4, i + 5, k + 5] (fullV l0 l1 l2 l3 M (lend σ [i, k] M.length x)) = true := by
    simp only [okPi, gi, gk]
    simp [hik]
  have hL : subL [0, 1, 2, 3, 4, i + 5, k + 5] (fullV l0 l1 l2 l3 M (lend σ [i, k] M.length x)) = [rowE l0, rowE l1, rowE l2, rowE l3, .var 35 ((lend σ [i, k] M.length x).map (AC.res [0, 1, 2, 3, 4, i + 5, k + 5])), rowE (M.getD i []), rowE (M.getD k [])] := by
    simp only [subL, List.map_cons, List.map_nil, gi, gk]; rfl
  have hs := sub_sat hA1.sat hok
  rw [hL] at hs
  have p5 : pos [0, 1, 2, 3, 4, i + 5, k + 5] (i + 5) 0 = some 5 := by simp only [pos, Nat.beq_refl, cond_true, cond_false, beq_ne (show 0 ≠ i + 5 by omega), beq_ne (show 1 ≠ i + 5 by omega), beq_ne (show 2 ≠ i + 5 by omega), beq_ne (show 3 ≠ i + 5 by omega), beq_ne (show 4 ≠ i + 5 by omega)]
  have p6 : pos [0, 1, 2, 3, 4, i + 5, k + 5] (k + 5) 0 = some 6 := by simp only [pos, Nat.beq_refl, cond_true, cond_false, beq_ne (show 0 ≠ k + 5 by omega), beq_ne (show 1 ≠ k + 5 by omega), beq_ne (show 2 ≠ k + 5 by omega), beq_ne (show 3 ≠ k + 5 by omega), beq_ne (show 4 ≠ k + 5 by omega), beq_ne (show i + 5 ≠ k + 5 by omega)]
  have c1 : ((lend σ [i, k] M.length x).map (AC.res [0, 1, 2, 3, 4, i + 5, k + 5]))[i]? = some (.sl 5) := by
    rw [List.getElem?_map, lend_lt hi]; simp [AC.res, p5]
  have c2 : ((lend σ [i, k] M.length x).map (AC.res [0, 1, 2, 3, 4, i + 5, k + 5]))[k]? = some (.sl 6) := by
    rw [List.getElem?_map, lend_lt hk]; simp [AC.res, p6]
  have hb : At w (subσ [0, 1, 2, 3, 4, i + 5, k + 5] σ) [rowE l0, rowE l1, rowE l2, rowE l3, .var 35 ((lend σ [i, k] M.length x).map (AC.res [0, 1, 2, 3, 4, i + 5, k + 5])), rowE (M.getD i []), rowE (M.getD k [])] n ⟨env', [rowE l0, rowE l1, rowE l2, rowE l3, .var 35 ((lend σ [i, k] M.length x).map (AC.res [0, 1, 2, 3, 4, i + 5, k + 5])), rowE (M.getD i []), rowE (M.getD k [])]⟩ (subσ [0, 1, 2, 3, 4, i + 5, k + 5] σ) a w :=
    ⟨hs, Fr.refl _ _ _, LeEnv_get hA1.env he, hA1.nodef, hA1.size⟩
  refine h _ c1 c2 (by simp [lend_len]) _ rfl w (subσ [0, 1, 2, 3, 4, i + 5, k + 5] σ) _ Q (by simp [subσ]) ?_ (fun _ _ _ _ _ h => h.elim) (fun _ _ _ _ h => h.elim) _ _ _ hb
  rintro s' σ' a' w' ⟨k0, k1, k2, k3, r1, r2, hsL, hn⟩ hA'
  have hkeep : Keeps (subL [0, 1, 2, 3, 4, i + 5, k + 5] (fullV l0 l1 l2 l3 M (lend σ [i, k] M.length x))) s'.L := by rw [hL, hsL]; exact rfl
  have hfr := hA'.fr
  rw [← hL] at hfr
  obtain ⟨p1, p2, p3⟩ := merge_sat hA1.sat hok hkeep hA'.sat hfr
  have hd : σ'.drop [0, 1, 2, 3, 4, i + 5, k + 5].length = [] := by
    rw [List.drop_eq_nil_iff, hA'.sat.len, hsL]; exact Nat.le_refl _
  rw [hd, List.append_nil, hfl] at p1 p2 p3
  have g5 : gmap [0, 1, 2, 3, 4, i + 5, k + 5] (M.length + 5) 5 = i + 5 := rfl
  have g6 : gmap [0, 1, 2, 3, 4, i + 5, k + 5] (M.length + 5) 6 = k + 5 := rfl
  have hcs : ((lend σ [i, k] M.length x).map (AC.res [0, 1, 2, 3, 4, i + 5, k + 5])).map (AC.ren (gmap [0, 1, 2, 3, 4, i + 5, k + 5] (M.length + 5))) = lend σ [i, k] M.length x := by
    apply List.ext_getElem?
    intro j
    rw [List.getElem?_map, List.getElem?_map]
    by_cases hj : j < M.length
    · rw [lend_lt hj]
      by_cases hji : j = i
      · subst hji; simp [AC.res, p5, AC.ren, g5]
      · by_cases hjk : j = k
        · subst hjk; simp [AC.res, p6, AC.ren, g6]
        · simp [hji, hjk, AC.res, AC.ren]
    · cases hc : (lend σ [i, k] M.length x)[j]? with
      | none => rfl
      | some c => rw [lend_ge (Nat.le_of_not_lt hj) hc]; rfl
  have hm : merge (gmap [0, 1, 2, 3, 4, i + 5, k + 5] (M.length + 5)) [0, 1, 2, 3, 4, i + 5, k + 5] (fullV l0 l1 l2 l3 M (lend σ [i, k] M.length x)) s'.L = fullV k0 k1 k2 k3 ((M.set i r1).set k r2) (lend σ [i, k] M.length x) := by
    rw [hsL]
    show List.set (List.set (fullV k0 k1 k2 k3 M (((lend σ [i, k] M.length x).map (AC.res [0, 1, 2, 3, 4, i + 5, k + 5])).map (AC.ren (gmap [0, 1, 2, 3, 4, i + 5, k + 5] (M.length + 5))))) (i + 5) (rowE r1)) (k + 5) (rowE r2) ++ [] = _
    rw [hcs, List.append_nil]
    show rowE k0 :: rowE k1 :: rowE k2 :: rowE k3 :: .var 35 (lend σ [i, k] M.length x) :: List.set (List.set (M.map rowE) i (rowE r1)) k (rowE r2) = _
    simp [List.map_set]
  rw [hm] at p1 p2
  have hlen : ((M.set i r1).set k r2).length = M.length := by simp
  have hA2 : At w0 σ0 L0 n ⟨envR (gmap [0, 1, 2, 3, 4, i + 5, k + 5] (M.length + 5)) s'.env, fullV k0 k1 k2 k3 ((M.set i r1).set k r2) (lend σ [i, k] M.length x)⟩ σ a' w' :=
    ⟨p1, hA1.fr.trans p2, fun t => by rw [envR_get]; exact ren_relV p3 (hA'.env t), hA'.nodef, hA'.size⟩
  have hA3 : At w0 σ0 L0 n ⟨envR (gmap [0, 1, 2, 3, 4, i + 5, k + 5] (M.length + 5)) s'.env, fullV k0 k1 k2 k3 ((M.set i r1).set k r2) (lnk M.length x)⟩ σ a' w' :=
    hA2.retell (k := 4) (T := 35) (cs := lend σ [i, k] M.length x) rfl fun us hr => lend_back hrel0 (Pre.refl σ) hr
  have hf : full k0 k1 k2 k3 ((M.set i r1).set k r2) x = fullV k0 k1 k2 k3 ((M.set i r1).set k r2) (lnk M.length x) := by show fullV _ _ _ _ _ (lnk ((M.set i r1).set k r2).length x) = _; rw [hlen]
  rw [← hf] at hA3
  exact hN _ σ a' w' hn hA3
end

section
variable {P : Program} {ty : TyT} {n m0 : Nat} {c : Code} {N : St → Prop} {X : Nat → St → Prop} {R : St → Prop}
theorem k_borrow1 {env env' : List (Nat × AV)} {l0 l1 l2 l3 : List Nat} {M : List (List Nat)} {x i : Nat} (hi : i < M.length) (he : LeEnv [0, 1, 2, 3, 4, i + 5] env env')
    (h : ∀ C : List AC, C[i]? = some (.sl 5) → C.length = M.length + x → ∀ N', (N' = fun s' => ∃ k0 k1 k2 k3 r1, s'.L = [rowE k0, rowE k1, rowE k2, rowE k3, .var 35 C, rowE r1] ∧ N ⟨envR (gmap [0, 1, 2, 3, 4, i + 5] (M.length + 5)) s'.env, full k0 k1 k2 k3 (M.set i r1) x⟩) →
      CodeOK P n 6 c ⟨env', [rowE l0, rowE l1, rowE l2, rowE l3, .var 35 C, rowE (M.getD i [])]⟩ N' (fun _ _ => False) (fun _ => False)) : CodeOK P n m0 c ⟨env, full l0 l1 l2 l3 M x⟩ N X R := by
  intro w0 σ0 L0 Q hl hN hX hR σ a w hA
  have hV : (full l0 l1 l2 l3 M x)[4]? = some (.var 35 (lnk M.length x)) := rfl
  obtain ⟨vV, hσ4⟩ := hA.sat.some_val hV
  obtain ⟨g, us0, _, _, hrel0⟩ := hA.sat.ok _ _ _ hV hσ4
  have hA1 : At w0 σ0 L0 n ⟨env, fullV l0 l1 l2 l3 M (lend σ [i] M.length x)⟩ σ a w := hA.retell hV fun us hr => lend_rel hr
  have hfl : (fullV l0 l1 l2 l3 M (lend σ [i] M.length x)).length = M.length + 5 := by simp
  have hsl := hA1.sat.len
  rw [hfl] at hsl
  have gi : (fullV l0 l1 l2 l3 M (lend σ [i] M.length x))[i + 5]? = some (rowE (M.getD i [])) := row_at hi
  have hok : okPi [0, 1, 2, 3, 4, i + 5] (fullV l0 l1 l2 l3 M (lend σ [i] M.length x)) = true := by
    simp only [okPi, gi]
    simp
  have hL : subL [0, 1, 2, 3, 4, i + 5] (fullV l0 l1 l2 l3 M (lend σ [i] M.length x)) = [rowE l0, rowE l1, rowE l2, rowE l3, .var 35 ((lend σ [i] M.length x).map (AC.res [0, 1, 2, 3, 4, i + 5])), rowE (M.getD i [])] := by
    simp only [subL, List.map_cons, List.map_nil, gi]; rfl
  have hs := sub_sat hA1.sat hok
  rw [hL] at hs
  have p5 : pos [0, 1, 2, 3, 4, i + 5] (i + 5) 0 = some 5 := by simp only [pos, Nat.beq_refl, cond_true, cond_false, beq_ne (show 0 ≠ i + 5 by omega), beq_ne (show 1 ≠ i + 5 by omega), beq_ne (show 2 ≠ i + 5 by omega), beq_ne (show 3 ≠ i + 5 by omega), beq_ne (show 4 ≠ i + 5 by omega)]
  have c1 : ((lend σ [i] M.length x).map (AC.res [0, 1, 2, 3, 4, i + 5]))[i]? = some (.sl 5) := by
    rw [List.getElem?_map, lend_lt hi]; simp [AC.res, p5]
  have hb : At w (subσ [0, 1, 2, 3, 4, i + 5] σ) [rowE l0, rowE l1, rowE l2, rowE l3, .var 35 ((lend σ [i] M.length x).map (AC.res [0, 1, 2, 3, 4, i + 5])), rowE (M.getD i [])] n ⟨env', [rowE l0, rowE l1, rowE l2, rowE l3, .var 35 ((lend σ [i] M.length x).map (AC.res [0, 1, 2, 3, 4, i + 5])), rowE (M.getD i [])]⟩ (subσ [0, 1, 2, 3, 4, i + 5] σ) a w :=
    ⟨hs, Fr.refl _ _ _, LeEnv_get hA1.env he, hA1.nodef, hA1.size⟩
  refine h _ c1 (by simp [lend_len]) _ rfl w (subσ [0, 1, 2, 3, 4, i + 5] σ) _ Q (by simp [subσ]) ?_ (fun _ _ _ _ _ h => h.elim) (fun _ _ _ _ h => h.elim) _ _ _ hb
  rintro s' σ' a' w' ⟨k0, k1, k2, k3, r1, hsL, hn⟩ hA'
  have hkeep : Keeps (subL [0, 1, 2, 3, 4, i + 5] (fullV l0 l1 l2 l3 M (lend σ [i] M.length x))) s'.L := by rw [hL, hsL]; exact rfl
  have hfr := hA'.fr
  rw [← hL] at hfr
  obtain ⟨p1, p2, p3⟩ := merge_sat hA1.sat hok hkeep hA'.sat hfr
  have hd : σ'.drop [0, 1, 2, 3, 4, i + 5].length = [] := by
    rw [List.drop_eq_nil_iff, hA'.sat.len, hsL]; exact Nat.le_refl _
  rw [hd, List.append_nil, hfl] at p1 p2 p3
  have g5 : gmap [0, 1, 2, 3, 4, i + 5] (M.length + 5) 5 = i + 5 := rfl
  have hcs : ((lend σ [i] M.length x).map (AC.res [0, 1, 2, 3, 4, i + 5])).map (AC.ren (gmap [0, 1, 2, 3, 4, i + 5] (M.length + 5))) = lend σ [i] M.length x := by
    apply List.ext_getElem?
    intro j
    rw [List.getElem?_map, List.getElem?_map]
    by_cases hj : j < M.length
    · rw [lend_lt hj]
      by_cases hji : j = i
      · subst hji; simp [AC.res, p5, AC.ren, g5]
      · simp [hji, AC.res, AC.ren]
    · cases hc : (lend σ [i] M.length x)[j]? with
      | none => rfl
      | some c => rw [lend_ge (Nat.le_of_not_lt hj) hc]; rfl
  have hm : merge (gmap [0, 1, 2, 3, 4, i + 5] (M.length + 5)) [0, 1, 2, 3, 4, i + 5] (fullV l0 l1 l2 l3 M (lend σ [i] M.length x)) s'.L = fullV k0 k1 k2 k3 (M.set i r1) (lend σ [i] M.length x) := by
    rw [hsL]
    show List.set (fullV k0 k1 k2 k3 M (((lend σ [i] M.length x).map (AC.res [0, 1, 2, 3, 4, i + 5])).map (AC.ren (gmap [0, 1, 2, 3, 4, i + 5] (M.length + 5))))) (i + 5) (rowE r1) ++ [] = _
    rw [hcs, List.append_nil]
    show rowE k0 :: rowE k1 :: rowE k2 :: rowE k3 :: .var 35 (lend σ [i] M.length x) :: List.set (M.map rowE) i (rowE r1) = _
    simp [List.map_set]
  rw [hm] at p1 p2
  have hlen : (M.set i r1).length = M.length := by simp
  have hA2 : At w0 σ0 L0 n ⟨envR (gmap [0, 1, 2, 3, 4, i + 5] (M.length + 5)) s'.env, fullV k0 k1 k2 k3 (M.set i r1) (lend σ [i] M.length x)⟩ σ a' w' :=
    ⟨p1, hA1.fr.trans p2, fun t => by rw [envR_get]; exact ren_relV p3 (hA'.env t), hA'.nodef, hA'.size⟩
  have hA3 : At w0 σ0 L0 n ⟨envR (gmap [0, 1, 2, 3, 4, i + 5] (M.length + 5)) s'.env, fullV k0 k1 k2 k3 (M.set i r1) (lnk M.length x)⟩ σ a' w' :=
    hA2.retell (k := 4) (T := 35) (cs := lend σ [i] M.length x) rfl fun us hr => lend_back hrel0 (Pre.refl σ) hr
  have hf : full k0 k1 k2 k3 (M.set i r1) x = fullV k0 k1 k2 k3 (M.set i r1) (lnk M.length x) := by show fullV _ _ _ _ _ (lnk (M.set i r1).length x) = _; rw [hlen]
  rw [← hf] at hA3
  exact hN _ σ a' w' hn hA3
end

end
end Go.AX
