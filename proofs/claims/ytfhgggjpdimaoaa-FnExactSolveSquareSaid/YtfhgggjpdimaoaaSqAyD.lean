/- A symbolic walk over the code of one function, and that it tells no more than the model does: no condition. -/
import Derived.Test.YtfhgggjpdimaoaaSqAyC
import Derived.Laws.Slices
set_option linter.unusedVariables false
set_option linter.unusedSimpArgs false
namespace Go.AX
noncomputable section
open Go.RowKit

/-! ## One more row -/

section
variable {P : Program} {ty : TyT} {w0 : World} {σ0 : List Value} {L0 : List Ent} {n : Nat}

/-- The operations ahead, then others. -/
theorem vOps_app (hty : TyOK P ty) {ops : List Oper} {Q : Exit → Act → World → Prop} {K : St → Prop} {r2 : List Oper} (hK : ∀ s' σ' a' w', K s' → At w0 σ0 L0 n s' σ' a' w' → wpList P ops.toArray Q r2 a' w') :
    ∀ (r : List Oper) (i : Nat) (s : St) (σ : List Value) (a : Act) (w : World), vOps P ty n σ0.length ops i r s K → At w0 σ0 L0 n s σ a w → wpList P ops.toArray Q (r ++ r2) a w
  | [], i, s, σ, a, w, h, hA => hK s σ a w h hA
  | o :: r, i, s, σ, a, w, h, hA => by
    simp only [vOps] at h
    rw [List.cons_append]
    unfold wpList
    split at h
    · rename_i hw
      rw [if_pos (wants_sound hw fun _ _ _ d _ _ _ => hA.env d)]
      left
      refine vOp_sound hty h hA fun s' σ' a' w' hk hA' => ?_
      rw [norm_iff] at hk
      cases hg : isGuard ops i
      · simp only [hg, cond_false] at hk
        exact vOps_app hty hK r (i + 1) s' σ' a' w' hk hA'
      · simp only [hg, cond_true] at hk
        obtain ⟨s'', hk', hA''⟩ := settle_sound hk hA'
        exact vOps_app hty hK r (i + 1) s'' σ' a' w' hk' hA''
    · rename_i hw
      rw [if_neg (by rw [wants_sound hw fun _ _ _ d _ _ _ => hA.env d]; simp)]
      cases hd : okDst n o.dst
      · simp [hd] at h
      · simp only [hd, cond_true] at h
        exact vOps_app hty hK r (i + 1) _ σ _ w h (hA.put hd (α := one (.ex undef)) rfl)
    · exact h.elim

/-- An entry in another place: its block, or a new one, holds it now. -/
theorem SatL.renew {σ : List Value} {L : List Ent} {w w' : World} {k g : Nat} {E E' : Ent} {v v' : Value} (hs : SatL σ L w) (hE : L[k]? = some E) (hv : σ[k]? = some v) (hg : ownB E v = some g) (hgr : w.grownBy w' (some g))
    (hE' : EntOK (σ.set k v') w' E' v') (hb : ∀ b, blkB E' v' = some b → b = g ∨ w.heap.size ≤ b) :
    SatL (σ.set k v') ((L.map (Ent.kill k)).set k E') w' ∧ ∀ b, Own (σ.set k v') ((L.map (Ent.kill k)).set k E') b → Own σ L b ∨ w.heap.size ≤ b := by
  have src : ∀ {i : Nat} {F : Ent} {u : Value}, ((L.map (Ent.kill k)).set k E')[i]? = some F → (σ.set k v')[i]? = some u → (i = k ∧ F = E' ∧ u = v') ∨ (i ≠ k ∧ ∃ F0, L[i]? = some F0 ∧ σ[i]? = some u ∧ F = F0.kill k) := by
    intro i F u hi hu
    by_cases h : k = i
    · subst h
      rw [List.getElem?_set] at hi hu
      simp only [if_true] at hi hu
      split at hi
      · split at hu
        · cases hi; cases hu; exact .inl ⟨rfl, rfl, rfl⟩
        · cases hu
      · cases hi
    · rw [List.getElem?_set_ne h, List.getElem?_map] at hi
      rw [List.getElem?_set_ne h] at hu
      cases h0 : L[i]? with
      | none => rw [h0] at hi; cases hi
      | some F0 => rw [h0] at hi; cases hi; exact .inr ⟨fun e => h e.symm, F0, rfl, hu, rfl⟩
  refine ⟨⟨by simp [hs.len], fun i F u hi hu => ?_, fun i j Fi Fj vi vj b hij hi hvi hj hvj ho => ?_⟩, ?_⟩
  · rcases src hi hu with ⟨rfl, rfl, rfl⟩ | ⟨h1, F0, h2, h3, rfl⟩
    · exact hE'
    · have h4 := hs.ok i F0 u h2 h3
      refine (kill_ent h4).keep fun b hb' => hgr.block b (h4.lt (by rw [← (kill_ownB k F0 u).2]; exact hb')) fun e => ?_
      cases e
      rw [(kill_ownB k F0 u).2] at hb'
      exact hs.sep k i E F0 v u g (Ne.symm h1) hE hv h2 h3 hg hb'
  · rcases src hi hvi with ⟨rfl, rfl, rfl⟩ | ⟨h1, F0, h2, h3, rfl⟩
    · rcases src hj hvj with ⟨rfl, rfl, rfl⟩ | ⟨g1, G0, g2, g3, rfl⟩
      · exact absurd rfl hij
      · intro hb'
        rw [(kill_ownB _ G0 vj).2] at hb'
        rcases hb b (blkB_of_ownB ho) with rfl | h
        · exact hs.sep i j E G0 v vj b hij hE hv g2 g3 hg hb'
        · have := (hs.ok j G0 vj g2 g3).lt hb'; omega
    · rw [(kill_ownB k F0 vi).1] at ho
      rcases src hj hvj with ⟨rfl, rfl, rfl⟩ | ⟨g1, G0, g2, g3, rfl⟩
      · intro hb'
        rcases hb b hb' with rfl | h
        · exact hs.sep j i E F0 v vi b (Ne.symm hij) hE hv h2 h3 hg (blkB_of_ownB ho)
        · have := (hs.ok i F0 vi h2 h3).lt (blkB_of_ownB ho); omega
      · rw [(kill_ownB k G0 vj).2]
        exact hs.sep i j F0 G0 vi vj b hij h2 h3 g2 g3 ho
  · rintro b ⟨i, F, u, hi, hu, ho⟩
    rcases src hi hu with ⟨rfl, rfl, rfl⟩ | ⟨h1, F0, h2, h3, rfl⟩
    · rcases hb b (blkB_of_ownB ho) with rfl | h
      · exact .inl ⟨i, E, v, hE, hv, hg⟩
      · exact .inr h
    · rw [(kill_ownB k F0 u).1] at ho
      exact .inl ⟨i, F0, u, h2, h3, ho⟩

theorem drop_reads {w : World} {v : Value} {l : List Nat} (h : Reads w v (.f l)) {lo N : Nat} (hlo : lo + N ≤ l.length) (hN : 0 < N) : ∃ A c, v = .slice (some A) l.length c ∧ ∀ c', c' ≤ maxLen → Reads w (.slice (some (A.add lo)) N c') (.f ((l.drop lo).take N)) := by
  obtain ⟨A, m, c, rfl, hm, hml, hA, hc⟩ := h
  simp only [Dat.len] at hm hc
  obtain ⟨ad, _, rfl, _, _⟩ := hc 0 0 (by omega) (Nat.lt_succ_self 0)
  refine ⟨ad, c, by rw [hm], fun c' hc' => ⟨_, _, _, rfl, by simp [Dat.len]; omega, ?_, fun h => (by cases h), fun i j hi hj => ?_⟩⟩
  · have := hml; omega
  · simp only [Dat.len, List.length_take, List.length_drop] at hi
    obtain ⟨ad', u, e, h1, h2⟩ := hc (lo + i) j (by omega) hj
    cases e
    refine ⟨_, u, rfl, ?_, ?_⟩
    · rw [add_add]
      rw [add_add] at h1 ⊢
      simp only [Dat.sz, Nat.mul_one] at h1 ⊢
      rw [← h1]; congr 2; omega
    · simp only [Dat.cell] at h2 ⊢
      have e : ((l.drop lo).take N).getD i 0 = l.getD (lo + i) 0 := by
        simp only [List.getD_eq_getElem?_getD, List.getElem?_take, List.getElem?_drop]
        rw [if_pos (by omega)]
      rw [e]; exact h2
end
end
end Go.AX
