/- A symbolic walk over the code of one function, and that it tells no more than the model does: no condition. -/
import Derived.Test.YtfhgggjpdimaoaaSqAxL
set_option linter.unusedVariables false
set_option linter.unusedSimpArgs false
namespace Go.AX
noncomputable section
open Go.RowKit

/-! ## Drawn regions whose calls write -/

/-- The entries that the head's calls may write, told no more. -/
def killW : List Nat → List Ent → List Ent
  | [], L => L
  | k :: W, L => killW W (L.set k .dead)
theorem killW_get : ∀ {W : List Nat} {L : List Ent} {k : Nat} {E : Ent}, (killW W L)[k]? = some E → E = .dead ∨ (L[k]? = some E ∧ k ∉ W)
  | [], L, k, E, h => .inr ⟨h, by simp⟩
  | j :: W, L, k, E, h => by
    rcases killW_get (W := W) h with h1 | ⟨h1, h2⟩
    · exact .inl h1
    · rcases get_set h1 with ⟨h3, h4⟩ | ⟨_, h4⟩
      · right; refine ⟨h4, fun hm => ?_⟩
        cases hm with
        | head => exact h3 rfl
        | tail _ hm => exact h2 hm
      · exact .inl h4

/-- L1 tells what L tells, but for the written entries; and more. -/
def ExtW (W : List Nat) (L L1 : List Ent) : Prop := ∀ (k : Nat) (E : Ent), k ∉ W → L[k]? = some E → L1[k]? = some E
theorem ExtW.refl (W : List Nat) (L : List Ent) : ExtW W L L := fun _ _ _ h => h
theorem ExtW.trans {W : List Nat} {a b c : List Ent} (h : ExtW W a b) (k : ExtW W b c) : ExtW W a c := fun i E hi he => k i E hi (h i E hi he)
theorem ExtW.app (W : List Nat) (L X : List Ent) : ExtW W L (L ++ X) := fun k E _ h => by
  rw [List.getElem?_append_left (List.getElem?_eq_some_iff.1 h).1]; exact h

def agr : Nat → List Nat → List Ent → List Ent → Prop
  | _, _, [], _ => True
  | i, W, E :: r, E' :: r' => (mem i W = true ∨ E = E') ∧ agr (i + 1) W r r'
  | _, _, _ :: _, [] => False
theorem mem_true : ∀ {r : List Nat} {p : Nat}, mem p r = true → p ∈ r
  | [], _, h => by cases h
  | i :: r, p, h => by
    simp only [mem, Bool.or_eq_true] at h
    rcases h with h | h
    · rw [Nat.eq_of_beq_eq_true h]; exact .head _
    · exact .tail _ (mem_true h)
theorem agr_get {W : List Nat} : ∀ {i : Nat} {L L' : List Ent}, agr i W L L' → ∀ (k : Nat) (E : Ent), i + k ∉ W → L[k]? = some E → L'[k]? = some E
  | i, [], L', _, k, E, _, h => by simp at h
  | i, E0 :: r, E' :: r', ⟨h1, h2⟩, 0, E, hn, h => by
    simp at h; subst h
    rcases h1 with h1 | rfl
    · exact absurd (mem_true h1) (by simpa using hn)
    · rfl
  | i, E0 :: r, E' :: r', ⟨h1, h2⟩, k + 1, E, hn, h => by
    simp at h
    have := agr_get h2 k E (by rw [show i + 1 + k = i + (k + 1) by omega]; exact hn) h
    simpa using this
  | i, _ :: _, [], h, _, _, _, _ => h.elim
theorem agr_ext {W : List Nat} {L L' : List Ent} (h : agr 0 W L L') : ExtW W L L' := fun k E hk he => agr_get h k E (by simpa using hk) he

/-- An append onto an array of one's own, told as a new entry: the old one is told no more. -/
def aOp (ty : TyT) (env : List (Nat × AV)) (L : List Ent) (op : Op) : Option (Option Prop × AV × List Ent) :=
  match op with
  | .call { callee := .builtin .append, args, argTypes } => match args.toList, argTypes.toList with
    | [a, x], [T, T'] => match ty T, ev env a, ev env x with
      | some { k := .sli e, .. }, .v (.one (.sl k)), .v (.one (.sl k')) => match ty e, L[k]?, L[k']? with
        | some te, some (.arr true e' D), some (.arr _ _ D') =>
          bif Nat.beq T T' && Nat.beq e' e && Nat.beq te.size D.sz && !(Nat.beq k k') then
            match D.cat D' with
            | some D'' => some (some (D.len + D'.len ≤ 1099511627776 ∧ te.bytes ≤ 64), one (.sl L.length), L.set k .dead ++ [.arr true e D''])
            | none => none
          else none
        | _, _, _ => none
      | _, _, _ => none
    | _, _ => none
  | _ => none

section
variable {P : Program} {ty : TyT}
theorem aOp_sound (hty : TyOK P ty) {env : List (Nat × AV)} {L L' : List Ent} {o : Oper} {φ : Option Prop} {α : AV} (h : aOp ty env L o.op = some (φ, α, L')) (hφ : owed φ) {σ : List Value} {w : World} (hs : SatL σ L w)
    {a : Act} (he : EvOK σ env a o.op.operands.toList) : ∃ v v' w', (execOp a.eval o).run P w = .ok (.value v) w' ∧ SatL (σ ++ [v']) L' w' ∧ Fr w σ L w' (σ ++ [v']) L' ∧ RelV (σ ++ [v']) α v := by
  obtain ⟨dst, op, t, pos, after, guard⟩ := o
  simp only at h he
  have tri : ∀ {φ φ' : Option Prop} {α α' : AV} {E E' : List Ent}, some (φ, α, E) = some (φ', α', E') → φ = φ' ∧ α = α' ∧ E = E' := by
    intro _ _ _ _ _ _ h; injection h with h; injection h with h1 h2; injection h2 with h2 h3; exact ⟨h1, h2, h3⟩
  unfold aOp at h
  split at h
  · rename_i args argTypes
    split at h
    · rename_i ar x T T' hargs hats
      have hargs' : args = #[ar, x] := by apply Array.toList_inj.1; rw [hargs]
      have hats' : argTypes = #[T, T'] := by apply Array.toList_inj.1; rw [hats]
      subst hargs'; subst hats'
      have hva := he ar (by simp [Op.operands, Call.operands])
      have hvx := he x (by simp [Op.operands, Call.operands])
      split at h
      · rename_i sz b z e k k' hT ha' hx'
        rw [ha'] at hva; rw [hx'] at hvx
        obtain ⟨hva, hva2⟩ : σ[k]? = some (a.eval ar) ∧ isSl (a.eval ar) = true := hva
        obtain ⟨hvx, _⟩ : σ[k']? = some (a.eval x) ∧ isSl (a.eval x) = true := hvx
        split at h
        · rename_i te e' D own e'' D' hte hL hL'
          cases hb : (Nat.beq T T' && Nat.beq e' e && Nat.beq te.size D.sz && !(Nat.beq k k'))
          · simp [hb] at h
          · simp only [hb, cond_true] at h
            simp only [Bool.and_eq_true] at hb
            obtain ⟨⟨⟨b1, b2⟩, b3⟩, b5⟩ := hb
            have b1' := Nat.eq_of_beq_eq_true b1
            have b2' := Nat.eq_of_beq_eq_true b2
            have b3' := Nat.eq_of_beq_eq_true b3
            subst b1'; subst b2'
            split at h
            · rename_i D'' hcat
              obtain ⟨e1, e2, e3⟩ := tri h; subst e1; subst e2; subst e3
              have hφ' : D.len + D'.len ≤ 1099511627776 ∧ te.bytes ≤ 64 := hφ
              obtain ⟨us, hown, hrel⟩ := hs.ok _ _ _ hL hva
              have hrd := (hs.ok _ _ _ hL' hvx).reads
              obtain ⟨v', w', r1, ⟨us', r2, r3⟩, r4, r5, r6⟩ := run_append_dat hty hT hte t b3' hcat hown hrel hrd hφ'.1 hφ'.2
              have hlts : ∀ (i : Nat) (E : Ent) (v : Value), L[i]? = some E → σ[i]? = some v → ∀ b, blkB E v = some b → b < w.heap.size := fun i E v h1 h2 b hb => (hs.ok i E v h1 h2).lt hb
              have hl := hs.len
              have src : ∀ {i : Nat} {F : Ent} {v : Value}, (L.set k .dead ++ [.arr true e' D''])[i]? = some F → (σ ++ [v'])[i]? = some v → F = .dead ∨ (i ≠ k ∧ L[i]? = some F ∧ σ[i]? = some v) ∨ (i = L.length ∧ F = .arr true e' D'' ∧ v = v') := by
                intro i F v hi hv
                rcases get_snoc hi with ⟨h1, h2⟩ | ⟨h1, h2⟩
                · rcases get_snoc hv with ⟨h3, h4⟩ | ⟨h3, h4⟩
                  · rcases get_set h2 with ⟨h5, h6⟩ | ⟨_, h6⟩
                    · exact .inr (.inl ⟨h5, h6, h4⟩)
                    · exact .inl h6
                  · simp at h1; omega
                · rcases get_snoc hv with ⟨h3, h4⟩ | ⟨h3, h4⟩
                  · simp at h1; omega
                  · exact .inr (.inr ⟨by simpa using h1, h2, h4⟩)
              refine ⟨v', v', w', ?_, ⟨by simp [hl], fun i F v hi hv => ?_, fun i j Fi Fj vi vj b hij hi hvi hj hvj ho => ?_⟩, ⟨r4.os, r4.tape, r4.output, r4.size, fun b hb hno => ?_, ?_, Pre.app _ _⟩, ?_⟩
              · simp only [execOp, resolve, invoke, builtin, List.map_toArray, List.map_cons, List.map_nil, Sem.run_bind, Sem.run_pure, r1, Result.andThen_ok]
              · rcases src hi hv with rfl | ⟨h1, h2, h3⟩ | ⟨_, rfl, rfl⟩
                · trivial
                · refine ((hs.ok i F v h2 h3).keep fun b hb => r4.block b (hlts _ _ _ h2 h3 b hb) fun he => ?_).pre (Pre.app _ _)
                  exact hs.sep k i _ F _ v b (Ne.symm h1) hL hva h2 h3 he.symm hb
                · exact ⟨us', r2, r3⟩
              · rcases src hi hvi with rfl | ⟨h1, h2, h3⟩ | ⟨h1, rfl, rfl⟩
                · cases ho
                · rcases src hj hvj with rfl | ⟨g1, g2, g3⟩ | ⟨g1, rfl, rfl⟩
                  · intro h; cases h
                  · exact hs.sep i j Fi Fj vi vj b hij h2 h3 g2 g3 ho
                  · intro hb
                    have hb : blkV vj = some b := hb
                    rcases r5 with r5 | r5
                    · rw [r5] at hb
                      exact hs.sep i k Fi _ vi _ b h1 h2 h3 hL hva ho hb
                    · rw [r5] at hb
                      have := hlts _ _ _ h2 h3 b (blkB_of_ownB ho)
                      cases hb; omega
                · rcases src hj hvj with rfl | ⟨g1, g2, g3⟩ | ⟨g1, rfl, rfl⟩
                  · intro h; cases h
                  · have ho : blkV vi = some b := ho
                    intro hb
                    rcases r5 with r5 | r5
                    · rw [r5] at ho
                      exact hs.sep k j _ Fj _ vj b (Ne.symm g1) hL hva g2 g3 ho hb
                    · rw [r5] at ho
                      have := hlts _ _ _ g2 g3 b hb
                      cases ho; omega
                  · omega
              · exact r4.block b hb fun he => hno ⟨k, _, _, hL, hva, he.symm⟩
              · rintro b ⟨i, F, v, hi, hv, ho⟩
                rcases src hi hv with rfl | ⟨h1, h2, h3⟩ | ⟨_, rfl, rfl⟩
                · cases ho
                · exact .inl ⟨i, F, v, h2, h3, ho⟩
                · have ho : blkV v = some b := ho
                  rcases r5 with r5 | r5
                  · rw [r5] at ho
                    exact .inl ⟨k, _, _, hL, hva, ho⟩
                  · rw [r5] at ho; cases ho
                    exact .inr (Nat.le_refl _)
              · exact ⟨by rw [← hl]; simp, r6⟩
            · cases h
        · cases h
      · cases h
    · cases h
  · cases h
end

def vStepW (P : Program) (ty : TyT) (n : Nat) (W : List Nat) (o : Oper) (s : St) (K : St → Prop) : Prop :=
  bif okDst n o.dst then
    bif callLike o.op then
      match gOp ty s.env s.L o.op with
      | some (φ, α, E) => both φ (K { env := envPut s.env o.dst α, L := s.L ++ [E] })
      | none => match aOp ty s.env s.L o.op with
        | some (φ, α, L') => both φ (agr 0 W s.L L' ∧ K { env := envPut s.env o.dst α, L := L' })
        | none => match callOf s.env o.op with
          | some (f, args) => vCallA P f args s o.dst fun s' => agr 0 W s.L s'.L ∧ K s'
          | none => False
    else match qOp ty s.env (killW W s.L) o.op with
      | some (φ, α) => both φ (K { env := envPut s.env o.dst α, L := s.L })
      | none => False
  else False

def vHeadW (P : Program) (ty : TyT) (n : Nat) (W : List Nat) (ops : List Oper) : List Nat → St → (St → Prop) → Prop
  | [], s, K => K s
  | i :: c, s, K =>
    match ops[i]? with
    | none => False
    | some o => match wants s.env ops o with
      | some true => vStepW P ty n W o s fun s' => norm (callLike o.op) s' fun s' => bif isGuard ops i then settle o.dst s' (fun s'' => vHeadW P ty n W ops c s'' K) else vHeadW P ty n W ops c s' K
      | some false => bif okDst n o.dst then vHeadW P ty n W ops c { env := envPut s.env o.dst (one (.ex undef)), L := s.L } K else False
      | none => False

section
variable {P : Program} {ty : TyT} {w0 : World} {σ0 : List Value} {L0 : List Ent} {n : Nat} {W : List Nat}

def StepW (P : Program) (n : Nat) (W : List Nat) (ops : List Oper) (o : Oper) (s : St) (α : AV) (L' : List Ent) : Prop :=
  okDst n o.dst = true ∧
  (callLike o.op = false → L' = s.L ∧ ∀ (L1 : List Ent) (σ : List Value) (a : Act) (w : World), ExtW W s.L L1 → SatL σ L1 w → (∀ t, t ∈ looks ops o → RelV σ (envGet s.env t) (a.tmps.getD t undef)) →
    (Region.wanted o (yielded ops.toArray a.tmps) = false ∧ α = one (.ex undef)) ∨ (Region.wanted o (yielded ops.toArray a.tmps) = true ∧ Runs P o a σ w α)) ∧
  (callLike o.op = true → ∀ (σ : List Value) (a : Act) (w : World), SatL σ s.L w → (∀ t, t ∈ looks ops o → RelV σ (envGet s.env t) (a.tmps.getD t undef)) →
    (Region.wanted o (yielded ops.toArray a.tmps) = false ∧ α = one (.ex undef) ∧ L' = s.L) ∨
    (Region.wanted o (yielded ops.toArray a.tmps) = true ∧
      ∀ (next : Act → World → Prop) (Q : Exit → Act → World → Prop), (∀ v σ' w', Pre σ σ' → SatL σ' L' w' → Fr w σ s.L w' σ' L' → RelV σ' α v → next (a.put o.dst v) w') → o.wp P a w next Q)) ∧ ExtW W s.L L'

theorem killW_lk {L L1 : List Ent} (hx : ExtW W L L1) {k : Nat} {E : Ent} (h : (killW W L)[k]? = some E) (hd : E ≠ .dead) : L1[k]? = some E := by
  rcases killW_get h with h1 | ⟨h1, h2⟩
  · exact absurd h1 hd
  · exact hx k E h2 h1

theorem qLoad_w {L L1 : List Ent} (hx : ExtW W L L1) {T : TypeId} {x : AV} {r : Option Prop × AV} (h : qLoad ty (killW W L) T x = some r) : qLoad ty L1 T x = some r := by
  unfold qLoad at h ⊢
  split at h
  · split at h
    · rename_i hL
      simp only [killW_lk hx hL (fun e => by cases e)]; exact h
    · cases h
  · split at h
    · rename_i hL
      simp only [killW_lk hx hL (fun e => by cases e)]; exact h
    · cases h
  · cases h
theorem qIndexAddr_w {L L1 : List Ent} (hx : ExtW W L L1) {T : TypeId} {x i : AV} {r : Option Prop × AV} (h : qIndexAddr ty (killW W L) T x i = some r) : qIndexAddr ty L1 T x i = some r := by
  unfold qIndexAddr at h ⊢
  split at h
  · split at h
    · rename_i he hL
      simp only [he, killW_lk hx hL (fun e => by cases e)]; exact h
    · cases h
  · exact h
  · exact h
  · cases h
theorem qLen_w {L L1 : List Ent} (hx : ExtW W L L1) {x : AV} {r : Option Prop × AV} (h : qLen (killW W L) x = some r) : qLen L1 x = some r := by
  unfold qLen at h ⊢
  split at h
  · split at h
    · rename_i hL
      simp only [killW_lk hx hL (fun e => by cases e)]; exact h
    · cases h
  · exact h
  · exact h
  · exact h
  · cases h
theorem qCmp_w {L L1 : List Ent} (hx : ExtW W L L1) {op : BinOp} {T : TypeId} {x y : AV} {r : Option Prop × AV} (h : qCmp ty (killW W L) op T x y = some r) : qCmp ty L1 op T x y = some r := by
  unfold qCmp at h ⊢
  split at h
  · split at h
    · rename_i hT hL
      simp only [hT, killW_lk hx hL (fun e => by cases e)]; exact h
    · cases h
  · exact h
theorem qOp_w {env : List (Nat × AV)} {L L1 : List Ent} (hx : ExtW W L L1) {op : Op} {r : Option Prop × AV} (h : qOp ty env (killW W L) op = some r) : qOp ty env L1 op = some r := by
  unfold qOp at h ⊢
  split at h
  all_goals first
    | exact h
    | exact qLoad_w hx h
    | exact qIndexAddr_w hx h
    | exact qCmp_w hx h
    | (split at h
       · rename_i hx' hT
         cases hb : isSli ty _
         · simp [hb] at h
         · simp only [hb, cond_true] at h ⊢; exact qLen_w hx h
       · cases h)

theorem vStepW_sound (hty : TyOK P ty) {ops : List Oper} {o : Oper} {s : St} {K : St → Prop} (hw : wants s.env ops o = some true) (h : vStepW P ty n W o s K) :
    ∃ α L', StepW P n W ops o s α L' ∧ K { env := envPut s.env o.dst α, L := L' } := by
  unfold vStepW at h
  cases hd : okDst n o.dst
  · simp [hd] at h
  simp only [hd, cond_true] at h
  cases hcl : callLike o.op
  · simp only [hcl, cond_false] at h
    split at h
    · rename_i φ α hq
      obtain ⟨h1, h2⟩ := both_split h
      exact ⟨α, s.L, ⟨hd, fun _ => ⟨rfl, fun L1 σ a w hx hs hl => .inr ⟨wants_sound hw (guard_looks hl), qOp_sound hty (qOp_w hx hq) h1 hs (evOK_of_looks hl)⟩⟩, fun h => (by rw [hcl] at h; cases h), ExtW.refl _ _⟩, h2⟩
    · exact h.elim
  · simp only [hcl, cond_true] at h
    split at h
    · rename_i φ α E hq
      obtain ⟨h1, h2⟩ := both_split h
      refine ⟨α, s.L ++ [E], ⟨hd, fun h => (by rw [hcl] at h; cases h), fun _ σ a w hs hl => .inr ⟨wants_sound hw (guard_looks hl), fun next Q hn => ?_⟩, ExtW.app _ _ _⟩, h2⟩
      obtain ⟨v, u, w', h3, h4, h5, h6, h7⟩ := gOp_sound hty hq h1 hs (evOK_of_looks hl)
      obtain ⟨p1, p2⟩ := hs.snoc h4 h5 h6
      unfold Oper.wp
      rw [h3, Oper.upon_value]
      exact hn v _ w' (Pre.app _ _) p1 p2 h7
    · split at h
      · rename_i φ α L' hq
        obtain ⟨h1, hag, h2⟩ := both_split h
        refine ⟨α, L', ⟨hd, fun h => (by rw [hcl] at h; cases h), fun _ σ a w hs hl => .inr ⟨wants_sound hw (guard_looks hl), fun next Q hn => ?_⟩, agr_ext hag⟩, h2⟩
        obtain ⟨v, v', w', h3, p1, p2, h7⟩ := aOp_sound hty hq h1 hs (evOK_of_looks hl)
        unfold Oper.wp
        rw [h3, Oper.upon_value]
        exact hn v _ w' (Pre.app _ _) p1 p2 h7
      · split at h
        · rename_i f args hc
          obtain ⟨π, Lc', ret, ⟨hkeep, hspec⟩, hok, hag, hKs⟩ := vCall_of_A h
          refine ⟨_, _, ⟨hd, fun h => (by rw [hcl] at h; cases h), fun _ σ a w hs hl => .inr ⟨wants_sound hw (guard_looks hl), fun next Q hn => ?_⟩, agr_ext hag⟩, hKs⟩
          obtain ⟨us, r1, r2⟩ := callOf_sound (P := P) hc (evOK_of_looks hl) w
          refine wp_callR r2 (hspec w (subσ π σ) us (sub_sat hs hok) (res_relAs r1)) fun v w' ⟨σ', g1, g2, g3⟩ => ?_
          obtain ⟨p1, p2, p3⟩ := merge_sat hs hok hkeep g1 g3
          exact hn v _ w' (Pre.app _ _) p1 p2 (ren_relV p3 g2)
        · exact h.elim

/-- A head that goes through: step by step. -/
def TrW (P : Program) (n : Nat) (W : List Nat) (ops : List Oper) (c : List Nat) (ss : Nat → St) (αs : Nat → AV) : Prop :=
  ∀ (m i : Nat), c[m]? = some i → ∃ o, ops[i]? = some o ∧ StepW P n W ops o (ss m) (αs m) (ss (m + 1)).L ∧ EnvEq (ss (m + 1)).env (envPut (ss m).env o.dst (αs m))
def TraceW (P : Program) (n : Nat) (W : List Nat) (ops : List Oper) (c : List Nat) (s : St) (K : St → Prop) : Prop :=
  ∃ (ss : Nat → St) (αs : Nat → AV), ss 0 = s ∧ (∃ sf, EnvEq sf.env (ss c.length).env ∧ sf.L = (ss c.length).L ∧ K sf) ∧ TrW P n W ops c ss αs

theorem traceW_cons {ops : List Oper} {i : Nat} {c : List Nat} {s s1 : St} {K : St → Prop} {o : Oper} {α : AV} (ho : ops[i]? = some o) (hst : StepW P n W ops o s α s1.L) (hE : EnvEq s1.env (envPut s.env o.dst α))
    (h : TraceW P n W ops c s1 K) : TraceW P n W ops (i :: c) s K := by
  obtain ⟨ss, αs, h0, hf, hs⟩ := h
  refine ⟨fun m => match m with | 0 => s | m + 1 => ss m, fun m => match m with | 0 => α | m + 1 => αs m, rfl, by simpa using hf, fun m j hm => ?_⟩
  cases m with
  | zero =>
    simp at hm; subst hm
    simp only [h0]
    exact ⟨o, ho, hst, hE⟩
  | succ m => simp at hm; exact hs m j hm

theorem vHeadW_trace (hty : TyOK P ty) {ops : List Oper} : ∀ (c : List Nat) (s : St) (K : St → Prop), vHeadW P ty n W ops c s K → TraceW P n W ops c s K
  | [], s, K, h => ⟨fun _ => s, fun _ => one .any, rfl, ⟨s, fun _ => rfl, rfl, h⟩, fun m i hm => by simp at hm⟩
  | i :: c, s, K, h => by
    simp only [vHeadW] at h
    split at h
    · exact h.elim
    · rename_i o ho
      split at h
      · rename_i hw
        obtain ⟨α, L', hst, hk⟩ := vStepW_sound hty hw h
        rw [norm_iff] at hk
        cases hg : isGuard ops i
        · simp only [hg, cond_false] at hk
          exact traceW_cons ho hst (fun _ => rfl) (vHeadW_trace hty c _ K hk)
        · simp only [hg, cond_true] at hk
          rcases settle_trace hk with hk | ⟨d, b, hd, hα, hk⟩
          · exact traceW_cons ho hst (fun _ => rfl) (vHeadW_trace hty c _ K hk)
          · refine traceW_cons (s1 := ⟨(d, exb b) :: envPut s.env o.dst α, L'⟩) ho hst (fun t => ?_) (vHeadW_trace hty c _ K hk)
            rw [hd, hα]
            exact envGet_dup d t (exb b) s.env
      · rename_i hw
        cases hd : okDst n o.dst
        · simp [hd] at h
        · simp only [hd, cond_true] at h
          exact traceW_cons (s1 := ⟨envPut s.env o.dst (one (.ex undef)), s.L⟩) (α := one (.ex undef)) ho ⟨hd, fun _ => ⟨rfl, fun L1 σ a w _ hs hl => .inl ⟨wants_sound hw (guard_looks hl), rfl⟩⟩, fun _ σ a w hs hl => .inl ⟨wants_sound hw (guard_looks hl), rfl, rfl⟩, ExtW.refl _ _⟩ (fun _ => rfl) (vHeadW_trace hty c _ K h)
      · exact h.elim

section main
variable {ops : List Oper} {nh : Nat} {c : List Nat} {s : St} {ss : Nat → St} {αs : Nat → AV}

theorem env_atW (hd : Draw ops nh c) (h0 : ss 0 = s) (hss : TrW P n W ops c ss αs) (t : Nat) :
    ∀ m, m ≤ c.length → (∃ m' i o, m' < m ∧ c[m']? = some i ∧ ops[i]? = some o ∧ o.dst = some t ∧ envGet (ss m).env t = αs m') ∨
      ((∀ (m' i : Nat) o, m' < m → c[m']? = some i → ops[i]? = some o → o.dst ≠ some t) ∧ envGet (ss m).env t = envGet s.env t)
  | 0, _ => .inr ⟨fun m' _ _ h => by omega, by rw [h0]⟩
  | m + 1, hm => by
    obtain ⟨i, hi⟩ : ∃ i, c[m]? = some i := ⟨_, List.getElem?_eq_getElem (by omega)⟩
    obtain ⟨o, ho, _, hE⟩ := hss m i hi
    rw [hE t]
    by_cases hdst : o.dst = some t
    · left
      exact ⟨m, i, o, by omega, hi, ho, hdst, by rw [hdst, envGet_put_eq]⟩
    · rw [envGet_put_ne hdst]
      rcases env_atW hd h0 hss t m (by omega) with ⟨m', i', o', g1, g2, g3, g4, g5⟩ | ⟨g1, g2⟩
      · exact .inl ⟨m', i', o', by omega, g2, g3, g4, g5⟩
      · refine .inr ⟨fun m' i' o' hm' hi' ho' => ?_, g2⟩
        by_cases he : m' = m
        · subst he
          rw [hi] at hi'; cases hi'
          rw [ho] at ho'; cases ho'
          exact hdst
        · exact g1 m' i' o' (by omega) hi' ho'

theorem L_monoW (m : Nat) (hss : TrW P n W ops c ss αs) :
    ∀ m', m ≤ m' → m' ≤ c.length → ExtW W (ss m).L (ss m').L ∧ ((∀ (q i : Nat), m ≤ q → q < m' → c[q]? = some i → isCall ops i = false) → (ss m').L = (ss m).L)
  | 0, h, _ => by
    have : m = 0 := by omega
    subst this
    exact ⟨ExtW.refl _ _, fun _ => rfl⟩
  | m' + 1, h, hl => by
    by_cases he : m = m' + 1
    · subst he; exact ⟨ExtW.refl _ _, fun _ => rfl⟩
    · obtain ⟨h1, h2⟩ := L_monoW m hss m' (by omega) (by omega)
      obtain ⟨i, hi⟩ : ∃ i, c[m']? = some i := ⟨_, List.getElem?_eq_getElem (by omega)⟩
      obtain ⟨o, ho, hst, _⟩ := hss m' i hi
      refine ⟨h1.trans hst.2.2.2, fun hq => ?_⟩
      have hc := hq m' i (by omega) (by omega) hi
      have hc' : callLike o.op = false := by simpa [isCall, ho] using hc
      rw [(hst.2.1 hc').1]
      exact h2 fun q i' a b d => hq q i' a (by omega) d

theorem HInv.stepW (hd : Draw ops nh c) {listed : Array Bool} {a : Act} {w : World} {σ : List Value} {ms : Nat} (h : HInv w0 σ0 L0 n ops nh c s ss αs listed a w σ ms) {i m : Nat} {o : Oper} (hi : c[m]? = some i) (ho : ops[i]? = some o) (hu : listed.getD i true = false)
    (hdeps : ∀ e ∈ o.after, Region.binds .any e = true → listed.getD e.on false = true) (hok : okDst n o.dst = true) {v : Value} {w' : World} {σ' : List Value} {ms' : Nat} (hms : ms' ≤ c.length)
    (hcalls : ∀ (q j : Nat), c[q]? = some j → isCall ops j = true → ((listed.setIfInBounds i true).getD j false = true ↔ q < ms')) (hs : SatL σ' (ss ms').L w') (hf : Fr w0 σ0 L0 w' σ' (ss ms').L) (hp : Pre σ σ') (hv : RelV σ' (αs m) v) :
    HInv w0 σ0 L0 n ops nh c s ss αs (listed.setIfInBounds i true) (a.put o.dst v) w' σ' ms' := by
  have hin : i < nh := hd.lt m i hi
  have hil : i < listed.size := by rw [h.size]; exact Nat.lt_of_lt_of_le hin hd.le
  have hget : ∀ {j : Nat}, (listed.setIfInBounds i true).getD j false = true → j = i ∨ listed.getD j false = true := fun {j} hj => by
    by_cases he : i = j
    · exact .inl he.symm
    · right; rwa [getD_set_other he] at hj
  have hkeep : ∀ {j : Nat}, listed.getD j false = true → (listed.setIfInBounds i true).getD j false = true := fun {j} hj => by
    by_cases he : i = j
    · subst he; exact getD_set_self hil
    · rw [getD_set_other he]; exact hj
  have hdd : ∀ {q j : Nat} {oj : Oper} {d : Nat}, c[q]? = some j → ops[j]? = some oj → oj.dst = some d → o.dst = some d → q = m := by
    intro q j oj d hq hj h1 h2
    rcases Nat.lt_trichotomy q m with hlt | heq | hgt
    · have := (hd.pairT m q i j hi hq hlt).1
      simp [okPair, ho, hj, h1, h2] at this
    · exact heq
    · have := hd.pairF m q i j hi hq hgt
      simp [okPair, ho, hj, h1, h2] at this
  refine ⟨by simp [h.size], fun k hk => ?_, fun j oj hj hl e he hb => ?_, by rw [put_defers]; exact h.nodef, by rw [put_size]; exact h.tsize, hcalls, hms, hs, hf, fun q j oj d hq hl hj hdst => ?_, fun t ht => ?_⟩
  · rw [getD_set_other (by omega)]; exact h.tail k hk
  · rcases hget hl with rfl | hl
    · rw [ho] at hj; cases hj
      exact hkeep (hdeps e he hb)
    · exact hkeep (h.closed j oj hj hl e he hb)
  · rcases hget hl with rfl | hl
    · rw [ho] at hj; cases hj
      have := hd.nd m q j hi hq
      subst this
      rw [hdst] at hok ⊢
      rw [put_getD_eq (by rw [h.tsize]; exact Nat.lt_of_succ_le (Nat.le_of_ble_eq_true hok))]
      exact hv
    · by_cases he : o.dst = some d
      · have := hdd hq hj hdst he
        subst this
        rw [hi] at hq; cases hq
        rw [getD_in' hil] at hl
        rw [show (!false) = true from rfl, hu] at hl; cases hl
      · rw [put_getD_ne he]
        exact (h.done q j oj d hq hl hj hdst).pre hp
  · have hne : o.dst ≠ some t := ht m i o hi (getD_set_self hil) ho
    rw [put_getD_ne hne]
    exact (h.rest t fun q j oj hq hl hj => ht q j oj hq (hkeep hl) hj).pre hp

theorem head_anyW (hd : Draw ops nh c) (h0 : ss 0 = s) (hss : TrW P n W ops c ss αs)
    {Q : Exit → Act → World → Prop} {g : Nat}
    (hfin : ∀ (listed : Array Bool) (a : Act) (w : World) (σ : List Value) (ms : Nat), HInv w0 σ0 L0 n ops nh c s ss αs listed a w σ ms → (∀ i, i < nh → listed.getD i true = true) → wpAny P .any ops.toArray Q g listed a w) :
    ∀ (f : Nat) (listed : Array Bool) (a : Act) (w : World) (σ : List Value) (ms : Nat), unl listed nh = f → HInv w0 σ0 L0 n ops nh c s ss αs listed a w σ ms → wpAny P .any ops.toArray Q (f + g) listed a w := by
  intro f
  induction f with
  | zero =>
    intro listed a w σ ms hf h
    rw [Nat.zero_add]
    exact hfin listed a w σ ms h (unl_zero hf)
  | succ f ih =>
    intro listed a w σ ms hf h
    rw [show f + 1 + g = (f + g) + 1 by omega]
    obtain ⟨i0, hi0, hu0, hmin⟩ := min_unl (listed := listed) (k := nh) (by omega)
    have hlt0 : i0 < ops.length := Nat.lt_of_lt_of_le hi0 hd.le
    refine ⟨fun hr => ?_, fun i hr => ?_⟩
    · have : i0 ∈ Region.ready .any ops.toArray listed := by
        rw [mem_ready']
        refine ⟨hu0, ops[i0], List.getElem?_eq_getElem hlt0, fun e he hb => ?_⟩
        have hlt := hd.back i0 _ (List.getElem?_eq_getElem hlt0) e he hb
        have := hmin e.on hlt
        rwa [getD_in' (by rw [h.size]; omega)] at this
      rw [hr] at this; cases this
    · obtain ⟨hu, o, ho, hdeps⟩ := mem_ready'.1 hr
      have hil : i < ops.length := (List.getElem?_eq_some_iff.1 ho).1
      have hio : ∀ o', ops[i]? = some o' → ∀ e ∈ o'.after, Region.binds .any e = true → listed.getD e.on false = true := fun o' ho' => by rw [ho] at ho'; cases ho'; exact hdeps
      have hin : i < nh := by
        rcases Nat.lt_trichotomy i nh with h1 | h1 | h1
        · exact h1
        · subst h1
          have := reach_listed h.closed _ _ _ (hd.sink hil i0 hi0) hio
          rw [getD_in' (by rw [h.size]; omega)] at hu0
          rw [show (!true) = false from rfl, this] at hu0; cases hu0
        · have := dep_listed (hd.chain i h1 hil) hio
          rw [h.tail (i - 1) (by omega)] at this; cases this
      obtain ⟨m, hm⟩ := hd.full i hin
      obtain ⟨o', ho', hst, hE⟩ := hss m i hm
      rw [ho] at ho'; cases ho'
      have hml : m < c.length := (List.getElem?_eq_some_iff.1 hm).1
      have hiu : listed.getD i false = false := by rw [getD_in' (by rw [h.size]; exact hil)]; exact hu
      have hcb : ∀ (q j : Nat), c[q]? = some j → q < m → isCall ops j = true → q < ms := fun q j hq hlt hc => by
        have hr := (hd.pairT m q i j hm hq hlt).2 hc
        exact (h.calls q j hq hc).1 (reach_listed h.closed _ _ _ hr hio)
      have hlook : ∀ {σ' : List Value}, Pre σ σ' → ∀ t, t ∈ looks ops o → RelV σ' (envGet (ss m).env t) (a.tmps.getD t undef) := fun {σ'} hp t ht => by
        refine RelV.pre hp ?_
        rcases env_atW hd h0 hss t m (by omega) with ⟨q, j, oj, g1, g2, g3, g4, g5⟩ | ⟨g1, g2⟩
        · rw [g5]
          have hpair := (hd.pairT m q i j hm g2 g1).1
          have hdep : dep ops i j = true := by
            simp only [okPair, ho, g3, g4, Bool.and_eq_true, Bool.or_eq_true, Bool.not_eq_true', cond_true] at hpair
            rcases hpair.1 with h5 | h5
            · have : (looks ops o).contains t = true := by simpa using ht
              rw [this] at h5; cases h5
            · exact h5
          exact h.done q j oj t g2 (dep_listed hdep hio) g3 g4
        · rw [g2]
          refine h.rest t fun q j oj hq hl hj hdst => ?_
          rcases Nat.lt_trichotomy q m with hlt | heq | hgt
          · exact g1 q j oj hlt hq hj hdst
          · subst heq; rw [hm] at hq; cases hq; rw [hiu] at hl; cases hl
          · have hpair := hd.pairF m q i j hm hq hgt
            simp only [okPair, ho, hj, hdst, Bool.and_eq_true, Bool.or_eq_true, Bool.not_eq_true', cond_false] at hpair
            rcases hpair.1 with h5 | h5
            · have : (looks ops o).contains t = true := by simpa using ht
              rw [this] at h5; cases h5
            · have := dep_listed h5 fun o' ho' => h.closed j o' ho' hl
              rw [hiu] at this; cases this
      have hunl : unl (listed.setIfInBounds i true) nh = f := by
        have := (unl_set (listed := listed) (i := i) (by rw [h.size]; exact hil) hu nh).1 hin
        omega
      have hset : ∀ (q j : Nat), c[q]? = some j → isCall ops i = false → isCall ops j = true → ((listed.setIfInBounds i true).getD j false = true ↔ q < ms) := fun q j hq hci hcj => by
        have : i ≠ j := fun e => by subst e; rw [hci] at hcj; cases hcj
        rw [getD_set_other this]; exact h.calls q j hq hcj
      unfold wpOp
      simp only [List.getElem?_toArray, ho]
      cases hcl : callLike o.op
      · have hci : isCall ops i = false := by simp [isCall, ho, hcl]
        obtain ⟨hN, hq⟩ := hst.2.1 hcl
        have hX : ExtW W (ss m).L (ss ms).L := by
          rcases Nat.le_total m ms with hle | hle
          · exact (L_monoW m hss ms hle h.ms_le).1
          · obtain ⟨_, h2⟩ := L_monoW ms hss m hle (by omega)
            rw [h2 (fun q j ha hb hj => by
              cases hc : isCall ops j
              · rfl
              · have := hcb q j hj hb hc; omega)]
            exact ExtW.refl _ _
        rcases hq (ss ms).L σ a w hX h.sat (hlook (Pre.refl σ)) with ⟨hw, hα⟩ | ⟨hw, v, d, hrun, hv⟩
        · rw [hw]
          simp only [Bool.false_eq_true, if_false]
          refine ih _ _ _ σ ms hunl (h.stepW hd hm ho hu hdeps hst.1 h.ms_le (fun q j hq hc => hset q j hq hci hc) h.sat h.fr (Pre.refl σ) (by rw [hα]; rfl))
        · rw [hw]
          simp only [if_true]
          left
          unfold Oper.wp
          rw [hrun, Oper.upon_value]
          exact ih _ _ _ σ ms hunl (h.stepW hd hm ho hu hdeps hst.1 h.ms_le (fun q j hq hc => hset q j hq hci hc) (h.sat.ext (Ext.drewN w d)) (h.fr.trans (Ext.drewN w d).fr) (Pre.refl σ) hv)
      · have hci : isCall ops i = true := by simp [isCall, ho, hcl]
        have hmm : ms ≤ m := by
          rcases Nat.lt_or_ge m ms with hlt | hge
          · have := (h.calls m i hm hci).2 hlt
            rw [hiu] at this; cases this
          · exact hge
        have hLe : (ss m).L = (ss ms).L := by
          obtain ⟨_, h2⟩ := L_monoW ms hss m hmm (by omega)
          exact h2 (fun q j ha hb hj => by
            cases hc : isCall ops j
            · rfl
            · have := hcb q j hj hb hc; omega)
        have hs := h.sat
        have hfr := h.fr
        rw [← hLe] at hs hfr
        have hcalls' : ∀ (q j : Nat), c[q]? = some j → isCall ops j = true → ((listed.setIfInBounds i true).getD j false = true ↔ q < m + 1) := fun q j hq hc => by
          by_cases he : i = j
          · subst he
            have := hd.nd q m i hq hm
            subst this
            rw [getD_set_self (by rw [h.size]; exact hil)]; simp
          · rw [getD_set_other he, h.calls q j hq hc]
            refine ⟨fun h1 => by omega, fun h1 => ?_⟩
            have hqm : q ≠ m := fun e => by subst e; rw [hm] at hq; cases hq; exact he rfl
            exact hcb q j hq (by omega) hc
        rcases hst.2.2.1 hcl σ a w hs (hlook (Pre.refl σ)) with ⟨hw, hα, hN⟩ | ⟨hw, hwp⟩
        · rw [hw]
          simp only [Bool.false_eq_true, if_false]
          refine ih _ _ _ σ (m + 1) hunl (h.stepW hd hm ho hu hdeps hst.1 (by omega) hcalls' (by rw [hN]; exact hs) (by rw [hN]; exact hfr) (Pre.refl σ) (by rw [hα]; rfl))
        · rw [hw]
          simp only [if_true]
          left
          refine hwp _ _ fun v σ' w' p0 p1 p2 p3 => ?_
          exact ih _ _ _ σ' (m + 1) hunl (h.stepW hd hm ho hu hdeps hst.1 (by omega) hcalls' p1 (hfr.trans p2) p0 p3)

end main

theorem vDrawW_sound (hty : TyOK P ty) (hmix : P.follows .mixedOrders = true) {id : Nat} {ops : List Oper} {nh : Nat} {c : List Nat} {s : St} {K : St → Prop} (hok : okDraw ops nh c = true)
    (hv : vHeadW P ty n W ops c s fun s' => vOps P ty n σ0.length ops nh (ops.drop nh) s' K) {Q : Exit → Act → World → Prop}
    (hK : ∀ s' σ' a' w', K s' → At w0 σ0 L0 n s' σ' a' w' → Q .normal a' w') {σ : List Value} {a : Act} {w : World} (hA : At w0 σ0 L0 n s σ a w) : (Code.region id ops.toArray true).wp P Q a w := by
  have hd := okDraw_spec hok
  obtain ⟨ss, αs, h0, ⟨sf, hfe, hfL, hfK⟩, hss⟩ := vHeadW_trace hty c s _ hv
  have hA1 := hA.ext (Ext.drewN w 1)
  refine wp_region_any hmix ?_
  rw [drew_eq]
  have hrep : ∀ (k : Nat), (Array.replicate ops.length false).getD k false = false := fun k => by
    simp [Array.getD_eq_getD_getElem?, Array.getElem?_replicate]; split <;> rfl
  have hinit : HInv w0 σ0 L0 n ops nh c s ss αs (Array.replicate ops.length false) a (w.drewN 1) σ 0 := by
    refine ⟨by simp, fun k _ => hrep k, fun i o _ hl => (by rw [hrep] at hl; cases hl), hA1.nodef, hA1.size, fun m i _ _ => ⟨fun hl => (by rw [hrep] at hl; cases hl), fun hl => by omega⟩, Nat.zero_le _, by rw [h0]; exact hA1.sat, by rw [h0]; exact hA1.fr,
      fun m i o d _ hl => (by rw [hrep] at hl; cases hl), fun t _ => hA1.env t⟩
  have hun : unl (Array.replicate ops.length false) nh = nh := by
    unfold unl
    rw [List.filter_eq_self.2]
    · simp
    · intro i hi
      have hi' : i < ops.length := Nat.lt_of_lt_of_le (List.mem_range.1 hi) hd.le
      simp [Array.getD_eq_getD_getElem?, Array.getElem?_replicate, hi']
  have key := head_anyW (P := P) (n := n) (W := W) (w0 := w0) (σ0 := σ0) (L0 := L0) (Q := Q) (g := ops.length - nh) hd h0 hss (fun listed a' w' σ' ms hI hall => ?_) nh _ a (w.drewN 1) σ 0 hun hinit
  · rw [show nh + (ops.length - nh) = ops.length by have := hd.le; omega] at key
    simpa using key
  · have hLe : (ss c.length).L = (ss ms).L := by
      obtain ⟨_, h2⟩ := L_monoW ms hss c.length hI.ms_le (Nat.le_refl _)
      exact h2 (fun q j hq hb hj => by
        cases hc : isCall ops j
        · rfl
        · have hlt := hd.lt q j hj
          have h3 := hall j hlt
          rw [getD_in' (by rw [hI.size]; have := hd.le; omega)] at h3
          have := (hI.calls q j hj hc).1 h3
          omega)
    have hAf : At w0 σ0 L0 n sf σ' a' w' := by
      refine ⟨by rw [hfL, hLe]; exact hI.sat, by rw [hfL, hLe]; exact hI.fr, fun t => ?_, hI.nodef, hI.tsize⟩
      rw [hfe t]
      rcases env_atW hd h0 hss t c.length (Nat.le_refl _) with ⟨q, j, oj, g1, g2, g3, g4, g5⟩ | ⟨g1, g2⟩
      · rw [g5]
        have h3 := hall j (hd.lt q j g2)
        rw [getD_in' (by rw [hI.size]; have := hd.le; have := hd.lt q j g2; omega)] at h3
        exact hI.done q j oj t g2 h3 g3 g4
      · rw [g2]
        exact hI.rest t fun q j oj hq _ hj => g1 q j oj (List.getElem?_eq_some_iff.1 hq).1 hq hj
    have := tail_any hty hd hK (ops.drop nh) nh sf σ' a' w' listed (Nat.le_refl _) rfl (by
      by_cases he : nh = ops.length
      · exact .inr he
      · left; intro e
        have := congrArg List.length e
        simp at this
        have := hd.le; omega) hI.size (fun i hi => by
        by_cases hlt : i < nh
        · rw [hall i hlt]; simp [hlt]
        · have := hI.tail i (by omega)
          rw [getD_in' (by rw [hI.size]; exact hi)] at this
          simp only [Bool.not_false] at this
          rw [this]; simp [hlt]) hfK hAf
    rwa [List.length_drop] at this
end

theorem c_drawW {P : Program} {ty : TyT} {n m0 : Nat} {id : Nat} {ops : Array Oper} {s : St} {N : St → Prop} {X : Nat → St → Prop} {R : St → Prop} (hty : TyOK P ty) (hmix : P.follows .mixedOrders = true) (W : List Nat) (nh : Nat) (l : List Nat) (hok : okDraw ops.toList nh l = true)
    (h : ∀ K, K = N → vHeadW P ty n W ops.toList l s fun s' => vOps P ty n m0 ops.toList nh (ops.toList.drop nh) s' K) : vCode P ty n m0 (.region id ops true) s N X R := by
  refine c_own fun K hK w0 σ0 L0 Q hlen hQ σ a w hA => ?_
  subst hlen
  have := vDrawW_sound (id := id) (W := W) hty hmix hok (h K hK) hQ hA
  simpa using this
end
end Go.AX
