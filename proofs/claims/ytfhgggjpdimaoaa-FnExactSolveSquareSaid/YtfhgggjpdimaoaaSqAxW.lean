/- A symbolic walk over the code of one function, and that it tells no more than the model does: no condition. -/
import Derived.Test.YtfhgggjpdimaoaaSqAxS
set_option linter.unusedVariables false
set_option linter.unusedSimpArgs false
namespace Go.AX
noncomputable section
open Go.RowKit

/-! ## Drawn regions whose calls write, and in which a small array is made at any time, appended later -/

def isBuild : Op → Bool
  | .buildSlice .. => true
  | _ => false

def okPriv (ops : List Oper) (nh p q mq d : Nat) (c : List Nat) : Bool :=
  (match ops[p]? with
   | some o => isBuild o.op && (match o.dst with
      | some d' => Nat.beq d' d
      | none => false) && o.guard.isNone && c.all (fun i => !(Nat.beq i p) && (match ops[i]? with
        | some oi => (Nat.beq i q || !((looks ops oi).contains d)) && (match oi.dst with
          | some t => !(Nat.beq t d) && (!((looks ops o).contains t) || (dep ops p i && (c.take mq).contains i))
          | none => true)
        | none => false)) && !((looks ops o).contains d)
   | none => false) && (match ops[q]? with
   | some o => o.guard.isNone && callLike o.op
   | none => false) && Nat.blt p nh && dep ops q p && (match c[mq]? with
   | some i => Nat.beq i q
   | none => false)

def okDrawP (ops : List Oper) (nh p q mq d : Nat) (c : List Nat) : Bool :=
  Nat.beq (c.length + 1) nh && Nat.ble nh ops.length && noDup c && c.all (fun i => Nat.blt i nh) && (List.range nh).all (fun i => Nat.beq i p || c.contains i) && okOrder ops ops.length [] c &&
  (List.range ops.length).all (fun i => match ops[i]? with
    | some o => o.after.toList.all fun e => !(Region.binds .any e) || Nat.blt e.on i
    | none => true) &&
  (bif Nat.blt nh ops.length then (List.range nh).all (fun i => reach ops ops.length nh i) else true) &&
  (List.range ops.length).all (fun k => !(Nat.blt nh k) || dep ops k (k - 1)) && okPriv ops nh p q mq d c

def notTmp : Operand → Nat → Bool
  | .tmp y, d => !(Nat.beq y d)
  | _, _ => true
/-- The append of the small array. -/
def aOpP (ty : TyT) (env : List (Nat × AV)) (L : List Ent) (op : Op) (d : Nat) (D' : Dat) : Option (Option Prop × AV × List Ent) :=
  match op with
  | .call { callee := .builtin .append, args, argTypes } => match args.toList, argTypes.toList with
    | [a, .tmp x], [T, T'] => match ty T, ev env a with
      | some { k := .sli e, .. }, .v (.one (.sl k)) => match ty e, L[k]? with
        | some te, some (.arr true e' D) =>
          bif Nat.beq T T' && Nat.beq e' e && Nat.beq te.size D.sz && Nat.beq x d && notTmp a d then
            match D.cat D' with
            | some D'' => some (some (D.len + D'.len ≤ 1099511627776 ∧ te.bytes ≤ 64), one (.sl L.length), L.set k .dead ++ [.arr true e D''])
            | none => none
          else none
        | _, _ => none
      | _, _ => none
    | _, _ => none
  | _ => none

def vStepQ (P : Program) (ty : TyT) (n : Nat) (W : List Nat) (ops : List Oper) (p d : Nat) (o : Oper) (s : St) (K : St → Prop) : Prop :=
  bif okDst n o.dst && okDst n (some d) then
    match ops[p]? with
    | some op => match gOp ty s.env s.L op.op with
      | some (φ1, _, .arr true e D) => both φ1 (match aOpP ty s.env s.L o.op d D with
        | some (φ, α, L') => both φ (agr 0 W s.L L' ∧ K { env := envPut s.env o.dst α, L := L' })
        | none => False)
      | _ => False
    | none => False
  else False

def vHeadP (P : Program) (ty : TyT) (n : Nat) (W : List Nat) (ops : List Oper) (p q d : Nat) : List Nat → St → (St → Prop) → Prop
  | [], s, K => K s
  | i :: c, s, K =>
    match ops[i]? with
    | none => False
    | some o => bif Nat.beq i q then vStepQ P ty n W ops p d o s fun s' => norm true s' fun s' => vHeadP P ty n W ops p q d c s' K else
      match wants s.env ops o with
      | some true => vStepW P ty n W o s fun s' => norm (callLike o.op) s' fun s' => bif isGuard ops i then settle o.dst s' (fun s'' => vHeadP P ty n W ops p q d c s'' K) else vHeadP P ty n W ops p q d c s' K
      | some false => bif okDst n o.dst then vHeadP P ty n W ops p q d c { env := envPut s.env o.dst (one (.ex undef)), L := s.L } K else False
      | none => False

section
variable {P : Program} {ty : TyT} {w0 : World} {σ0 : List Value} {L0 : List Ent} {n : Nat} {W : List Nat}

theorem gOp_build {env : List (Nat × AV)} {L L' : List Ent} {op : Op} (hb : isBuild op = true) {φ : Option Prop} {α : AV} {e : TypeId} {D : Dat} (h : gOp ty env L op = some (φ, α, .arr true e D)) :
    gOp ty env L' op = some (φ, one (.sl L'.length), .arr true e D) := by
  cases op <;> first | (cases hb; done) | skip
  rename_i T m parts
  unfold gOp at h ⊢
  dsimp only at h ⊢
  split at h
  · split at h
    · rename_i te hte
      cases hc : (Nat.beq m 0 && parts.toList.isEmpty)
      · rw [hc] at h
        simp only [cond_false] at h ⊢
        cases hc2 : (Nat.blt 0 (m * te.size) && Nat.ble (m * te.size) 16777216)
        · rw [hc2] at h; cases h
        · rw [hc2] at h
          simp only [cond_true] at h ⊢
          split at h
          · split at h
            · cases h; rfl
            · cases h
          · cases h
      · rw [hc] at h
        simp only [cond_true] at h ⊢
        split at h
        · cases h; rfl
        · cases h
    · cases h
  · cases h

/-- A small array beside all that is told. -/
structure Priv (w : World) (σ : List Value) (L : List Ent) (v : Value) (D : Dat) : Prop where
  rd : Reads w v D
  sl : isSl v = true
  far : ∀ b, blkB (.arr false 0 D) v = some b → ¬ Own σ L b

theorem Priv.step {w w' : World} {σ σ' : List Value} {L L' : List Ent} {v : Value} {D : Dat} (h : Priv w σ L v D) (hf : Fr w σ L w' σ' L') : Priv w' σ' L' v D := by
  have hE : EntOK σ w (.arr false 0 D) v := h.rd
  refine ⟨(hE.keep fun b hb => hf.blk b (hE.lt hb) (h.far b hb) : EntOK σ w' (.arr false 0 D) v), h.sl, fun b hb ho => ?_⟩
  rcases hf.own b ho with h1 | h1
  · exact h.far b hb h1
  · have := hE.lt hb; omega

def StepQ (P : Program) (n : Nat) (W : List Nat) (ops : List Oper) (d : Nat) (D : Dat) (o : Oper) (s : St) (α : AV) (L' : List Ent) : Prop :=
  okDst n o.dst = true ∧
  (∀ (σ : List Value) (a : Act) (w : World), SatL σ s.L w → (∀ t, t ∈ looks ops o → t ≠ d → RelV σ (envGet s.env t) (a.tmps.getD t undef)) → Priv w σ s.L (a.tmps.getD d undef) D →
    ∀ (next : Act → World → Prop) (Q : Exit → Act → World → Prop), (∀ v σ' w', Pre σ σ' → SatL σ' L' w' → Fr w σ s.L w' σ' L' → RelV σ' α v → next (a.put o.dst v) w') → o.wp P a w next Q) ∧ ExtW W s.L L'

theorem aOpP_sound (hty : TyOK P ty) {env : List (Nat × AV)} {L L' : List Ent} {o : Oper} {d : Nat} {D' : Dat} {φ : Option Prop} {α : AV} (h : aOpP ty env L o.op d D' = some (φ, α, L')) (hφ : owed φ) {σ : List Value} {w : World} (hs : SatL σ L w)
    {a : Act} (he : ∀ x ∈ o.op.operands.toList, x ≠ .tmp d → RelV σ (ev env x) (a.eval x)) (hp : Priv w σ L (a.tmps.getD d undef) D') : ∃ v v' w', (execOp a.eval o).run P w = .ok (.value v) w' ∧ SatL (σ ++ [v']) L' w' ∧ Fr w σ L w' (σ ++ [v']) L' ∧ RelV (σ ++ [v']) α v := by
  obtain ⟨dst, op, t, pos, after, guard⟩ := o
  simp only at h he
  have tri : ∀ {φ φ' : Option Prop} {α α' : AV} {E E' : List Ent}, some (φ, α, E) = some (φ', α', E') → φ = φ' ∧ α = α' ∧ E = E' := by
    intro _ _ _ _ _ _ h; injection h with h; injection h with h1 h2; injection h2 with h2 h3; exact ⟨h1, h2, h3⟩
  unfold aOpP at h
  split at h
  · rename_i args argTypes
    split at h
    · rename_i ar x T T' hargs hats
      have hargs' : args = #[ar, .tmp x] := by apply Array.toList_inj.1; rw [hargs]
      have hats' : argTypes = #[T, T'] := by apply Array.toList_inj.1; rw [hats]
      subst hargs'; subst hats'
      split at h
      · rename_i sz b z e k hT ha'
        split at h
        · rename_i te e' D hte hL
          cases hb : (Nat.beq T T' && Nat.beq e' e && Nat.beq te.size D.sz && Nat.beq x d && notTmp ar d)
          · simp [hb] at h
          · simp only [hb, cond_true] at h
            simp only [Bool.and_eq_true] at hb
            obtain ⟨⟨⟨⟨b1, b2⟩, b3⟩, b5⟩, b6⟩ := hb
            have b1' := Nat.eq_of_beq_eq_true b1
            have b2' := Nat.eq_of_beq_eq_true b2
            have b3' := Nat.eq_of_beq_eq_true b3
            have b5' := Nat.eq_of_beq_eq_true b5
            subst b1'; subst b2'; subst b5'
            split at h
            · rename_i D'' hcat
              obtain ⟨e1, e2, e3⟩ := tri h; subst e1; subst e2; subst e3
              have hφ' : D.len + D'.len ≤ 1099511627776 ∧ te.bytes ≤ 64 := hφ
              have hne : ar ≠ .tmp x := fun e => by subst e; simp [notTmp] at b6
              have hva := he ar (by simp [Op.operands, Call.operands]) hne
              rw [ha'] at hva
              obtain ⟨hva, hva2⟩ : σ[k]? = some (a.eval ar) ∧ isSl (a.eval ar) = true := hva
              obtain ⟨us, hown, hrel⟩ := hs.ok _ _ _ hL hva
              obtain ⟨v', w', r1, ⟨us', r2, r3⟩, r4, r5, r6⟩ := run_append_dat hty hT hte t b3' hcat hown hrel hp.rd hφ'.1 hφ'.2
              have hlts : ∀ (i : Nat) (E : Ent) (v : Value), L[i]? = some E → σ[i]? = some v → ∀ b, blkB E v = some b → b < w.heap.size := fun i E v h1 h2 b hb => (hs.ok i E v h1 h2).lt hb
              have hl := hs.len
              have src : ∀ {i : Nat} {F : Ent} {v : Value}, (L.set k .dead ++ [.arr true e' D''])[i]? = some F → (σ ++ [v'])[i]? = some v → F = .dead ∨ (i ≠ k ∧ L[i]? = some F ∧ σ[i]? = some v) ∨ (i = L.length ∧ F = .arr true e' D'' ∧ v = v') := by
                intro i F v hi hv
                rcases get_snoc hi with ⟨h1, h2⟩ | ⟨h1, h2⟩
                · rcases get_snoc hv with ⟨h3, h4⟩ | ⟨h3, h4⟩
                  · rcases get_set h2 with ⟨h5, h6⟩ | ⟨_, h6⟩
                    · exact .inr (.inl ⟨h5, h6, h4⟩)
                    · exact .inl h6
                  · simp at h1; omega
                · rcases get_snoc hv with ⟨h3, h4⟩ | ⟨h3, h4⟩
                  · simp at h1; omega
                  · exact .inr (.inr ⟨by simpa using h1, h2, h4⟩)
              refine ⟨v', v', w', ?_, ⟨by simp [hl], fun i F v hi hv => ?_, fun i j Fi Fj vi vj b hij hi hvi hj hvj ho => ?_⟩, ⟨r4.os, r4.tape, r4.output, r4.size, fun b hb hno => ?_, ?_, Pre.app _ _⟩, ?_⟩
              · have hax : a.eval (.tmp x) = a.tmps.getD x undef := rfl
                simp only [execOp, resolve, invoke, builtin, List.map_toArray, List.map_cons, List.map_nil, Sem.run_bind, Sem.run_pure, hax, r1, Result.andThen_ok]
              · rcases src hi hv with rfl | ⟨h1, h2, h3⟩ | ⟨_, rfl, rfl⟩
                · trivial
                · refine ((hs.ok i F v h2 h3).keep fun b hb => r4.block b (hlts _ _ _ h2 h3 b hb) fun he => ?_).pre (Pre.app _ _)
                  exact hs.sep k i _ F _ v b (Ne.symm h1) hL hva h2 h3 he.symm hb
                · exact ⟨us', r2, r3⟩
              · rcases src hi hvi with rfl | ⟨h1, h2, h3⟩ | ⟨h1, rfl, rfl⟩
                · cases ho
                · rcases src hj hvj with rfl | ⟨g1, g2, g3⟩ | ⟨g1, rfl, rfl⟩
                  · intro h; cases h
                  · exact hs.sep i j Fi Fj vi vj b hij h2 h3 g2 g3 ho
                  · intro hb
                    have hb : blkV vj = some b := hb
                    rcases r5 with r5 | r5
                    · rw [r5] at hb
                      exact hs.sep i k Fi _ vi _ b h1 h2 h3 hL hva ho hb
                    · rw [r5] at hb
                      have := hlts _ _ _ h2 h3 b (blkB_of_ownB ho)
                      cases hb; omega
                · rcases src hj hvj with rfl | ⟨g1, g2, g3⟩ | ⟨g1, rfl, rfl⟩
                  · intro h; cases h
                  · have ho : blkV vi = some b := ho
                    intro hb
                    rcases r5 with r5 | r5
                    · rw [r5] at ho
                      exact hs.sep k j _ Fj _ vj b (Ne.symm g1) hL hva g2 g3 ho hb
                    · rw [r5] at ho
                      have := hlts _ _ _ g2 g3 b hb
                      cases ho; omega
                  · omega
              · exact r4.block b hb fun he => hno ⟨k, _, _, hL, hva, he.symm⟩
              · rintro b ⟨i, F, v, hi, hv, ho⟩
                rcases src hi hv with rfl | ⟨h1, h2, h3⟩ | ⟨_, rfl, rfl⟩
                · cases ho
                · exact .inl ⟨i, F, v, h2, h3, ho⟩
                · have ho : blkV v = some b := ho
                  rcases r5 with r5 | r5
                  · rw [r5] at ho
                    exact .inl ⟨k, _, _, hL, hva, ho⟩
                  · rw [r5] at ho; cases ho
                    exact .inr (Nat.le_refl _)
              · exact ⟨by rw [← hl]; simp, r6⟩
            · cases h
        · cases h
      · cases h
    · cases h
  · cases h
structure DrawP (ops : List Oper) (nh p q mq d : Nat) (c : List Nat) : Prop where
  len : c.length + 1 = nh
  le : nh ≤ ops.length
  nd : ∀ (i j x : Nat), c[i]? = some x → c[j]? = some x → i = j
  lt : ∀ (m i : Nat), c[m]? = some i → i < nh
  full : ∀ i, i < nh → i = p ∨ ∃ m : Nat, c[m]? = some i
  pairT : ∀ (m m' i j : Nat), c[m]? = some i → c[m']? = some j → m' < m → okPair ops true i j = true ∧ (isCall ops j = true → reach ops ops.length i j = true)
  pairF : ∀ (m m' i j : Nat), c[m]? = some i → c[m']? = some j → m < m' → okPair ops false i j = true
  back : ∀ (i : Nat) o, ops[i]? = some o → ∀ e ∈ o.after, Region.binds .any e = true → e.on < i
  sink : nh < ops.length → ∀ i, i < nh → reach ops ops.length nh i = true
  chain : ∀ k, nh < k → k < ops.length → dep ops k (k - 1) = true
  plt : p < nh
  build : ∃ o, ops[p]? = some o ∧ isBuild o.op = true ∧ o.dst = some d ∧ o.guard = none ∧ d ∉ looks ops o
  far : ∀ (m i : Nat) oi, c[m]? = some i → ops[i]? = some oi → i ≠ p ∧ oi.dst ≠ some d ∧ (i = q ∨ d ∉ looks ops oi)
  pre : ∀ (m i : Nat) oi t op, c[m]? = some i → ops[i]? = some oi → oi.dst = some t → ops[p]? = some op → t ∈ looks ops op → dep ops p i = true ∧ m < mq
  qat : c[mq]? = some q
  qdep : dep ops q p = true
  qcall : ∃ o, ops[q]? = some o ∧ o.guard = none ∧ callLike o.op = true

theorem okDrawP_spec {ops : List Oper} {nh p q mq d : Nat} {c : List Nat} (h : okDrawP ops nh p q mq d c = true) : DrawP ops nh p q mq d c := by
  simp only [okDrawP, okPriv, Bool.and_eq_true] at h
  obtain ⟨⟨⟨⟨⟨⟨⟨⟨⟨h1, h2⟩, h3⟩, h4⟩, h5⟩, h6⟩, h7⟩, h8⟩, h9⟩, ⟨⟨⟨hp1, hp2⟩, hp3⟩, hp4⟩, hp5⟩ := h
  have hlt : ∀ (m i : Nat), c[m]? = some i → i < nh := fun m i hm => by
    have := List.all_eq_true.1 h4 i (List.mem_of_getElem? hm)
    exact Nat.lt_of_succ_le (Nat.le_of_ble_eq_true this)
  have hnd := noDup_spec h3
  have hop : ∃ o, ops[p]? = some o ∧ isBuild o.op = true ∧ o.dst = some d ∧ o.guard = none ∧ d ∉ looks ops o ∧ ∀ i, i ∈ c → i ≠ p ∧ ∃ oi, ops[i]? = some oi ∧ (i = q ∨ d ∉ looks ops oi) ∧ ∀ t, oi.dst = some t → t ≠ d ∧ (t ∈ looks ops o → dep ops p i = true ∧ i ∈ c.take mq) := by
    split at hp1
    · rename_i o ho
      simp only [Bool.and_eq_true] at hp1
      obtain ⟨⟨⟨⟨a1, a2⟩, a3⟩, a4⟩, a5⟩ := hp1
      refine ⟨o, ho, a1, ?_, by simpa using a3, by simpa using a5, fun i hi => ?_⟩
      · split at a2
        · rename_i d' hd'
          rw [Nat.eq_of_beq_eq_true a2] at hd'; exact hd'
        · cases a2
      · have := List.all_eq_true.1 a4 i hi
        simp only [Bool.and_eq_true] at this
        obtain ⟨b1, b2⟩ := this
        refine ⟨fun e => (by subst e; rw [Nat.beq_refl] at b1; cases b1), ?_⟩
        split at b2
        · rename_i oi hoi
          simp only [Bool.and_eq_true] at b2
          obtain ⟨b2, b3⟩ := b2
          refine ⟨oi, hoi, ?_, fun t ht => ?_⟩
          · simp only [Bool.or_eq_true] at b2
            rcases b2 with b2 | b2
            · exact .inl (Nat.eq_of_beq_eq_true b2)
            · exact .inr (by simpa using b2)
          · rw [ht] at b3
            simp only [Bool.and_eq_true, Bool.or_eq_true] at b3
            obtain ⟨b3, b4⟩ := b3
            refine ⟨fun e => (by subst e; rw [Nat.beq_refl] at b3; cases b3), fun hl => ?_⟩
            rcases b4 with b4 | b4
            · have : (looks ops o).contains t = true := by simpa using hl
              rw [this] at b4; cases b4
            · exact ⟨b4.1, by simpa using b4.2⟩
        · cases b2
    · cases hp1
  obtain ⟨op, ho1, ho2, ho3, ho4, ho5, ho6⟩ := hop
  refine ⟨Nat.eq_of_beq_eq_true h1, Nat.le_of_ble_eq_true h2, hnd, hlt, fun i hi => ?_, fun m m' i j hm hm' hlt' => ?_, fun m m' i j hm hm' hlt' => ?_, fun i o ho e he hb => ?_, fun hn i hi => ?_, fun k hk hk' => ?_, Nat.lt_of_succ_le (Nat.le_of_ble_eq_true hp3), ⟨op, ho1, ho2, ho3, ho4, ho5⟩, fun m i oi hm hoi => ?_, fun m i oi t op' hm hoi ht hop' hl => ?_, ?_, hp4, ?_⟩
  · have := List.all_eq_true.1 h5 i (List.mem_range.2 hi)
    simp only [Bool.or_eq_true] at this
    rcases this with h | h
    · exact .inl (Nat.eq_of_beq_eq_true h)
    · exact .inr (List.getElem?_of_mem (by simpa using h))
  · exact (okOrder_get h6 m i hm).1 j (.inr ⟨m', hlt', hm'⟩)
  · exact (okOrder_get h6 m i hm).2 m' j hlt' hm'
  · have hi : i < ops.length := (List.getElem?_eq_some_iff.1 ho).1
    have := List.all_eq_true.1 h7 i (List.mem_range.2 hi)
    simp only [ho] at this
    have := List.all_eq_true.1 this e (by simpa using he)
    simp only [hb, Bool.not_true, Bool.false_or] at this
    exact Nat.lt_of_succ_le (Nat.le_of_ble_eq_true this)
  · have hb : Nat.blt nh ops.length = true := by simp [Nat.blt]; omega
    simp only [hb, cond_true] at h8
    exact List.all_eq_true.1 h8 i (List.mem_range.2 hi)
  · have := List.all_eq_true.1 h9 k (List.mem_range.2 hk')
    have hb : Nat.blt nh k = true := by simp [Nat.blt]; omega
    simpa [hb] using this
  · obtain ⟨b1, oi', b2, b3, b4⟩ := ho6 i (List.mem_of_getElem? hm)
    rw [hoi] at b2; cases b2
    exact ⟨b1, fun e => (b4 d e).1 rfl, b3⟩
  · rw [ho1] at hop'; cases hop'
    obtain ⟨b1, oi', b2, b3, b4⟩ := ho6 i (List.mem_of_getElem? hm)
    rw [hoi] at b2; cases b2
    obtain ⟨b5, b6⟩ := (b4 t ht).2 hl
    refine ⟨b5, ?_⟩
    obtain ⟨m', hm'⟩ := List.getElem?_of_mem b6
    rw [List.getElem?_take] at hm'
    split at hm'
    · have := hnd m m' i hm hm'
      omega
    · cases hm'
  · split at hp5
    · rename_i i hi
      rw [hi, Nat.eq_of_beq_eq_true hp5]
    · cases hp5
  · split at hp2
    · rename_i o ho
      simp only [Bool.and_eq_true] at hp2
      exact ⟨o, ho, by simpa using hp2.1, hp2.2⟩
    · cases hp2

def TrP (P : Program) (ty : TyT) (n : Nat) (W : List Nat) (ops : List Oper) (p q d : Nat) (c : List Nat) (ss : Nat → St) (αs : Nat → AV) (Ds : Nat → Dat) : Prop :=
  ∀ (m i : Nat), c[m]? = some i → ∃ o, ops[i]? = some o ∧ (i ≠ q → StepW P n W ops o (ss m) (αs m) (ss (m + 1)).L) ∧
    (i = q → StepQ P n W ops d (Ds m) o (ss m) (αs m) (ss (m + 1)).L ∧ ∃ op φ α e, ops[p]? = some op ∧ gOp ty (ss m).env (ss m).L op.op = some (φ, α, .arr true e (Ds m)) ∧ owed φ ∧ okDst n (some d) = true) ∧
    EnvEq (ss (m + 1)).env (envPut (ss m).env o.dst (αs m))
def TraceP (P : Program) (ty : TyT) (n : Nat) (W : List Nat) (ops : List Oper) (p q d : Nat) (c : List Nat) (s : St) (K : St → Prop) : Prop :=
  ∃ (ss : Nat → St) (αs : Nat → AV) (Ds : Nat → Dat), ss 0 = s ∧ (∃ sf, EnvEq sf.env (ss c.length).env ∧ sf.L = (ss c.length).L ∧ K sf) ∧ TrP P ty n W ops p q d c ss αs Ds

theorem traceP_cons {ops : List Oper} {p q d i : Nat} {c : List Nat} {s s1 : St} {K : St → Prop} {o : Oper} {α : AV} (D : Dat) (ho : ops[i]? = some o) (hst : i ≠ q → StepW P n W ops o s α s1.L)
    (hq : i = q → StepQ P n W ops d D o s α s1.L ∧ ∃ op φ α e, ops[p]? = some op ∧ gOp ty s.env s.L op.op = some (φ, α, .arr true e D) ∧ owed φ ∧ okDst n (some d) = true) (hE : EnvEq s1.env (envPut s.env o.dst α))
    (h : TraceP P ty n W ops p q d c s1 K) : TraceP P ty n W ops p q d (i :: c) s K := by
  obtain ⟨ss, αs, Ds, h0, hf, hs⟩ := h
  refine ⟨fun m => match m with | 0 => s | m + 1 => ss m, fun m => match m with | 0 => α | m + 1 => αs m, fun m => match m with | 0 => D | m + 1 => Ds m, rfl, by simpa using hf, fun m j hm => ?_⟩
  cases m with
  | zero =>
    simp at hm; subst hm
    simp only [h0]
    exact ⟨o, ho, hst, hq, hE⟩
  | succ m => simp at hm; exact hs m j hm

theorem vStepQ_sound (hty : TyOK P ty) {ops : List Oper} {p d : Nat} {o : Oper} {s : St} {K : St → Prop} (h : vStepQ P ty n W ops p d o s K) :
    ∃ D α L', (StepQ P n W ops d D o s α L' ∧ ∃ op φ α e, ops[p]? = some op ∧ gOp ty s.env s.L op.op = some (φ, α, .arr true e D) ∧ owed φ ∧ okDst n (some d) = true) ∧ K { env := envPut s.env o.dst α, L := L' } := by
  unfold vStepQ at h
  cases hd : (okDst n o.dst && okDst n (some d))
  · simp [hd] at h
  simp only [hd, cond_true] at h
  simp only [Bool.and_eq_true] at hd
  split at h
  · rename_i op hop
    split at h
    · rename_i φ1 α1 e D hg
      obtain ⟨g1, h⟩ := both_split h
      split at h
      · rename_i φ α L' hq
        obtain ⟨h1, hag, h2⟩ := both_split h
        refine ⟨D, α, L', ⟨⟨hd.1, fun σ a w hs hl hp next Q hn => ?_, agr_ext hag⟩, op, φ1, α1, e, hop, hg, g1, hd.2⟩, h2⟩
        obtain ⟨v, v', w', h3, p1, p2, h7⟩ := aOpP_sound hty hq h1 hs (fun x hx hne => by
          cases x with
          | tmp t => exact hl t (mem_looks hx rfl) (fun e => hne (by rw [e]))
          | const v => exact rel_cst σ v
          | func f => exact ⟨[], [], rfl, trivial, trivial⟩
          | global g => exact trivial) hp
        unfold Oper.wp
        rw [h3, Oper.upon_value]
        exact hn v _ w' (Pre.app _ _) p1 p2 h7
      · exact h.elim
    · exact h.elim
  · exact h.elim

theorem vHeadP_trace (hty : TyOK P ty) {ops : List Oper} {p q d : Nat} : ∀ (c : List Nat) (s : St) (K : St → Prop), vHeadP P ty n W ops p q d c s K → TraceP P ty n W ops p q d c s K
  | [], s, K, h => ⟨fun _ => s, fun _ => one .any, fun _ => .f [], rfl, ⟨s, fun _ => rfl, rfl, h⟩, fun m i hm => by simp at hm⟩
  | i :: c, s, K, h => by
    simp only [vHeadP] at h
    split at h
    · exact h.elim
    · rename_i o ho
      cases hiq : Nat.beq i q
      · have hne : i ≠ q := fun e => by subst e; rw [Nat.beq_refl] at hiq; cases hiq
        rw [hiq] at h
        simp only [cond_false] at h
        split at h
        · rename_i hw
          obtain ⟨α, L', hst, hk⟩ := vStepW_sound hty hw h
          rw [norm_iff] at hk
          cases hg : isGuard ops i
          · simp only [hg, cond_false] at hk
            exact traceP_cons (.f []) ho (fun _ => hst) (fun e => absurd e hne) (fun _ => rfl) (vHeadP_trace hty c _ K hk)
          · simp only [hg, cond_true] at hk
            rcases settle_trace hk with hk | ⟨d', b, hd, hα, hk⟩
            · exact traceP_cons (.f []) ho (fun _ => hst) (fun e => absurd e hne) (fun _ => rfl) (vHeadP_trace hty c _ K hk)
            · refine traceP_cons (.f []) (s1 := ⟨(d', exb b) :: envPut s.env o.dst α, L'⟩) ho (fun _ => hst) (fun e => absurd e hne) (fun t => ?_) (vHeadP_trace hty c _ K hk)
              rw [hd, hα]
              exact envGet_dup d' t (exb b) s.env
        · rename_i hw
          cases hd : okDst n o.dst
          · simp [hd] at h
          · simp only [hd, cond_true] at h
            exact traceP_cons (.f []) (s1 := ⟨envPut s.env o.dst (one (.ex undef)), s.L⟩) (α := one (.ex undef)) ho (fun _ => ⟨hd, fun _ => ⟨rfl, fun L1 σ a w _ hs hl => .inl ⟨wants_sound hw (guard_looks hl), rfl⟩⟩, fun _ σ a w hs hl => .inl ⟨wants_sound hw (guard_looks hl), rfl, rfl⟩, ExtW.refl _ _⟩) (fun e => absurd e hne) (fun _ => rfl) (vHeadP_trace hty c _ K h)
        · exact h.elim
      · have he := Nat.eq_of_beq_eq_true hiq
        rw [hiq] at h
        simp only [cond_true] at h
        obtain ⟨D, α, L', hst, hk⟩ := vStepQ_sound hty h
        rw [norm_iff] at hk
        exact traceP_cons D ho (fun hn => absurd he hn) (fun _ => hst) (fun _ => rfl) (vHeadP_trace hty c _ K hk)

section main
variable {ops : List Oper} {nh p q mq d : Nat} {c : List Nat} {s : St} {ss : Nat → St} {αs : Nat → AV} {Ds : Nat → Dat} {D : Dat}

theorem env_atP (h0 : ss 0 = s) (hss : TrP P ty n W ops p q d c ss αs Ds) (t : Nat) :
    ∀ m, m ≤ c.length → (∃ m' i o, m' < m ∧ c[m']? = some i ∧ ops[i]? = some o ∧ o.dst = some t ∧ envGet (ss m).env t = αs m') ∨
      ((∀ (m' i : Nat) o, m' < m → c[m']? = some i → ops[i]? = some o → o.dst ≠ some t) ∧ envGet (ss m).env t = envGet s.env t)
  | 0, _ => .inr ⟨fun m' _ _ h => by omega, by rw [h0]⟩
  | m + 1, hm => by
    obtain ⟨i, hi⟩ : ∃ i, c[m]? = some i := ⟨_, List.getElem?_eq_getElem (by omega)⟩
    obtain ⟨o, ho, _, _, hE⟩ := hss m i hi
    rw [hE t]
    by_cases hdst : o.dst = some t
    · left
      exact ⟨m, i, o, by omega, hi, ho, hdst, by rw [hdst, envGet_put_eq]⟩
    · rw [envGet_put_ne hdst]
      rcases env_atP h0 hss t m (by omega) with ⟨m', i', o', g1, g2, g3, g4, g5⟩ | ⟨g1, g2⟩
      · exact .inl ⟨m', i', o', by omega, g2, g3, g4, g5⟩
      · refine .inr ⟨fun m' i' o' hm' hi' ho' => ?_, g2⟩
        by_cases he : m' = m
        · subst he
          rw [hi] at hi'; cases hi'
          rw [ho] at ho'; cases ho'
          exact hdst
        · exact g1 m' i' o' (by omega) hi' ho'

theorem L_monoP (hqc : isCall ops q = true) (m : Nat) (hss : TrP P ty n W ops p q d c ss αs Ds) :
    ∀ m', m ≤ m' → m' ≤ c.length → ExtW W (ss m).L (ss m').L ∧ ((∀ (q i : Nat), m ≤ q → q < m' → c[q]? = some i → isCall ops i = false) → (ss m').L = (ss m).L)
  | 0, h, _ => by
    have : m = 0 := by omega
    subst this
    exact ⟨ExtW.refl _ _, fun _ => rfl⟩
  | m' + 1, h, hl => by
    by_cases he : m = m' + 1
    · subst he; exact ⟨ExtW.refl _ _, fun _ => rfl⟩
    · obtain ⟨h1, h2⟩ := L_monoP hqc m hss m' (by omega) (by omega)
      obtain ⟨i, hi⟩ : ∃ i, c[m']? = some i := ⟨_, List.getElem?_eq_getElem (by omega)⟩
      obtain ⟨o, ho, hst, hsq, _⟩ := hss m' i hi
      have hx : ExtW W (ss m').L (ss (m' + 1)).L := by
        by_cases hiq : i = q
        · exact (hsq hiq).1.2.2
        · exact (hst hiq).2.2.2
      refine ⟨h1.trans hx, fun hq => ?_⟩
      have hc := hq m' i (by omega) (by omega) hi
      have hc' : callLike o.op = false := by simpa [isCall, ho] using hc
      have hiq : i ≠ q := fun e => by subst e; rw [hqc] at hc; cases hc
      rw [((hst hiq).2.1 hc').1]
      exact h2 fun q i' a b d => hq q i' a (by omega) d

structure HInvP (w0 : World) (σ0 : List Value) (L0 : List Ent) (n : Nat) (ops : List Oper) (nh p q d : Nat) (c : List Nat) (s : St) (ss : Nat → St) (αs : Nat → AV) (D : Dat) (listed : Array Bool) (a : Act) (w : World) (σ : List Value) (ms : Nat) : Prop where
  size : listed.size = ops.length
  tail : ∀ k, nh ≤ k → listed.getD k false = false
  closed : Closed ops listed
  nodef : a.defers = []
  tsize : a.tmps.size = n
  calls : ∀ (m i : Nat), c[m]? = some i → isCall ops i = true → (listed.getD i false = true ↔ m < ms)
  ms_le : ms ≤ c.length
  sat : SatL σ (ss ms).L w
  fr : Fr w0 σ0 L0 w σ (ss ms).L
  done : ∀ (m i : Nat) o t, c[m]? = some i → listed.getD i false = true → ops[i]? = some o → o.dst = some t → RelV σ (αs m) (a.tmps.getD t undef)
  rest : ∀ t, t ≠ d → (∀ (m i : Nat) o, c[m]? = some i → listed.getD i false = true → ops[i]? = some o → o.dst ≠ some t) → RelV σ (envGet s.env t) (a.tmps.getD t undef)
  priv : listed.getD p false = true → listed.getD q false = false → Priv w σ (ss ms).L (a.tmps.getD d undef) D

theorem HInvP.step (hd : DrawP ops nh p q mq d c)
    {listed : Array Bool} {a : Act} {w : World} {σ : List Value} {ms : Nat} (h : HInvP w0 σ0 L0 n ops nh p q d c s ss αs D listed a w σ ms) {i m : Nat} {o : Oper} (hi : c[m]? = some i) (ho : ops[i]? = some o) (hu : listed.getD i true = false)
    (hdeps : ∀ e ∈ o.after, Region.binds .any e = true → listed.getD e.on false = true) (hok : okDst n o.dst = true) {v : Value} {w' : World} {σ' : List Value} {ms' : Nat} (hms : ms' ≤ c.length)
    (hcalls : ∀ (q j : Nat), c[q]? = some j → isCall ops j = true → ((listed.setIfInBounds i true).getD j false = true ↔ q < ms')) (hs : SatL σ' (ss ms').L w') (hf : Fr w0 σ0 L0 w' σ' (ss ms').L) (hp : Pre σ σ') (hv : RelV σ' (αs m) v)
    (hg : ∀ v, Priv w σ (ss ms).L v D → Priv w' σ' (ss ms').L v D) :
    HInvP w0 σ0 L0 n ops nh p q d c s ss αs D (listed.setIfInBounds i true) (a.put o.dst v) w' σ' ms' := by
  have hin : i < nh := hd.lt m i hi
  have hil : i < listed.size := by rw [h.size]; exact Nat.lt_of_lt_of_le hin hd.le
  obtain ⟨hip, hdn, _⟩ := hd.far m i o hi ho
  have hget : ∀ {j : Nat}, (listed.setIfInBounds i true).getD j false = true → j = i ∨ listed.getD j false = true := fun {j} hj => by
    by_cases he : i = j
    · exact .inl he.symm
    · right; rwa [getD_set_other he] at hj
  have hkeep : ∀ {j : Nat}, listed.getD j false = true → (listed.setIfInBounds i true).getD j false = true := fun {j} hj => by
    by_cases he : i = j
    · subst he; exact getD_set_self hil
    · rw [getD_set_other he]; exact hj
  have hdd : ∀ {q j : Nat} {oj : Oper} {t : Nat}, c[q]? = some j → ops[j]? = some oj → oj.dst = some t → o.dst = some t → q = m := by
    intro q j oj t hq hj h1 h2
    rcases Nat.lt_trichotomy q m with hlt | heq | hgt
    · have := (hd.pairT m q i j hi hq hlt).1
      simp [okPair, ho, hj, h1, h2] at this
    · exact heq
    · have := hd.pairF m q i j hi hq hgt
      simp [okPair, ho, hj, h1, h2] at this
  refine ⟨by simp [h.size], fun k hk => ?_, fun j oj hj hl e he hb => ?_, by rw [put_defers]; exact h.nodef, by rw [put_size]; exact h.tsize, hcalls, hms, hs, hf, fun q j oj t hq hl hj hdst => ?_, fun t htd ht => ?_, fun hl hlq => ?_⟩
  · rw [getD_set_other (by omega)]; exact h.tail k hk
  · rcases hget hl with rfl | hl
    · rw [ho] at hj; cases hj
      exact hkeep (hdeps e he hb)
    · exact hkeep (h.closed j oj hj hl e he hb)
  · rcases hget hl with rfl | hl
    · rw [ho] at hj; cases hj
      have := hd.nd m q j hi hq
      subst this
      rw [hdst] at hok ⊢
      rw [put_getD_eq (by rw [h.tsize]; exact Nat.lt_of_succ_le (Nat.le_of_ble_eq_true hok))]
      exact hv
    · by_cases he : o.dst = some t
      · have := hdd hq hj hdst he
        subst this
        rw [hi] at hq; cases hq
        rw [getD_in' hil] at hl
        rw [show (!false) = true from rfl, hu] at hl; cases hl
      · rw [put_getD_ne he]
        exact (h.done q j oj t hq hl hj hdst).pre hp
  · have hne : o.dst ≠ some t := ht m i o hi (getD_set_self hil) ho
    rw [put_getD_ne hne]
    exact (h.rest t htd fun q j oj hq hl hj => ht q j oj hq (hkeep hl) hj).pre hp
  · rw [getD_set_other hip] at hl
    have hlq' : listed.getD q false = false := by
      cases hb : listed.getD q false
      · rfl
      · rw [hkeep hb] at hlq; cases hlq
    rw [put_getD_ne hdn]
    exact hg _ (h.priv hl hlq')

theorem HInvP.made (hd : DrawP ops nh p q mq d c)
    {listed : Array Bool} {a : Act} {w : World} {σ : List Value} {ms : Nat} (h : HInvP w0 σ0 L0 n ops nh p q d c s ss αs D listed a w σ ms) {o : Oper} (ho : ops[p]? = some o) (hu : listed.getD p true = false)
    (hdeps : ∀ e ∈ o.after, Region.binds .any e = true → listed.getD e.on false = true) (hdst : o.dst = some d) (hok : okDst n (some d) = true) {v : Value} {w' : World} (he : Ext w w') (hpv : Priv w' σ (ss ms).L v D) :
    HInvP w0 σ0 L0 n ops nh p q d c s ss αs D (listed.setIfInBounds p true) (a.put o.dst v) w' σ ms := by
  have hil : p < listed.size := by rw [h.size]; exact Nat.lt_of_lt_of_le hd.plt hd.le
  have hne : ∀ {m i : Nat}, c[m]? = some i → p ≠ i := fun {m i} hi e => by
    have hlt : i < ops.length := Nat.lt_of_lt_of_le (hd.lt m i hi) hd.le
    exact (hd.far m i _ hi (List.getElem?_eq_getElem hlt)).1 e.symm
  refine ⟨by simp [h.size], fun k hk => ?_, fun j oj hj hl e he hb => ?_, by rw [put_defers]; exact h.nodef, by rw [put_size]; exact h.tsize, fun q j hq hc => ?_, h.ms_le, h.sat.ext he, h.fr.trans he.fr, fun q j oj t hq hl hj ht => ?_, fun t htd ht => ?_, fun hl _ => ?_⟩
  · have := hd.plt
    rw [getD_set_other (by omega)]; exact h.tail k hk
  · by_cases hpj : p = j
    · subst hpj
      rw [ho] at hj; cases hj
      have h1 := hdeps e he hb
      by_cases hpe : p = e.on
      · rw [← hpe]; exact getD_set_self hil
      · rw [getD_set_other hpe]; exact h1
    · rw [getD_set_other hpj] at hl
      have h1 := h.closed j oj hj hl e he hb
      by_cases hpe : p = e.on
      · rw [← hpe]; exact getD_set_self hil
      · rw [getD_set_other hpe]; exact h1
  · rw [getD_set_other (hne hq)]; exact h.calls q j hq hc
  · rw [getD_set_other (hne hq)] at hl
    have hdn := (hd.far q j oj hq hj).2.1
    rw [put_getD_ne (by rw [hdst, ← ht]; exact fun e => hdn e.symm)]
    exact h.done q j oj t hq hl hj ht
  · rw [put_getD_ne (by rw [hdst]; exact fun e => htd (by injection e with e; exact e.symm))]
    exact h.rest t htd fun q j oj hq hl hj => ht q j oj hq (by rw [getD_set_other (hne hq)]; exact hl) hj
  · rw [hdst, put_getD_eq (by rw [h.tsize]; exact Nat.lt_of_succ_le (Nat.le_of_ble_eq_true hok))]
    exact hpv

theorem head_anyP (hty : TyOK P ty) (hd : DrawP ops nh p q mq d c) (h0 : ss 0 = s) (hss : TrP P ty n W ops p q d c ss αs Ds)
    {Q : Exit → Act → World → Prop} {g : Nat}
    (hfin : ∀ (listed : Array Bool) (a : Act) (w : World) (σ : List Value) (ms : Nat), HInvP w0 σ0 L0 n ops nh p q d c s ss αs (Ds mq) listed a w σ ms → (∀ i, i < nh → listed.getD i true = true) → wpAny P .any ops.toArray Q g listed a w) :
    ∀ (f : Nat) (listed : Array Bool) (a : Act) (w : World) (σ : List Value) (ms : Nat), unl listed nh = f → HInvP w0 σ0 L0 n ops nh p q d c s ss αs (Ds mq) listed a w σ ms → wpAny P .any ops.toArray Q (f + g) listed a w := by
  obtain ⟨oq, hoq, _, hqcl⟩ := hd.qcall
  have hqc : isCall ops q = true := by simp [isCall, hoq, hqcl]
  intro f
  induction f with
  | zero =>
    intro listed a w σ ms hf h
    rw [Nat.zero_add]
    exact hfin listed a w σ ms h (unl_zero hf)
  | succ f ih =>
    intro listed a w σ ms hf h
    rw [show f + 1 + g = (f + g) + 1 by omega]
    obtain ⟨i0, hi0, hu0, hmin⟩ := min_unl (listed := listed) (k := nh) (by omega)
    have hlt0 : i0 < ops.length := Nat.lt_of_lt_of_le hi0 hd.le
    refine ⟨fun hr => ?_, fun i hr => ?_⟩
    · have : i0 ∈ Region.ready .any ops.toArray listed := by
        rw [mem_ready']
        refine ⟨hu0, ops[i0], List.getElem?_eq_getElem hlt0, fun e he hb => ?_⟩
        have hlt := hd.back i0 _ (List.getElem?_eq_getElem hlt0) e he hb
        have := hmin e.on hlt
        rwa [getD_in' (by rw [h.size]; omega)] at this
      rw [hr] at this; cases this
    · obtain ⟨hu, o, ho, hdeps⟩ := mem_ready'.1 hr
      have hil : i < ops.length := (List.getElem?_eq_some_iff.1 ho).1
      have hio : ∀ o', ops[i]? = some o' → ∀ e ∈ o'.after, Region.binds .any e = true → listed.getD e.on false = true := fun o' ho' => by rw [ho] at ho'; cases ho'; exact hdeps
      have hin : i < nh := by
        rcases Nat.lt_trichotomy i nh with h1 | h1 | h1
        · exact h1
        · subst h1
          have := reach_listed h.closed _ _ _ (hd.sink hil i0 hi0) hio
          rw [getD_in' (by rw [h.size]; omega)] at hu0
          rw [show (!true) = false from rfl, this] at hu0; cases hu0
        · have := dep_listed (hd.chain i h1 hil) hio
          rw [h.tail (i - 1) (by omega)] at this; cases this
      have hunl : unl (listed.setIfInBounds i true) nh = f := by
        have := (unl_set (listed := listed) (i := i) (by rw [h.size]; exact hil) hu nh).1 hin
        omega
      have hiu : listed.getD i false = false := by rw [getD_in' (by rw [h.size]; exact hil)]; exact hu
      rcases hd.full i hin with rfl | ⟨m, hm⟩
      · -- the small array
        obtain ⟨op, hop, hbuild, hopd, hopg, hdl⟩ := hd.build
        have e : o = op := by rw [ho] at hop; exact Option.some.inj hop
        subst e
        obtain ⟨_, _, _, hsq, _⟩ := hss mq q hd.qat
        obtain ⟨_, op', φ, α, e, hop', hg, hφ, hokd⟩ := hsq rfl
        rw [ho] at hop'; cases hop'
        have hg' := gOp_build (L' := (ss ms).L) hbuild hg
        have hmq : mq ≤ c.length := Nat.le_of_lt (List.getElem?_eq_some_iff.1 hd.qat).1
        have hlook : ∀ t, t ∈ looks ops o → RelV σ (envGet (ss mq).env t) (a.tmps.getD t undef) := fun t ht => by
          rcases env_atP h0 hss t mq hmq with ⟨m', j, oj, g1, g2, g3, g4, g5⟩ | ⟨g1, g2⟩
          · rw [g5]
            exact h.done m' j oj t g2 (dep_listed (hd.pre m' j oj t o g2 g3 g4 ho ht).1 hio) g3 g4
          · rw [g2]
            refine h.rest t (fun e => hdl (by rw [← e]; exact ht)) fun m' j oj hq hl hj hdst => ?_
            exact g1 m' j oj (hd.pre m' j oj t o hq hj hdst ho ht).2 hq hj hdst
        obtain ⟨v, u, w', h3, h4, h5, h6, h7⟩ := gOp_sound hty hg' hφ h.sat (evOK_of_looks hlook)
        have hlen := h.sat.len
        obtain ⟨h7a, h7b⟩ : (σ ++ [u])[(ss ms).L.length]? = some v ∧ isSl v = true := h7
        have huv : u = v := by rw [← hlen] at h7a; simpa using h7a
        subst huv
        unfold wpOp
        simp only [List.getElem?_toArray, ho]
        have hwant : Region.wanted o (yielded ops.toArray a.tmps) = true := by
          unfold Region.wanted; rw [hopg]
        rw [hwant]
        simp only [if_true]
        left
        unfold Oper.wp
        rw [h3, Oper.upon_value]
        refine ih _ _ _ σ ms hunl (h.made hd ho hu hdeps hopd hokd h4 ⟨h5.reads, h7b, fun b hb ho => ?_⟩)
        have hb2 : blkB (.arr true e (Ds mq)) u = some b := by
          simp only [blkB] at hb
          split at hb
          · cases hb
          · exact hb
        obtain ⟨k, E, v', k1, k2, k3⟩ := ho
        have := (h.sat.ok k E v' k1 k2).lt (blkB_of_ownB k3)
        have := h6 b hb2
        omega
      obtain ⟨o', ho', hst, hsq, hE⟩ := hss m i hm
      rw [ho] at ho'; cases ho'
      have hml : m < c.length := (List.getElem?_eq_some_iff.1 hm).1
      obtain ⟨hip, hdn, hdl⟩ := hd.far m i o hm ho
      have hcb : ∀ (q j : Nat), c[q]? = some j → q < m → isCall ops j = true → q < ms := fun q j hq hlt hc => by
        have hr := (hd.pairT m q i j hm hq hlt).2 hc
        exact (h.calls q j hq hc).1 (reach_listed h.closed _ _ _ hr hio)
      have hlook : ∀ t, t ∈ looks ops o → t ≠ d → RelV σ (envGet (ss m).env t) (a.tmps.getD t undef) := fun t ht htd => by
        rcases env_atP h0 hss t m (by omega) with ⟨q, j, oj, g1, g2, g3, g4, g5⟩ | ⟨g1, g2⟩
        · rw [g5]
          have hpair := (hd.pairT m q i j hm g2 g1).1
          have hdep : dep ops i j = true := by
            simp only [okPair, ho, g3, g4, Bool.and_eq_true, Bool.or_eq_true, Bool.not_eq_true', cond_true] at hpair
            rcases hpair.1 with h5 | h5
            · have : (looks ops o).contains t = true := by simpa using ht
              rw [this] at h5; cases h5
            · exact h5
          exact h.done q j oj t g2 (dep_listed hdep hio) g3 g4
        · rw [g2]
          refine h.rest t htd fun q j oj hq hl hj hdst => ?_
          rcases Nat.lt_trichotomy q m with hlt | heq | hgt
          · exact g1 q j oj hlt hq hj hdst
          · subst heq; rw [hm] at hq; cases hq; rw [hiu] at hl; cases hl
          · have hpair := hd.pairF m q i j hm hq hgt
            simp only [okPair, ho, hj, hdst, Bool.and_eq_true, Bool.or_eq_true, Bool.not_eq_true', cond_false] at hpair
            rcases hpair.1 with h5 | h5
            · have : (looks ops o).contains t = true := by simpa using ht
              rw [this] at h5; cases h5
            · have := dep_listed h5 fun o' ho' => h.closed j o' ho' hl
              rw [hiu] at this; cases this
      have hset : ∀ (q j : Nat), c[q]? = some j → isCall ops i = false → isCall ops j = true → ((listed.setIfInBounds i true).getD j false = true ↔ q < ms) := fun q j hq hci hcj => by
        have : i ≠ j := fun e => by subst e; rw [hci] at hcj; cases hcj
        rw [getD_set_other this]; exact h.calls q j hq hcj
      have callPos : isCall ops i = true → ms ≤ m ∧ (ss m).L = (ss ms).L ∧ ∀ (q j : Nat), c[q]? = some j → isCall ops j = true → ((listed.setIfInBounds i true).getD j false = true ↔ q < m + 1) := fun hci => by
        have hmm : ms ≤ m := by
          rcases Nat.lt_or_ge m ms with hlt | hge
          · have := (h.calls m i hm hci).2 hlt
            rw [hiu] at this; cases this
          · exact hge
        refine ⟨hmm, ?_, fun q j hq hc => ?_⟩
        · obtain ⟨_, h2⟩ := L_monoP hqc ms hss m hmm (by omega)
          exact h2 (fun q j ha hb hj => by
            cases hc : isCall ops j
            · rfl
            · have := hcb q j hj hb hc; omega)
        · by_cases he : i = j
          · subst he
            have := hd.nd q m i hq hm
            subst this
            rw [getD_set_self (by rw [h.size]; exact hil)]; simp
          · rw [getD_set_other he, h.calls q j hq hc]
            refine ⟨fun h1 => by omega, fun h1 => ?_⟩
            have hqm : q ≠ m := fun e => by subst e; rw [hm] at hq; cases hq; exact he rfl
            exact hcb q j hq (by omega) hc
      unfold wpOp
      simp only [List.getElem?_toArray, ho]
      by_cases hiq : i = q
      · -- the append of the small array
        subst hiq
        have hmm := hd.nd m mq i hm hd.qat
        subst hmm
        obtain ⟨hsq, _⟩ := hsq rfl
        obtain ⟨hmm, hLe, hcalls'⟩ := callPos hqc
        have hs := h.sat
        have hfr := h.fr
        rw [← hLe] at hs hfr
        have hpv := h.priv (dep_listed hd.qdep hio) hiu
        rw [← hLe] at hpv
        obtain ⟨oq', hoq', hgq, _⟩ := hd.qcall
        rw [ho] at hoq'; cases hoq'
        have hwant : Region.wanted o (yielded ops.toArray a.tmps) = true := by
          unfold Region.wanted; rw [hgq]
        rw [hwant]
        simp only [if_true]
        left
        refine hsq.2.1 σ a w hs hlook hpv _ _ fun v σ' w' p0 p1 p2 p3 => ?_
        exact ih _ _ _ σ' (m + 1) hunl (h.step hd hm ho hu hdeps hsq.1 (by omega) hcalls' p1 (hfr.trans p2) p0 p3 (fun v hv => by rw [← hLe] at hv; exact hv.step p2))
      have hst := hst hiq
      have hlook' : ∀ t, t ∈ looks ops o → RelV σ (envGet (ss m).env t) (a.tmps.getD t undef) := fun t ht => hlook t ht (fun e => (hdl.resolve_left hiq) (by rw [← e]; exact ht))
      cases hcl : callLike o.op
      · have hci : isCall ops i = false := by simp [isCall, ho, hcl]
        obtain ⟨hN, hq⟩ := hst.2.1 hcl
        have hX : ExtW W (ss m).L (ss ms).L := by
          rcases Nat.le_total m ms with hle | hle
          · exact (L_monoP hqc m hss ms hle h.ms_le).1
          · obtain ⟨_, h2⟩ := L_monoP hqc ms hss m hle (by omega)
            rw [h2 (fun q j ha hb hj => by
              cases hc : isCall ops j
              · rfl
              · have := hcb q j hj hb hc; omega)]
            exact ExtW.refl _ _
        rcases hq (ss ms).L σ a w hX h.sat hlook' with ⟨hw, hα⟩ | ⟨hw, v, d', hrun, hv⟩
        · rw [hw]
          simp only [Bool.false_eq_true, if_false]
          refine ih _ _ _ σ ms hunl (h.step hd hm ho hu hdeps hst.1 h.ms_le (fun q j hq hc => hset q j hq hci hc) h.sat h.fr (Pre.refl σ) (by rw [hα]; rfl) (fun _ h => h))
        · rw [hw]
          simp only [if_true]
          left
          unfold Oper.wp
          rw [hrun, Oper.upon_value]
          exact ih _ _ _ σ ms hunl (h.step hd hm ho hu hdeps hst.1 h.ms_le (fun q j hq hc => hset q j hq hci hc) (h.sat.ext (Ext.drewN w d')) (h.fr.trans (Ext.drewN w d').fr) (Pre.refl σ) hv (fun _ h => h.step (Ext.drewN w d').fr))
      · have hci : isCall ops i = true := by simp [isCall, ho, hcl]
        obtain ⟨hmm, hLe, hcalls'⟩ := callPos hci
        have hs := h.sat
        have hfr := h.fr
        rw [← hLe] at hs hfr
        rcases hst.2.2.1 hcl σ a w hs hlook' with ⟨hw, hα, hN⟩ | ⟨hw, hwp⟩
        · rw [hw]
          simp only [Bool.false_eq_true, if_false]
          refine ih _ _ _ σ (m + 1) hunl (h.step hd hm ho hu hdeps hst.1 (by omega) hcalls' (by rw [hN]; exact hs) (by rw [hN]; exact hfr) (Pre.refl σ) (by rw [hα]; rfl) (fun _ h => by rw [hN, hLe]; exact h))
        · rw [hw]
          simp only [if_true]
          left
          refine hwp _ _ fun v σ' w' p0 p1 p2 p3 => ?_
          exact ih _ _ _ σ' (m + 1) hunl (h.step hd hm ho hu hdeps hst.1 (by omega) hcalls' p1 (hfr.trans p2) p0 p3 (fun v hv => by rw [← hLe] at hv; exact hv.step p2))

end main

theorem vDrawP_sound (hty : TyOK P ty) (hmix : P.follows .mixedOrders = true) {id : Nat} {ops : List Oper} {nh p q mq d : Nat} {c : List Nat} {s : St} {K : St → Prop} (hok : okDrawP ops nh p q mq d c = true)
    (hv : vHeadP P ty n W ops p q d c s fun s' => vOps P ty n σ0.length ops nh (ops.drop nh) ⟨(d, one .any) :: s'.env, s'.L⟩ K) {Q : Exit → Act → World → Prop}
    (hK : ∀ s' σ' a' w', K s' → At w0 σ0 L0 n s' σ' a' w' → Q .normal a' w') {σ : List Value} {a : Act} {w : World} (hA : At w0 σ0 L0 n s σ a w) : (Code.region id ops.toArray true).wp P Q a w := by
  have hd := okDrawP_spec hok
  obtain ⟨ss, αs, Ds, h0, ⟨sf, hfe, hfL, hfK⟩, hss⟩ := vHeadP_trace hty c s _ hv
  have hA1 := hA.ext (Ext.drewN w 1)
  obtain ⟨oq, hoq, _, hqcl⟩ := hd.qcall
  have hqc : isCall ops q = true := by simp [isCall, hoq, hqcl]
  refine wp_region_any hmix ?_
  rw [drew_eq]
  have hrep : ∀ (k : Nat), (Array.replicate ops.length false).getD k false = false := fun k => by
    simp [Array.getD_eq_getD_getElem?, Array.getElem?_replicate]; split <;> rfl
  have hinit : HInvP w0 σ0 L0 n ops nh p q d c s ss αs (Ds mq) (Array.replicate ops.length false) a (w.drewN 1) σ 0 := by
    refine ⟨by simp, fun k _ => hrep k, fun i o _ hl => (by rw [hrep] at hl; cases hl), hA1.nodef, hA1.size, fun m i _ _ => ⟨fun hl => (by rw [hrep] at hl; cases hl), fun hl => by omega⟩, Nat.zero_le _, by rw [h0]; exact hA1.sat, by rw [h0]; exact hA1.fr,
      fun m i o d _ hl => (by rw [hrep] at hl; cases hl), fun t _ _ => hA1.env t, fun hl => (by rw [hrep] at hl; cases hl)⟩
  have hun : unl (Array.replicate ops.length false) nh = nh := by
    unfold unl
    rw [List.filter_eq_self.2]
    · simp
    · intro i hi
      have hi' : i < ops.length := Nat.lt_of_lt_of_le (List.mem_range.1 hi) hd.le
      simp [Array.getD_eq_getD_getElem?, Array.getElem?_replicate, hi']
  have key := head_anyP (P := P) (n := n) (W := W) (w0 := w0) (σ0 := σ0) (L0 := L0) (Q := Q) (g := ops.length - nh) hty hd h0 hss (fun listed a' w' σ' ms hI hall => ?_) nh _ a (w.drewN 1) σ 0 hun hinit
  · rw [show nh + (ops.length - nh) = ops.length by have := hd.le; omega] at key
    simpa using key
  · have hLe : (ss c.length).L = (ss ms).L := by
      obtain ⟨_, h2⟩ := L_monoP hqc ms hss c.length hI.ms_le (Nat.le_refl _)
      exact h2 (fun q j hq hb hj => by
        cases hc : isCall ops j
        · rfl
        · have hlt := hd.lt q j hj
          have h3 := hall j hlt
          rw [getD_in' (by rw [hI.size]; have := hd.le; omega)] at h3
          have := (hI.calls q j hj hc).1 h3
          omega)
    have hAf : At w0 σ0 L0 n ⟨(d, one .any) :: sf.env, sf.L⟩ σ' a' w' := by
      refine ⟨by rw [hfL, hLe]; exact hI.sat, by rw [hfL, hLe]; exact hI.fr, fun t => ?_, hI.nodef, hI.tsize⟩
      simp only [envGet]
      cases hb : Nat.beq d t
      · have hne : t ≠ d := fun e => by subst e; rw [Nat.beq_refl] at hb; cases hb
        simp only [cond_false]
        rw [hfe t]
        rcases env_atP h0 hss t c.length (Nat.le_refl _) with ⟨q, j, oj, g1, g2, g3, g4, g5⟩ | ⟨g1, g2⟩
        · rw [g5]
          have h3 := hall j (hd.lt q j g2)
          rw [getD_in' (by rw [hI.size]; have := hd.le; have := hd.lt q j g2; omega)] at h3
          exact hI.done q j oj t g2 h3 g3 g4
        · rw [g2]
          exact hI.rest t hne fun q j oj hq _ hj => g1 q j oj (List.getElem?_eq_some_iff.1 hq).1 hq hj
      · exact trivial
    have := tail_any2 hty hd.chain hd.back hK (ops.drop nh) nh _ _ a' w' listed (Nat.le_refl _) rfl (by
      by_cases he : nh = ops.length
      · exact .inr he
      · left; intro e
        have := congrArg List.length e
        simp at this
        have := hd.le; omega) hI.size (fun i hi => by
        by_cases hlt : i < nh
        · rw [hall i hlt]; simp [hlt]
        · have := hI.tail i (by omega)
          rw [getD_in' (by rw [hI.size]; exact hi)] at this
          simp only [Bool.not_false] at this
          rw [this]; simp [hlt]) hfK hAf
    rwa [List.length_drop] at this
end

theorem c_drawP {P : Program} {ty : TyT} {n m0 : Nat} {id : Nat} {ops : Array Oper} {s : St} {N : St → Prop} {X : Nat → St → Prop} {R : St → Prop} (hty : TyOK P ty) (hmix : P.follows .mixedOrders = true) (W : List Nat) (nh p q mq d : Nat) (l : List Nat) (hok : okDrawP ops.toList nh p q mq d l = true)
    (h : ∀ K, K = N → vHeadP P ty n W ops.toList p q d l s fun s' => vOps P ty n m0 ops.toList nh (ops.toList.drop nh) ⟨(d, one .any) :: s'.env, s'.L⟩ K) : vCode P ty n m0 (.region id ops true) s N X R := by
  refine c_own fun K hK w0 σ0 L0 Q hlen hQ σ a w hA => ?_
  subst hlen
  have := vDrawP_sound (id := id) (W := W) hty hmix hok (h K hK) hQ hA
  simpa using this
end
end Go.AX
