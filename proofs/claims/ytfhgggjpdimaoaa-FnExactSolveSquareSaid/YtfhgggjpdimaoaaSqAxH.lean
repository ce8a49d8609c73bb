/- A symbolic walk over the code of one function, and that it tells no more than the model does: no condition. -/
import Derived.Test.YtfhgggjpdimaoaaSqAxG
set_option linter.unusedVariables false
set_option linter.unusedSimpArgs false
namespace Go.AX
noncomputable section
open Go.RowKit

/-! ## Regions in the order of the text, and code -/

def argsOf (env : List (Nat × AV)) : List Operand → Option (List A1)
  | [] => some []
  | x :: xs => match ev env x with
    | .v y => match argsOf env xs with
      | some ys => some (y :: ys)
      | none => none
    | _ => none

def ptrArgs (ks : List Nat) : List A1 := ks.map fun k => .one (.pv k 0)

def callOf (env : List (Nat × AV)) : Op → Option (Nat × List A1)
  | .call { callee := .value f, args, .. } => match ev env f with
    | .v (.one (.fn g fs cs)) => match argsOf env args.toList with
      | some xs => some (g, ptrArgs fs ++ xs ++ ptrArgs cs)
      | none => none
    | _ => none
  | _ => none

def both : Option Prop → Prop → Prop
  | none, K => K
  | some p, K => p ∧ K

def vOp (P : Program) (ty : TyT) (n m0 : Nat) (o : Oper) (s : St) (K : St → Prop) : Prop :=
  bif okDst n o.dst then
    match qOp ty s.env s.L o.op with
    | some (φ, α) => both φ (K { env := envPut s.env o.dst α, L := s.L })
    | none => match gOp ty s.env s.L o.op with
      | some (φ, α, E) => both φ (K { env := envPut s.env o.dst α, L := s.L ++ [E] })
      | none => match mOp ty m0 o.dst s o.op with
        | some (φ, s') => both φ (K s')
        | none => match callOf s.env o.op with
          | some (f, args) => vCallA P f args s o.dst K
          | none => False
  else False

def chg : Op → Bool
  | .alloc _ | .box .. | .buildSlice .. | .makeSlice .. | .store .. | .call .. => true
  | _ => false

/-- A guard's value is settled. -/
def settle (dst : Option Nat) (s : St) (K : St → Prop) : Prop :=
  match dst with
  | none => K s
  | some d => match envGet s.env d with
    | .v (.one (.ex (.bool β))) => (β = true → K { env := (d, exb true) :: s.env, L := s.L }) ∧ (β = false → K { env := (d, exb false) :: s.env, L := s.L })
    | _ => K s

def isGuard (ops : List Oper) (i : Nat) : Bool := ops.any fun o => match o.guard with
  | some (j, _) => Nat.beq i j
  | none => false

/-- Is the operation carried out? -/
def wants (env : List (Nat × AV)) (ops : List Oper) (o : Oper) : Option Bool :=
  match o.guard with
  | none => some true
  | some (j, b) => match ops[j]? with
    | some oj => match oj.dst with
      | some d => match envGet env d with
        | .v (.one (.ex (.bool β))) => some (β == b)
        | .v (.one (.ex (.tuple _))) => some false
        | _ => none
      | none => none
    | none => none

def vOps (P : Program) (ty : TyT) (n m0 : Nat) (ops : List Oper) : Nat → List Oper → St → (St → Prop) → Prop
  | _, [], s, K => K s
  | i, o :: r, s, K =>
    match wants s.env ops o with
    | some true => vOp P ty n m0 o s fun s' => norm (chg o.op) s' fun s' => bif isGuard ops i then settle o.dst s' (fun s'' => vOps P ty n m0 ops (i + 1) r s'' K) else vOps P ty n m0 ops (i + 1) r s' K
    | some false => bif okDst n o.dst then vOps P ty n m0 ops (i + 1) r { env := envPut s.env o.dst (one (.ex undef)), L := s.L } K else False
    | none => False

section
variable {P : Program} {ty : TyT}

theorem argsOf_sound {σ : List Value} {env : List (Nat × AV)} {a : Act} : ∀ {xs : List Operand} {ys : List A1}, argsOf env xs = some ys → (∀ x ∈ xs, RelV σ (ev env x) (a.eval x)) → RelAs σ ys (xs.map a.eval)
  | [], ys, h, _ => by simp [argsOf] at h; subst h; trivial
  | x :: xs, ys, h, he => by
    simp only [argsOf] at h
    split at h
    · rename_i y hy
      split at h
      · rename_i zs hz
        cases h
        have hx := he x (by simp)
        rw [hy] at hx
        exact ⟨hx, argsOf_sound hz fun z hz => he z (by simp [hz])⟩
      · cases h
    · cases h

theorem ptrArgs_sound {σ : List Value} : ∀ {ks : List Nat} {us : List Value}, RelPs σ ks us → RelAs σ (ptrArgs ks) us
  | [], [], _ => trivial
  | k :: ks, u :: us, ⟨⟨g, h1, h2⟩, h3⟩ => ⟨⟨g, h1, h2⟩, ptrArgs_sound h3⟩
  | [], _ :: _, h => h.elim
  | _ :: _, [], h => h.elim

theorem callOf_sound {env : List (Nat × AV)} {o : Oper} {f : Nat} {args : List A1} (h : callOf env o.op = some (f, args)) {σ : List Value} {a : Act} (he : EvOK σ env a o.op.operands.toList) (w : World) :
    ∃ us, RelAs σ args us ∧ (execOp a.eval o).run P w = (callFunc f us.toArray).run P w := by
  obtain ⟨dst, op, t, p, after, guard⟩ := o
  simp only at h he
  unfold callOf at h
  split at h
  · rename_i fo as ats
    split at h
    · rename_i g fs cs hf
      split at h
      · rename_i xs hxs
        cases h
        have h1 := he fo (by simp [Op.operands, Call.operands])
        rw [hf] at h1
        obtain ⟨us, vs, e1, r1, r2⟩ := h1
        have h2 := argsOf_sound (σ := σ) (a := a) hxs fun x hx => he x (by simp [Op.operands, Call.operands]; right; simpa using hx)
        refine ⟨us ++ as.toList.map a.eval ++ vs, ((ptrArgs_sound r1).app h2).app (ptrArgs_sound r2), ?_⟩
        have : (us ++ as.toList.map a.eval ++ vs).toArray = us.toArray ++ as.map a.eval ++ vs.toArray := by
          apply Array.toList_inj.1; simp
        rw [this]
        simp only [execOp, resolve, e1, Deferred.ofValue, Sem.run_bind, Sem.run_pure, Result.andThen_ok, invoke]
      · cases h
    · cases h
  · cases h

/-- A call by its contract, at the level of an operation. -/
theorem wp_callR {o : Oper} {a : Act} {w : World} {f : Nat} {us : List Value} {R : Value → World → Prop} {next : Act → World → Prop} {Q : Exit → Act → World → Prop} (hrun : (execOp a.eval o).run P w = (callFunc f us.toArray).run P w)
    (hc : CallR P f us w R) (h : ∀ v w', R v w' → next (a.put o.dst v) w') : o.wp P a w next Q := by
  unfold Oper.wp
  rw [hrun]
  rcases hc with ⟨h1, h2⟩ | ⟨v, w', h1, h2⟩
  · rw [h1, Oper.upon_enter]
    refine h2.mono fun e w' ⟨v, he, hr⟩ => ?_
    subst he
    exact h v w' hr
  · rw [h1, Oper.upon_value]
    exact h v w' h2

theorem both_split {φ : Option Prop} {K : Prop} (h : both φ K) : owed φ ∧ K := by
  cases φ with
  | none => exact ⟨trivial, h⟩
  | some p => exact h

variable {w0 : World} {σ0 : List Value} {L0 : List Ent} {n : Nat}

theorem At.ext {s : St} {σ : List Value} {a : Act} {w w' : World} (h : At w0 σ0 L0 n s σ a w) (he : Ext w w') : At w0 σ0 L0 n s σ a w' :=
  ⟨h.sat.ext he, h.fr.trans he.fr, h.env, h.nodef, h.size⟩

theorem At.put {s : St} {σ : List Value} {a : Act} {w : World} (h : At w0 σ0 L0 n s σ a w) {d : Option Nat} (hd : okDst n d = true) {α : AV} {v : Value} (hr : RelV σ α v) :
    At w0 σ0 L0 n { env := envPut s.env d α, L := s.L } σ (a.put d v) w :=
  ⟨h.sat, h.fr, h.env.put h.size hd hr, by rw [put_defers]; exact h.nodef, by rw [put_size]; exact h.size⟩

theorem vOp_sound (hty : TyOK P ty) {o : Oper} {s : St} {K : St → Prop} (h : vOp P ty n σ0.length o s K) {σ : List Value} {a : Act} {w : World} (hA : At w0 σ0 L0 n s σ a w)
    {next : Act → World → Prop} {Q : Exit → Act → World → Prop} (hK : ∀ s' σ' a' w', K s' → At w0 σ0 L0 n s' σ' a' w' → next a' w') : o.wp P a w next Q := by
  unfold vOp at h
  cases hd : okDst n o.dst
  · simp [hd] at h
  simp only [hd, cond_true] at h
  have he : EvOK σ s.env a o.op.operands.toList := fun x _ => hA.env.ev x
  split at h
  · rename_i φ α hq
    obtain ⟨h1, h2⟩ := both_split h
    obtain ⟨v, d, h3, h4⟩ := qOp_sound hty hq h1 hA.sat he
    unfold Oper.wp
    rw [h3, Oper.upon_value]
    exact hK _ _ _ _ h2 ((hA.ext (Ext.drewN w d)).put hd h4)
  · split at h
    · rename_i φ α E hq
      obtain ⟨h1, h2⟩ := both_split h
      obtain ⟨v, u, w', h3, h4, h5, h6, h7⟩ := gOp_sound hty hq h1 hA.sat he
      obtain ⟨p1, p2⟩ := hA.sat.snoc h4 h5 h6
      unfold Oper.wp
      rw [h3, Oper.upon_value]
      refine hK _ _ _ _ h2 ⟨p1, hA.fr.trans p2, (hA.env.pre (Pre.app _ _)).put hA.size hd h7, by rw [put_defers]; exact hA.nodef, by rw [put_size]; exact hA.size⟩
    · split at h
      · rename_i φ s' hq
        obtain ⟨h1, h2⟩ := both_split h
        obtain ⟨v, w', σ', h3, h4⟩ := mOp_sound hty hq h1 hA hd
        unfold Oper.wp
        rcases h3 with h3 | ⟨h3, rfl⟩
        · rw [h3, Oper.upon_value]; exact hK _ _ _ _ h2 h4
        · rw [h3, Oper.upon_skip]; exact hK _ _ _ _ h2 h4
      · split at h
        · rename_i f args hc
          obtain ⟨π, L', ret, ⟨hkeep, hspec⟩, hok, hKs⟩ := vCall_of_A h
          obtain ⟨us, r1, r2⟩ := callOf_sound (P := P) hc he w
          refine wp_callR r2 (hspec w (subσ π σ) us (sub_sat hA.sat hok) (res_relAs r1)) fun v w' ⟨σ', g1, g2, g3⟩ => ?_
          obtain ⟨p1, p2, p3⟩ := merge_sat hA.sat hok hkeep g1 g3
          exact hK _ _ _ _ hKs ⟨p1, hA.fr.trans p2, (hA.env.pre (Pre.app _ _)).put hA.size hd (ren_relV p3 g2), by rw [put_defers]; exact hA.nodef, by rw [put_size]; exact hA.size⟩
        · exact h.elim

theorem settle_sound {dst : Option Nat} {s : St} {K : St → Prop} (h : settle dst s K) {σ : List Value} {a : Act} {w : World} (hA : At w0 σ0 L0 n s σ a w) : ∃ s', K s' ∧ At w0 σ0 L0 n s' σ a w := by
  unfold settle at h
  split at h
  · exact ⟨s, h, hA⟩
  · rename_i d
    split at h
    · rename_i β hb
      have hv := hA.env d
      rw [hb] at hv
      cases β with
      | true =>
        refine ⟨_, h.1 rfl, hA.sat, hA.fr, fun t => ?_, hA.nodef, hA.size⟩
        simp only [envGet]
        cases hdt : Nat.beq d t
        · exact hA.env t
        · have := Nat.eq_of_beq_eq_true hdt; subst this; exact hv
      | false =>
        refine ⟨_, h.2 rfl, hA.sat, hA.fr, fun t => ?_, hA.nodef, hA.size⟩
        simp only [envGet]
        cases hdt : Nat.beq d t
        · exact hA.env t
        · have := Nat.eq_of_beq_eq_true hdt; subst this; exact hv
    · exact ⟨s, h, hA⟩

theorem wants_sound {env : List (Nat × AV)} {ops : List Oper} {o : Oper} {b : Bool} (h : wants env ops o = some b) {σ : List Value} {a : Act} (hr : ∀ (j : Nat) b oj d, o.guard = some (j, b) → ops[j]? = some oj → oj.dst = some d → RelV σ (envGet env d) (a.tmps.getD d undef)) :
    Region.wanted o (yielded ops.toArray a.tmps) = b := by
  unfold wants at h
  unfold Region.wanted
  split at h
  · rename_i hg; cases h; rw [hg]
  · rename_i j b' hg
    rw [hg]
    simp only
    split at h
    · rename_i oj hoj
      split at h
      · rename_i d hd
        have hv := hr j b' oj d hg hoj hd
        split at h
        · rename_i β hβ
          cases h
          rw [hβ] at hv
          have hv : a.tmps.getD d undef = .bool β := hv
          have : yielded ops.toArray a.tmps j = some β := by
            unfold yielded
            simp only [List.getElem?_toArray, hoj, Option.bind_some, hd]
            rw [Array.getD_eq_getD_getElem?] at hv
            cases ht : a.tmps[d]? with
            | none => rw [ht] at hv; cases hv
            | some u => rw [ht] at hv; simp at hv; subst hv; rfl
          rw [this]
          cases β <;> cases b' <;> rfl
        · rename_i us hβ
          cases h
          rw [hβ] at hv
          have hv : a.tmps.getD d undef = .tuple us := hv
          have : yielded ops.toArray a.tmps j = none := by
            unfold yielded
            simp only [List.getElem?_toArray, hoj, Option.bind_some, hd]
            rw [Array.getD_eq_getD_getElem?] at hv
            cases ht : a.tmps[d]? with
            | none => rfl
            | some u => rw [ht] at hv; simp at hv; subst hv; rfl
          rw [this]; rfl
        · cases h
      · cases h
    · cases h

theorem vOps_sound (hty : TyOK P ty) {ops : List Oper} {Q : Exit → Act → World → Prop} {K : St → Prop} (hK : ∀ s' σ' a' w', K s' → At w0 σ0 L0 n s' σ' a' w' → Q .normal a' w') :
    ∀ (r : List Oper) (i : Nat) (s : St) (σ : List Value) (a : Act) (w : World), vOps P ty n σ0.length ops i r s K → At w0 σ0 L0 n s σ a w → wpList P ops.toArray Q r a w
  | [], i, s, σ, a, w, h, hA => hK s σ a w h hA
  | o :: r, i, s, σ, a, w, h, hA => by
    simp only [vOps] at h
    unfold wpList
    split at h
    · rename_i hw
      rw [if_pos (wants_sound hw fun _ _ _ d _ _ _ => hA.env d)]
      left
      refine vOp_sound hty h hA fun s' σ' a' w' hk hA' => ?_
      rw [norm_iff] at hk
      cases hg : isGuard ops i
      · simp only [hg, cond_false] at hk
        exact vOps_sound hty hK r (i + 1) s' σ' a' w' hk hA'
      · simp only [hg, cond_true] at hk
        obtain ⟨s'', hk', hA''⟩ := settle_sound hk hA'
        exact vOps_sound hty hK r (i + 1) s'' σ' a' w' hk' hA''
    · rename_i hw
      rw [if_neg (by rw [wants_sound hw fun _ _ _ d _ _ _ => hA.env d]; simp)]
      cases hd : okDst n o.dst
      · simp [hd] at h
      · simp only [hd, cond_true] at h
        exact vOps_sound hty hK r (i + 1) _ σ _ w h (hA.put hd (α := one (.ex undef)) rfl)
    · exact h.elim

end
end
end Go.AX
