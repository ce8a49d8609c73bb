/- A symbolic walk over the code of one function, and that it tells no more than the model does: no condition. -/
import Derived.Test.YtfhgggjpdimaoaaSqAxH
import Derived.Orders
set_option linter.unusedVariables false
set_option linter.unusedSimpArgs false
namespace Go.AX
noncomputable section
open Go.RowKit

/-! ## Regions whose order is open -/

def callLike : Op → Bool
  | .alloc _ | .box .. | .buildSlice .. | .makeSlice .. => true
  | .call { callee := .value _, .. } => true
  | .call { callee := .builtin .append, .. } => true
  | _ => false

/-- A call that only makes memory. -/
def vCallG (P : Program) (f : FuncId) (args : List A1) (s : St) (dst : Option Nat) (K : St → Prop) : Prop :=
  natsFo (clo s.L 60 [] (args.flatMap A1.refs)) fun π => lFo (subL π s.L) fun Lc => asFo (args.map (A1.res π)) fun as =>
    okPi π s.L = true ∧ ∃ (N : List Ent) (ret : AV), Spec P f Lc as (Lc ++ N) ret ∧
    merge (gmap π s.L.length) π s.L (Lc ++ N) = s.L ++ N.map (Ent.ren (gmap π s.L.length)) ∧
    K { env := envPut s.env dst (ret.ren (gmap π s.L.length)), L := s.L ++ N.map (Ent.ren (gmap π s.L.length)) }
theorem vCallG_spec {P : Program} {f : FuncId} {args : List A1} {s : St} {dst : Option Nat} {K : St → Prop} (h : vCallG P f args s dst K) :
    ∃ (π : List Nat) (N : List Ent) (ret : AV), Spec P f (subL π s.L) (args.map (A1.res π)) (subL π s.L ++ N) ret ∧ okPi π s.L = true ∧
    merge (gmap π s.L.length) π s.L (subL π s.L ++ N) = s.L ++ N.map (Ent.ren (gmap π s.L.length)) ∧
    K { env := envPut s.env dst (ret.ren (gmap π s.L.length)), L := s.L ++ N.map (Ent.ren (gmap π s.L.length)) } := by
  unfold vCallG at h
  simp only [natsFo_iff, lFo_iff, asFo_iff] at h
  obtain ⟨h1, N, ret, h2, h3, h4⟩ := h
  exact ⟨_, N, ret, h2, h1, h3, h4⟩

def vStep (P : Program) (ty : TyT) (n : Nat) (o : Oper) (s : St) (K : St → Prop) : Prop :=
  bif okDst n o.dst then
    bif callLike o.op then
      match gOp ty s.env s.L o.op with
      | some (φ, α, E) => both φ (K { env := envPut s.env o.dst α, L := s.L ++ [E] })
      | none => match callOf s.env o.op with
        | some (f, args) => vCallG P f args s o.dst K
        | none => False
    else match qOp ty s.env s.L o.op with
      | some (φ, α) => both φ (K { env := envPut s.env o.dst α, L := s.L })
      | none => False
  else False

def vHead (P : Program) (ty : TyT) (n : Nat) (ops : List Oper) : List Nat → St → (St → Prop) → Prop
  | [], s, K => K s
  | i :: c, s, K =>
    match ops[i]? with
    | none => False
    | some o => match wants s.env ops o with
      | some true => vStep P ty n o s fun s' => norm (callLike o.op) s' fun s' => bif isGuard ops i then settle o.dst s' (fun s'' => vHead P ty n ops c s'' K) else vHead P ty n ops c s' K
      | some false => bif okDst n o.dst then vHead P ty n ops c { env := envPut s.env o.dst (one (.ex undef)), L := s.L } K else False
      | none => False

def reach (ops : List Oper) : Nat → Nat → Nat → Bool
  | 0, _, _ => false
  | f + 1, i, j => match ops[i]? with
    | some o => o.after.toList.any fun e => Region.binds .any e && (Nat.beq e.on j || reach ops f e.on j)
    | none => false

def dep (ops : List Oper) (i j : Nat) : Bool :=
  match ops[i]? with
  | some o => o.after.toList.any fun e => Region.binds .any e && Nat.beq e.on j
  | none => false

/-- The temporaries that an operation looks at. -/
def looks (ops : List Oper) (o : Oper) : List Nat :=
  (o.op.operands.toList.filterMap fun | .tmp t => some t | _ => none) ++
  (match o.guard with
   | some (g, _) => match ops[g]? with
     | some og => og.dst.toList
     | none => []
   | none => [])

def isCall (ops : List Oper) (i : Nat) : Bool := match ops[i]? with
  | some o => callLike o.op
  | none => false

def noDup : List Nat → Bool
  | [] => true
  | x :: r => !(r.contains x) && noDup r

/-- Of two operations of the head, one of which writes what the other looks at: the order of the list is the order of every run. -/
def okPair (ops : List Oper) (before : Bool) (i j : Nat) : Bool :=
  match ops[i]?, ops[j]? with
  | some oi, some oj =>
    (match oj.dst with
     | some d => !((looks ops oi).contains d) || (bif before then dep ops i j else dep ops j i)
     | none => true) &&
    (match oi.dst, oj.dst with
     | some d, some d' => !(Nat.beq d d')
     | _, _ => true)
  | _, _ => false

/-- 'seen' stands before i, 'rest' behind. -/
def okOrder (ops : List Oper) (fuel : Nat) : List Nat → List Nat → Bool
  | _, [] => true
  | seen, i :: rest =>
    seen.all (fun j => okPair ops true i j && (!(isCall ops j) || reach ops fuel i j)) && rest.all (fun j => okPair ops false i j) && okOrder ops fuel (i :: seen) rest

def okDraw (ops : List Oper) (nh : Nat) (c : List Nat) : Bool :=
  Nat.beq c.length nh && Nat.ble nh ops.length && noDup c && c.all (fun i => Nat.blt i nh) && (List.range nh).all (fun i => c.contains i) && okOrder ops ops.length [] c &&
  (List.range ops.length).all (fun i => match ops[i]? with
    | some o => o.after.toList.all fun e => !(Region.binds .any e) || Nat.blt e.on i
    | none => true) &&
  (bif Nat.blt nh ops.length then (List.range nh).all (fun i => reach ops ops.length nh i) else true) &&
  (List.range ops.length).all (fun k => !(Nat.blt nh k) || dep ops k (k - 1))

def vDraw (P : Program) (ty : TyT) (n m0 : Nat) (ops : List Oper) (nh : Nat) (c : List Nat) (s : St) (K : St → Prop) : Prop :=
  okDraw ops nh c = true ∧ vHead P ty n ops c s fun s' => vOps P ty n m0 ops nh (ops.drop nh) s' K

section
variable {P : Program} {ty : TyT} {w0 : World} {σ0 : List Value} {L0 : List Ent} {n : Nat}

/-- No array that is only lent. -/
def notB : Ent → Bool
  | .arr false _ _ => false
  | _ => true
def notBs (N : List Ent) : Bool := N.all notB
theorem gOp_notB {env : List (Nat × AV)} {L : List Ent} {op : Op} {φ : Option Prop} {α : AV} {E : Ent} (h : gOp ty env L op = some (φ, α, E)) : notB E = true := by
  unfold gOp at h
  simp only [Bool.cond_eq_ite] at h
  repeat' split at h
  all_goals first
    | (cases h; done)
    | (cases h; rfl)
theorem notB_ren (g : Nat → Nat) (E : Ent) : notB (E.ren g) = notB E := by cases E <;> rfl
theorem keeps_notBs {L N : List Ent} (h : Keeps L (L ++ N)) (g : Nat → Nat) : notBs (N.map (Ent.ren g)) = true := by
  obtain ⟨_, _, h3⟩ := keeps_spec h
  unfold notBs
  rw [List.all_eq_true]
  intro E hE
  obtain ⟨E0, hE0, rfl⟩ := List.mem_map.1 hE
  rw [notB_ren]
  obtain ⟨j, hj⟩ := List.getElem?_of_mem hE0
  cases E0 with
  | dead => rfl
  | var T cs => rfl
  | arr own T D =>
    cases own with
    | true => rfl
    | false =>
      refine absurd ?_ (h3 (L.length + j) T D (by omega))
      rw [List.getElem?_append_right (by omega)]
      simpa using hj

/-- What is owed of one operation of a head: at whatever point of a run it comes up. -/
def StepOK (P : Program) (n : Nat) (ops : List Oper) (o : Oper) (s : St) (α : AV) (N : List Ent) : Prop :=
  okDst n o.dst = true ∧
  (callLike o.op = false → N = [] ∧ ∀ (X : List Ent) (σ : List Value) (a : Act) (w : World), SatL σ (s.L ++ X) w → (∀ t, t ∈ looks ops o → RelV σ (envGet s.env t) (a.tmps.getD t undef)) →
    (Region.wanted o (yielded ops.toArray a.tmps) = false ∧ α = one (.ex undef)) ∨ (Region.wanted o (yielded ops.toArray a.tmps) = true ∧ Runs P o a σ w α)) ∧
  (callLike o.op = true → ∀ (σ : List Value) (a : Act) (w : World), SatL σ s.L w → (∀ t, t ∈ looks ops o → RelV σ (envGet s.env t) (a.tmps.getD t undef)) →
    (Region.wanted o (yielded ops.toArray a.tmps) = false ∧ α = one (.ex undef) ∧ N = []) ∨
    (Region.wanted o (yielded ops.toArray a.tmps) = true ∧
      ∀ (next : Act → World → Prop) (Q : Exit → Act → World → Prop), (∀ v τ w', SatL (σ ++ τ) (s.L ++ N) w' → Fr w σ s.L w' (σ ++ τ) (s.L ++ N) → RelV (σ ++ τ) α v → next (a.put o.dst v) w') → o.wp P a w next Q)) ∧ notBs N = true

theorem get_app {L X : List Ent} {k : Nat} {E : Ent} (h : L[k]? = some E) : (L ++ X)[k]? = some E := by
  rw [List.getElem?_append_left (List.getElem?_eq_some_iff.1 h).1]; exact h

theorem qLoad_mono {L X : List Ent} {T : TypeId} {x : AV} {r : Option Prop × AV} (h : qLoad ty L T x = some r) : qLoad ty (L ++ X) T x = some r := by
  unfold qLoad at h ⊢
  split at h
  · split at h
    · rename_i hL
      simp only [get_app hL]; exact h
    · cases h
  · split at h
    · rename_i hL
      simp only [get_app hL]; exact h
    · cases h
  · cases h

theorem qIndexAddr_mono {L X : List Ent} {T : TypeId} {x i : AV} {r : Option Prop × AV} (h : qIndexAddr ty L T x i = some r) : qIndexAddr ty (L ++ X) T x i = some r := by
  unfold qIndexAddr at h ⊢
  split at h
  · split at h
    · rename_i he hL
      simp only [he, get_app hL]; exact h
    · cases h
  · exact h
  · exact h
  · cases h

theorem qLen_mono {L X : List Ent} {x : AV} {r : Option Prop × AV} (h : qLen L x = some r) : qLen (L ++ X) x = some r := by
  unfold qLen at h ⊢
  split at h
  · split at h
    · rename_i hL
      simp only [get_app hL]; exact h
    · cases h
  · exact h
  · exact h
  · exact h
  · cases h

theorem qCmp_mono {L X : List Ent} {op : BinOp} {T : TypeId} {x y : AV} {r : Option Prop × AV} (h : qCmp ty L op T x y = some r) : qCmp ty (L ++ X) op T x y = some r := by
  unfold qCmp at h ⊢
  split at h
  · split at h
    · rename_i hT hL
      simp only [hT, get_app hL]; exact h
    · cases h
  · exact h

theorem qOp_mono {env : List (Nat × AV)} {L X : List Ent} {op : Op} {r : Option Prop × AV} (h : qOp ty env L op = some r) : qOp ty env (L ++ X) op = some r := by
  unfold qOp at h ⊢
  split at h
  all_goals first
    | exact h
    | exact qLoad_mono h
    | exact qIndexAddr_mono h
    | exact qCmp_mono h
    | (split at h
       · rename_i hx hT
         cases hb : isSli ty _
         · simp [hb] at h
         · simp only [hb, cond_true] at h ⊢; exact qLen_mono h
       · cases h)

theorem mem_looks {ops : List Oper} {o : Oper} {x : Operand} (hx : x ∈ o.op.operands.toList) {t : Nat} (h : x = .tmp t) : t ∈ looks ops o := by
  subst h
  unfold looks
  rw [List.mem_append]; left
  rw [List.mem_filterMap]
  exact ⟨_, hx, rfl⟩

theorem evOK_of_looks {ops : List Oper} {o : Oper} {σ : List Value} {env : List (Nat × AV)} {a : Act} (h : ∀ t, t ∈ looks ops o → RelV σ (envGet env t) (a.tmps.getD t undef)) : EvOK σ env a o.op.operands.toList := by
  intro x hx
  cases x with
  | tmp t => exact h t (mem_looks hx rfl)
  | const v => exact rel_cst σ v
  | func f => exact ⟨[], [], rfl, trivial, trivial⟩
  | global g => exact trivial

theorem guard_looks {ops : List Oper} {o : Oper} {σ : List Value} {env : List (Nat × AV)} {a : Act} (h : ∀ t, t ∈ looks ops o → RelV σ (envGet env t) (a.tmps.getD t undef)) :
    ∀ (j : Nat) b oj d, o.guard = some (j, b) → ops[j]? = some oj → oj.dst = some d → RelV σ (envGet env d) (a.tmps.getD d undef) := by
  intro j b oj d hg hj hd
  refine h d ?_
  unfold looks
  rw [List.mem_append]; right
  rw [hg]; simp only [hj, hd]; simp

theorem relV_settled {σ : List Value} {d : Nat} {env : List (Nat × AV)} {v : Value} {β b : Bool} (hb : envGet env d = exb β) (he : β = b) (hv : RelV σ (envGet env d) v) : RelV σ (exb b) v := by
  subst he; rw [hb] at hv; exact hv

/-- What a settled guard leaves of a step. -/
theorem settle_trace {dst : Option Nat} {env : List (Nat × AV)} {α : AV} {L : List Ent} {K : St → Prop} (h : settle dst { env := envPut env dst α, L := L } K) :
    K { env := envPut env dst α, L := L } ∨ ∃ (d : Nat) (b : Bool), dst = some d ∧ α = exb b ∧ K { env := (d, exb b) :: envPut env dst α, L := L } := by
  unfold settle at h
  split at h
  · exact .inl h
  · rename_i d
    split at h
    · rename_i β hb
      right
      have : α = exb β := by simpa [envPut, envGet] using hb
      cases β with
      | true => exact ⟨d, true, rfl, this, h.1 rfl⟩
      | false => exact ⟨d, false, rfl, this, h.2 rfl⟩
    · exact .inl h

theorem vStep_sound (hty : TyOK P ty) {ops : List Oper} {o : Oper} {s : St} {K : St → Prop} (hw : wants s.env ops o = some true) (h : vStep P ty n o s K) :
    ∃ α N, StepOK P n ops o s α N ∧ K { env := envPut s.env o.dst α, L := s.L ++ N } := by
  unfold vStep at h
  cases hd : okDst n o.dst
  · simp [hd] at h
  simp only [hd, cond_true] at h
  cases hcl : callLike o.op
  · simp only [hcl, cond_false] at h
    split at h
    · rename_i φ α hq
      obtain ⟨h1, h2⟩ := both_split h
      refine ⟨α, [], ⟨hd, fun _ => ⟨rfl, fun X σ a w hs hl => .inr ⟨wants_sound hw (guard_looks hl), qOp_sound hty (qOp_mono hq) h1 hs (evOK_of_looks hl)⟩⟩, fun h => (by rw [hcl] at h; cases h), rfl⟩, by simpa using h2⟩
    · exact h.elim
  · simp only [hcl, cond_true] at h
    split at h
    · rename_i φ α E hq
      obtain ⟨h1, h2⟩ := both_split h
      refine ⟨α, [E], ⟨hd, fun h => (by rw [hcl] at h; cases h), fun _ σ a w hs hl => .inr ⟨wants_sound hw (guard_looks hl), fun next Q hn => ?_⟩, by simp [notBs, gOp_notB hq]⟩, h2⟩
      obtain ⟨v, u, w', h3, h4, h5, h6, h7⟩ := gOp_sound hty hq h1 hs (evOK_of_looks hl)
      obtain ⟨p1, p2⟩ := hs.snoc h4 h5 h6
      unfold Oper.wp
      rw [h3, Oper.upon_value]
      exact hn v [u] w' p1 p2 h7
    · split at h
      · rename_i f args hc
        obtain ⟨π, N, ret, ⟨hkeep, hspec⟩, hok, hm, hKs⟩ := vCallG_spec h
        refine ⟨_, _, ⟨hd, fun h => (by rw [hcl] at h; cases h), fun _ σ a w hs hl => .inr ⟨wants_sound hw (guard_looks hl), fun next Q hn => ?_⟩, keeps_notBs hkeep _⟩, hKs⟩
        obtain ⟨us, r1, r2⟩ := callOf_sound (P := P) hc (evOK_of_looks hl) w
        refine wp_callR r2 (hspec w (subσ π σ) us (sub_sat hs hok) (res_relAs r1)) fun v w' ⟨σ', g1, g2, g3⟩ => ?_
        obtain ⟨p1, p2, p3⟩ := merge_sat hs hok hkeep g1 g3
        rw [hm] at p1 p2
        exact hn v _ w' p1 p2 (ren_relV p3 g2)
      · exact h.elim

theorem envGet_dup (d t : Nat) (α : AV) (env : List (Nat × AV)) : envGet ((d, α) :: (d, α) :: env) t = envGet ((d, α) :: env) t := by
  simp only [envGet]; cases Nat.beq d t <;> rfl

/-- Two lists that tell the same of every temporary. -/
def EnvEq (e e' : List (Nat × AV)) : Prop := ∀ t, envGet e t = envGet e' t

/-- A head that goes through: step by step. -/
def Trace (P : Program) (n : Nat) (ops : List Oper) (c : List Nat) (s : St) (K : St → Prop) : Prop :=
  ∃ (ss : Nat → St) (αs : Nat → AV) (Ns : Nat → List Ent), ss 0 = s ∧ (∃ sf, EnvEq sf.env (ss c.length).env ∧ sf.L = (ss c.length).L ∧ K sf) ∧
    ∀ (m i : Nat), c[m]? = some i → ∃ o, ops[i]? = some o ∧ StepOK P n ops o (ss m) (αs m) (Ns m) ∧ (ss (m + 1)).L = (ss m).L ++ Ns m ∧ EnvEq (ss (m + 1)).env (envPut (ss m).env o.dst (αs m))

theorem trace_cons {ops : List Oper} {i : Nat} {c : List Nat} {s s1 : St} {K : St → Prop} {o : Oper} {α : AV} {N : List Ent} (ho : ops[i]? = some o) (hst : StepOK P n ops o s α N) (hL : s1.L = s.L ++ N) (hE : EnvEq s1.env (envPut s.env o.dst α))
    (h : Trace P n ops c s1 K) : Trace P n ops (i :: c) s K := by
  obtain ⟨ss, αs, Ns, h0, hf, hs⟩ := h
  refine ⟨fun m => match m with | 0 => s | m + 1 => ss m, fun m => match m with | 0 => α | m + 1 => αs m, fun m => match m with | 0 => N | m + 1 => Ns m, rfl, by simpa using hf, fun m j hm => ?_⟩
  cases m with
  | zero =>
    simp at hm; subst hm
    simp only [h0]
    exact ⟨o, ho, hst, hL, hE⟩
  | succ m => simp at hm; exact hs m j hm

theorem vHead_trace (hty : TyOK P ty) {ops : List Oper} : ∀ (c : List Nat) (s : St) (K : St → Prop), vHead P ty n ops c s K → Trace P n ops c s K
  | [], s, K, h => ⟨fun _ => s, fun _ => one .any, fun _ => [], rfl, ⟨s, fun _ => rfl, rfl, h⟩, fun m i hm => by simp at hm⟩
  | i :: c, s, K, h => by
    simp only [vHead] at h
    split at h
    · exact h.elim
    · rename_i o ho
      split at h
      · rename_i hw
        obtain ⟨α, N, hst, hk⟩ := vStep_sound hty hw h
        rw [norm_iff] at hk
        cases hg : isGuard ops i
        · simp only [hg, cond_false] at hk
          exact trace_cons ho hst rfl (fun _ => rfl) (vHead_trace hty c _ K hk)
        · simp only [hg, cond_true] at hk
          rcases settle_trace hk with hk | ⟨d, b, hd, hα, hk⟩
          · exact trace_cons ho hst rfl (fun _ => rfl) (vHead_trace hty c _ K hk)
          · refine trace_cons ho hst rfl (fun t => ?_) (vHead_trace hty c _ K hk)
            rw [hd, hα]
            exact envGet_dup d t (exb b) s.env
      · rename_i hw
        cases hd : okDst n o.dst
        · simp [hd] at h
        · simp only [hd, cond_true] at h
          refine trace_cons (α := one (.ex undef)) (N := []) ho ⟨hd, fun _ => ⟨rfl, fun X σ a w hs hl => .inl ⟨wants_sound hw (guard_looks hl), rfl⟩⟩, fun _ σ a w hs hl => .inl ⟨wants_sound hw (guard_looks hl), rfl, rfl⟩, rfl⟩ (by simp) (fun _ => rfl) (vHead_trace hty c _ K h)
      · exact h.elim

theorem envGet_put_ne {env : List (Nat × AV)} {d : Option Nat} {α : AV} {t : Nat} (h : d ≠ some t) : envGet (envPut env d α) t = envGet env t := by
  cases d with
  | none => rfl
  | some d =>
    simp only [envPut, envGet]
    have : Nat.beq d t = false := by
      cases hb : Nat.beq d t
      · rfl
      · exact absurd (congrArg some (Nat.eq_of_beq_eq_true hb)) h
    rw [this]; rfl
theorem envGet_put_eq {env : List (Nat × AV)} {α : AV} {t : Nat} : envGet (envPut env (some t) α) t = α := by
  simp [envPut, envGet]

def Closed (ops : List Oper) (listed : Array Bool) : Prop := ∀ (i : Nat) o, ops[i]? = some o → listed.getD i false = true → ∀ e ∈ o.after, Region.binds .any e = true → listed.getD e.on false = true

theorem reach_listed {ops : List Oper} {listed : Array Bool} (hc : Closed ops listed) : ∀ (f i j : Nat), reach ops f i j = true → (∀ o, ops[i]? = some o → ∀ e ∈ o.after, Region.binds .any e = true → listed.getD e.on false = true) → listed.getD j false = true
  | 0, _, _, h, _ => by simp [reach] at h
  | f + 1, i, j, h, hd => by
    simp only [reach] at h
    split at h
    · rename_i o ho
      obtain ⟨e, he, h2⟩ := List.any_eq_true.1 h
      simp only [Bool.and_eq_true, Bool.or_eq_true] at h2
      have hl := hd o ho e (by simpa using he) h2.1
      rcases h2.2 with h3 | h3
      · have := Nat.eq_of_beq_eq_true h3; subst this; exact hl
      · exact reach_listed hc f e.on j h3 fun o' ho' => hc e.on o' ho' hl
    · cases h

theorem dep_listed {ops : List Oper} {listed : Array Bool} {i j : Nat} (h : dep ops i j = true) (hd : ∀ o, ops[i]? = some o → ∀ e ∈ o.after, Region.binds .any e = true → listed.getD e.on false = true) : listed.getD j false = true := by
  unfold dep at h
  split at h
  · rename_i o ho
    obtain ⟨e, he, h2⟩ := List.any_eq_true.1 h
    simp only [Bool.and_eq_true] at h2
    have hl := hd o ho e (by simpa using he) h2.1
    have := Nat.eq_of_beq_eq_true h2.2; subst this; exact hl
  · cases h

theorem okOrder_get {ops : List Oper} {f : Nat} : ∀ {rest seen : List Nat}, okOrder ops f seen rest = true → ∀ (m i : Nat), rest[m]? = some i →
    (∀ j, j ∈ seen ∨ (∃ m', m' < m ∧ rest[m']? = some j) → okPair ops true i j = true ∧ (isCall ops j = true → reach ops f i j = true)) ∧
    (∀ m' j, m < m' → rest[m']? = some j → okPair ops false i j = true)
  | [], seen, _, m, i, h => by simp at h
  | i0 :: rest, seen, h, m, i, hi => by
    simp only [okOrder, Bool.and_eq_true] at h
    obtain ⟨⟨h1, h2⟩, h3⟩ := h
    cases m with
    | zero =>
      simp at hi; subst hi
      refine ⟨fun j hj => ?_, fun m' j hm hj => ?_⟩
      · rcases hj with hj | ⟨m', hm, _⟩
        · have := List.all_eq_true.1 h1 j hj
          simp only [Bool.and_eq_true, Bool.or_eq_true] at this
          refine ⟨this.1, fun hc => ?_⟩
          rcases this.2 with h4 | h4
          · simp [hc] at h4
          · exact h4
        · omega
      · cases m' with
        | zero => omega
        | succ m' => simp at hj; exact List.all_eq_true.1 h2 j (List.mem_of_getElem? hj)
    | succ m =>
      simp at hi
      obtain ⟨g1, g2⟩ := okOrder_get h3 m i hi
      refine ⟨fun j hj => ?_, fun m' j hm hj => ?_⟩
      · apply g1
        rcases hj with hj | ⟨m', hm, hj⟩
        · left; simp [hj]
        · cases m' with
          | zero => simp at hj; left; simp [hj]
          | succ m' => right; exact ⟨m', by omega, by simpa using hj⟩
      · cases m' with
        | zero => omega
        | succ m' => exact g2 m' j (by omega) (by simpa using hj)

theorem noDup_spec : ∀ {l : List Nat}, noDup l = true → ∀ (i j x : Nat), l[i]? = some x → l[j]? = some x → i = j
  | [], _, i, j, x, h, _ => by simp at h
  | y :: l, h, i, j, x, hi, hj => by
    simp only [noDup, Bool.and_eq_true] at h
    have hn : ∀ k : Nat, l[k]? ≠ some y := fun k hk => by
      have := List.mem_of_getElem? hk
      simp [this] at h
    cases i with
    | zero =>
      cases j with
      | zero => rfl
      | succ j => simp at hi hj; subst hi; exact absurd hj (hn j)
    | succ i =>
      cases j with
      | zero => simp at hi hj; subst hj; exact absurd hi (hn i)
      | succ j => simp at hi hj; rw [noDup_spec h.2 i j x hi hj]

end
end
end Go.AX
