/- What the functions of this program do, one contract a function, by that walk: each under what its own statement says. -/
import Derived.Test.YtfhgggjpdimaoaaSqE1
import Derived.Test.YtfhgggjpdimaoaaSqAyD
set_option linter.unusedVariables false
set_option linter.unusedSimpArgs false
namespace Go.AX
noncomputable section
open Go.RowKit Go.Proofs
set_option maxRecDepth 100000
set_option maxHeartbeats 4000000
open Go

theorem elem35 : Try.prog.elem 35 = 23 := by
  have hu : Try.prog.underlying 35 = some (.slice 23) := Try.underlying35
  simp [Program.elem, hu]

theorem k_row {id : Nat} {ops : Array Oper} {pre : List Oper} {n m0 : Nat} {y1 y2 y3 y4 y5 : TypeId} {p1 p2 p3 p4 p5 : String} {a1 a2 a3 a4 a5 : Array Edge} {at2 : Array TypeId} {N : St → Prop} {X : Nat → St → Prop} {R : St → Prop}
    (hops : ops.toList = pre ++ [⟨some 57, .slice 35 (.tmp 49) (some (.tmp 52)) (some (.tmp 56)) none, y1, p1, a1, none⟩, ⟨some 58, .call { callee := .value (.func 53), args := #[.tmp 57], argTypes := at2 }, y2, p2, a2, none⟩,
      ⟨some 59, .buildSlice 74 1 #[(0, .tmp 58)], y3, p3, a3, none⟩, ⟨some 60, .call { callee := .builtin .append, args := #[.tmp 48, .tmp 59], argTypes := #[74, 74] }, y4, p4, a4, none⟩, ⟨some 7, .assign (.tmp 60), y5, p5, a5, none⟩])
    {env : List (Nat × AV)} {l0 l1 l2 l3 : List Nat} {M : List (List Nat)} {x K : Nat} (hx : M.length + x ≤ maxLen) (hM : M.length ≤ 1000) (hK : 0 < K) (hK2 : K ≤ 1000) (hn : 61 ≤ n) (hm0 : m0 ≤ 4)
    (h : vOps Try.prog ty n m0 ops.toList 0 pre ⟨env, full l0 l1 l2 l3 M x⟩ (fun s' => ∃ lo : Nat, s'.L = full l0 l1 l2 l3 M x ∧ envGet s'.env 48 = one (.sw 4 M.length (M.length + x)) ∧ envGet s'.env 49 = one (.sl 0) ∧ envGet s'.env 52 = exi .i64 (lo : Int) ∧ envGet s'.env 56 = exi .i64 ((lo + K : Nat) : Int) ∧ lo + K ≤ l0.length ∧
      ∀ x', M.length + 1 + x' ≤ maxLen → N ⟨(7, one (.sw 4 (M.length + 1) (M.length + 1 + x'))) :: (60, one .any) :: (59, one .any) :: (58, one .any) :: (57, one .any) :: envKill 4 s'.env, full l0 l1 l2 l3 (M ++ [(l0.drop lo).take K]) x'⟩)) :
    CodeOK Try.prog n m0 (.region id ops false) ⟨env, full l0 l1 l2 l3 M x⟩ N X R := by
  intro w0 σ0 L0 Q hl hN hX hR σ a w hA
  refine wp_region_list ?_
  have key := vOps_app (P := Try.prog) (w0 := w0) (σ0 := σ0) (L0 := L0) (Q := Q) tyOK (ops := ops.toList) (r2 := [⟨some 57, .slice 35 (.tmp 49) (some (.tmp 52)) (some (.tmp 56)) none, y1, p1, a1, none⟩, ⟨some 58, .call { callee := .value (.func 53), args := #[.tmp 57], argTypes := at2 }, y2, p2, a2, none⟩,
      ⟨some 59, .buildSlice 74 1 #[(0, .tmp 58)], y3, p3, a3, none⟩, ⟨some 60, .call { callee := .builtin .append, args := #[.tmp 48, .tmp 59], argTypes := #[74, 74] }, y4, p4, a4, none⟩, ⟨some 7, .assign (.tmp 60), y5, p5, a5, none⟩]) (fun s1 σ1 b1 w1 hK1 hA1 => ?_) pre 0 _ σ a w (by rw [hl]; exact h) hA
  · rw [← hops] at key
    simpa using key
  obtain ⟨lo, hsL, e48, e49, e52, e56, hlo, hN'⟩ := hK1
  have hsat := hA1.sat
  have hfr := hA1.fr
  rw [hsL] at hsat hfr
  have v48 := hA1.env 48
  have v49 := hA1.env 49
  have v52 := hA1.env 52
  have v56 := hA1.env 56
  rw [e48] at v48; rw [e49] at v49; rw [e52] at v52; rw [e56] at v56
  obtain ⟨g, hg4, hv48⟩ := v48
  obtain ⟨h49, hsl49⟩ := v49
  have v52 : b1.tmps.getD 52 undef = .int .i64 (lo : Int) := v52
  have v56 : b1.tmps.getD 56 undef = .int .i64 ((lo + K : Nat) : Int) := v56
  have hV := hsat.ok 4 (.var 35 (lnk M.length x)) (at0 g) rfl hg4
  obtain ⟨g', us0, hgg, hheap, hrel⟩ := hV
  have hgg : g = g' := by simp [at0] at hgg; exact hgg
  subst hgg
  have hus : us0.length = M.length + x := by rw [← hrel.len, lnk_len]
  have hE0 := hsat.ok 0 (rowE l0) _ rfl h49
  have hrd : Reads w1 _ (.f l0) := hE0.reads
  obtain ⟨us49, how, _⟩ := hE0
  obtain ⟨A0, c0, hv49, hread⟩ := drop_reads hrd hlo hK
  obtain ⟨cap, hcap1, hcap2, hv49'⟩ : ∃ cap, l0.length ≤ cap ∧ cap ≤ maxLen ∧ b1.tmps.getD 49 undef = .slice (some A0) l0.length cap := by
    rcases how.2 with ⟨h1, h2⟩ | ⟨g0, cap, cur, h1, h2, h3, h4, h5, h6⟩
    · rw [h1] at hv49; cases hv49
    · have h1 : b1.tmps.getD 49 undef = .slice (some ⟨g0, 0, none⟩) l0.length cap := h1
      rw [h1] at hv49
      injection hv49 with e1 e2 e3
      exact ⟨cap, h4, h5, by rw [h1, e1]⟩
  -- the part
  have i57 : (execOp b1.eval ⟨some 57, .slice 35 (.tmp 49) (some (.tmp 52)) (some (.tmp 56)) none, y1, p1, a1, none⟩).run Try.prog w1 = .ok (.value (.slice (some (A0.add lo)) K (cap - lo))) w1 := by
    have hu : Try.prog.underlying 35 = some (.slice (Try.prog.elem 35)) := by rw [elem35]; exact Try.underlying35
    have hsz : (sizeOf (Try.prog.elem 35)).run Try.prog w1 = .ok 1 w1 := by
      rw [elem35]
      obtain ⟨⟨i, z, g1, g2, _⟩, _⟩ := tyOK 23 _ rfl
      simp [sizeOf, typeInfo, g1]; exact g2
    have r := run_slice_lh (P := Try.prog) w1 35 (some A0) l0.length cap hu .i64 .i64 (lo : Int) ((lo + K : Nat) : Int) (by omega) (by omega) (by omega)
    rw [hsz] at r
    have e : (Instr.sliceAt 35 (b1.eval (.tmp 49)) (some (b1.eval (.tmp 52))) (some (b1.eval (.tmp 56))) none).run Try.prog w1 = .ok (.slice (some (A0.add lo)) K (cap - lo)) w1 := by
      rw [run_sliceAt_slice w1 35 _ _ _ _ hu]
      show (Instr.slice 35 (b1.tmps.getD 49 undef) (some (b1.tmps.getD 52 undef)) (some (b1.tmps.getD 56 undef)) none).run Try.prog w1 = _
      rw [hv49', v52, v56, r]
      simp only [Result.andThen_ok, sliced, Int.toNat_natCast]
      rw [if_neg (by omega)]
      simp
    simp only [execOp, Option.map_some, Option.map_none, Sem.run_bind, e, Result.andThen_ok, Sem.run_pure]
  refine wpList_plain rfl fun K1 hK1 => ?_
  unfold Oper.wp
  rw [i57, Oper.upon_value]
  refine hK1 _ _ ?_
  -- the clone
  have hwl : ((l0.drop lo).take K).length = K := by simp; omega
  have h57 : (b1.put (some 57) (.slice (some (A0.add lo)) K (cap - lo))).tmps.getD 57 undef = .slice (some (A0.add lo)) K (cap - lo) := put_getD_eq (by rw [hA1.size]; omega)
  have hs57 : SatL [.slice (some (A0.add lo)) K (cap - lo)] [.arr false 23 (.f ((l0.drop lo).take K))] w1 := by
    refine ⟨rfl, fun i E v hi hv => ?_, fun i j Ei Ej vi vj b hij hi hvi hj hvj ho => ?_⟩
    · match i with
      | 0 => simp at hi hv; subst hi; subst hv; exact hread _ (by omega)
      | i + 1 => simp at hi
    · match i, j with
      | 0, 0 => exact absurd rfl hij
      | 0, j + 1 => simp at hj
      | i + 1, _ => simp at hi
  refine wpList_plain rfl fun K2 hK2' => ?_
  have hev : EvOK [.slice (some (A0.add lo)) K (cap - lo)] [(57, one (.sl 0))] (b1.put (some 57) (.slice (some (A0.add lo)) K (cap - lo))) (Op.call { callee := .value (.func 53), args := #[.tmp 57], argTypes := at2 }).operands.toList := by
    intro z hz
    simp [Op.operands, Call.operands] at hz
    rcases hz with rfl | rfl
    · exact ⟨[], [], rfl, trivial, trivial⟩
    · exact ⟨by show _ = some ((b1.put (some 57) (.slice (some (A0.add lo)) K (cap - lo))).tmps.getD 57 undef); rw [h57]; rfl, by show isSl ((b1.put (some 57) (.slice (some (A0.add lo)) K (cap - lo))).tmps.getD 57 undef) = true; rw [h57]; rfl⟩
  obtain ⟨us, r1, r2⟩ := callOf_sound (P := Try.prog) (o := ⟨some 58, .call { callee := .value (.func 53), args := #[.tmp 57], argTypes := at2 }, y2, p2, a2, none⟩) (env := [(57, one (.sl 0))]) (f := 53) (args := [.one (.sl 0)]) rfl hev w1
  refine wp_callR r2 ((s53 false ((l0.drop lo).take K) (by omega) (by omega)).2 w1 _ us hs57 r1) fun v w2 ⟨σ2, g1, g2, g3⟩ => ?_
  refine hK2' _ _ ?_
  obtain ⟨hv2, hslv⟩ := g2
  have hEr : EntOK (σ1 ++ [v]) w2 (rowE ((l0.drop lo).take K)) v := g1.ok 1 _ v rfl hv2
  have hx12 : Ext w1 w2 := ⟨g3.os, g3.tape, g3.output, g3.size, fun b hb => g3.blk b hb (by
    rintro ⟨i, E, v', hi, hv', ho⟩
    match i with
    | 0 => simp at hi; subst hi; cases ho
    | i + 1 => simp at hi)⟩
  have hnb : ∀ b, blkB (rowE ((l0.drop lo).take K)) v = some b → w1.heap.size ≤ b := fun b hb => by
    rcases g3.own b ⟨1, _, v, rfl, hv2, hb⟩ with h | h
    · obtain ⟨i, E, v', hi, hv', ho⟩ := h
      match i with
      | 0 => simp at hi; subst hi; cases ho
      | i + 1 => simp at hi
    · exact h
  obtain ⟨q1, q2⟩ := hsat.snoc hx12 hEr hnb
  -- the row as a slice of one
  have h58 : ((b1.put (some 57) (.slice (some (A0.add lo)) K (cap - lo))).put (some 58) v).tmps.getD 58 undef = v := put_getD_eq (by rw [put_size, hA1.size]; omega)
  refine wpList_plain rfl fun K3 hK3 => ?_
  have hs58 : SatL [v] [rowE ((l0.drop lo).take K)] w2 := by
    refine ⟨rfl, fun i E u hi hu => ?_, fun i j Ei Ej vi vj b hij hi hvi hj hvj ho => ?_⟩
    · match i with
      | 0 => simp at hi hu; subst hi; subst hu; exact hEr
      | i + 1 => simp at hi
    · match i, j with
      | 0, 0 => exact absurd rfl hij
      | 0, j + 1 => simp at hj
      | i + 1, _ => simp at hi
  have hev3 : EvOK [v] [(58, one (.sl 0))] ((b1.put (some 57) (.slice (some (A0.add lo)) K (cap - lo))).put (some 58) v) (Op.buildSlice 74 1 #[(0, .tmp 58)]).operands.toList := by
    intro z hz
    simp [Op.operands] at hz
    subst hz
    refine ⟨?_, ?_⟩
    · show _ = some (((b1.put (some 57) (.slice (some (A0.add lo)) K (cap - lo))).put (some 58) v).tmps.getD 58 undef); rw [h58]; rfl
    · show isSl (((b1.put (some 57) (.slice (some (A0.add lo)) K (cap - lo))).put (some 58) v).tmps.getD 58 undef) = true; rw [h58]; exact hslv
  obtain ⟨v59, u59, w3, r3, hx23, hE59, hn59, hr59⟩ := gOp_sound (P := Try.prog) (ty := ty) tyOK (o := ⟨some 59, .buildSlice 74 1 #[(0, .tmp 58)], y3, p3, a3, none⟩) (env := [(58, one (.sl 0))]) (L := [rowE ((l0.drop lo).take K)]) (φ := none) (α := one (.sv 1 1)) (E := .var 35 [.sl 0]) rfl trivial hs58 hev3
  unfold Oper.wp
  rw [r3, Oper.upon_value]
  refine hK3 _ _ ?_
  obtain ⟨gg, hgg1, hv59⟩ := hr59
  obtain ⟨gg', us59, hu59, hheap59, hrel59⟩ := hE59
  have hu59' : u59 = at0 gg := by simpa using hgg1
  have hggg : gg = gg' := by rw [hu59'] at hu59; simp [at0] at hu59; exact hu59
  subst hggg
  have hus59 : us59 = [v] := by
    match us59, hrel59 with
    | [z], ⟨⟨hz, _⟩, _⟩ => simp at hz; rw [hz]
  subst hus59
  have hgnew : w2.heap.size ≤ gg := hn59 gg (by rw [hu59']; rfl)
  -- the append
  have hs3 := q1.ext hx23
  have hA3s : At w0 σ0 L0 n ⟨s1.env, full l0 l1 l2 l3 M x ++ [rowE ((l0.drop lo).take K)]⟩ (σ1 ++ [v]) b1 w3 := ⟨hs3, (hfr.trans q2).trans hx23.fr, hA1.env.pre (Pre.app _ _), hA1.nodef, hA1.size⟩
  have hheap3 : w3.heap[g]? = some (.cells us0.toArray 35 (0, 0)) := by
    rw [hx23.blk g (Nat.lt_of_lt_of_le (Array.getElem?_eq_some_iff.1 hheap).1 hx12.size), hx12.blk g (Array.getElem?_eq_some_iff.1 hheap).1]; exact hheap
  have how4 : w3.ownsRow 0 35 1 (.slice (some ⟨g, 0, none⟩) M.length (M.length + x)) M.length (us0.take M.length) := by
    refine ⟨by simp [hus], .inr ⟨g, _, us0.toArray, rfl, Nat.zero_le _, hheap3, by omega, hx, by simp [hus], by simp⟩⟩
  have hb48 : (((b1.put (some 57) (.slice (some (A0.add lo)) K (cap - lo))).put (some 58) v).put (some 59) v59).eval (.tmp 48) = .slice (some ⟨g, 0, none⟩) M.length (M.length + x) := by
    show (((b1.put (some 57) (.slice (some (A0.add lo)) K (cap - lo))).put (some 58) v).put (some 59) v59).tmps.getD 48 undef = _
    rw [put_getD_ne (by decide), put_getD_ne (by decide), put_getD_ne (by decide)]; exact hv48
  have hb59 : (((b1.put (some 57) (.slice (some (A0.add lo)) K (cap - lo))).put (some 58) v).put (some 59) v59).eval (.tmp 59) = .slice (some ⟨gg, 0, none⟩) 1 1 := by
    show (((b1.put (some 57) (.slice (some (A0.add lo)) K (cap - lo))).put (some 58) v).put (some 59) v59).tmps.getD 59 undef = _
    rw [put_getD_eq (by simp [put_size, hA1.size]; omega)]; exact hv59
  obtain ⟨⟨i35, z35, k1, k2, k3, k4, k5⟩, _, _⟩ := tyOK 35 _ rfl
  have hml : maxLen = 9223372036854775807 := by decide
  have hone : v.oneCell' = true := by cases v <;> first | rfl | (simp [isSl] at hslv)
  refine wpList_append_own_at (P := Try.prog) w3 rfl (.tmp 48) (.tmp 59) 74 rfl 0 35 i35 z35 1 24 Try.underlying74 k1 k4 k2 k3 (by rw [k5]; rfl) (by omega) _ M.length (us0.take M.length) hb48 how4 ⟨gg, 0, none⟩ 1 1 [v] hb59 (by simp) (fun j u hj => ?_) (fun u hu => ?_) (by omega) (by omega) (Nat.zero_le _) fun v' w4 t1 t2 t3 t4 => ?_
  · match j with
    | 0 =>
      simp at hj; subst hj
      have := hheap59
      simp [World.cell?, Addr.add, this]
    | j + 1 => simp at hj
  · simp at hu; subst hu; exact hone
  -- the header's new place
  have hnn : v' ≠ .slice none 0 0 := fun e => by have := t3.1 e; cases this.1
  obtain ⟨g', cap', cur', hv', _, hheap4, hcap', hcm', hcs', htk'⟩ : ∃ g' cap' cur', v' = .slice (some ⟨g', 0, none⟩) (M.length + 1) cap' ∧ 0 ≤ g' ∧ w4.heap[g']? = some (.cells cur' 35 (0, 0)) ∧ M.length + 1 ≤ cap' ∧ cap' ≤ maxLen ∧ cur'.size = cap' * 1 ∧ cur'.toList.take ((M.length + 1) * 1) = us0.take M.length ++ [v] := by
    rcases t1.2 with ⟨h1, _⟩ | h1
    · exact absurd h1 hnn
    · exact h1
  subst hv'
  have hg4' : g' = g ∨ g' = w3.heap.size := by
    rcases t4 with h | h
    · left; simpa [Value.ownBlock] using h
    · right; simpa [Value.ownBlock] using h
  have hl1 : σ1.length = M.length + 5 := by rw [hsat.len]; simp
  have hE' : EntOK ((σ1 ++ [v]).set 4 (at0 g')) w4 (.var 35 (lnk (M.length + 1) (cap' - (M.length + 1)))) (at0 g') := by
    refine ⟨g', cur'.toList, rfl, by simpa using hheap4, RelCs_of (by rw [lnk_len]; have e : cur'.toList.length = cur'.size := Array.length_toList; omega) fun j c u hc hu => ?_⟩
    by_cases hj : j < M.length + 1
    · rw [lnk_lt hj] at hc
      cases hc
      have h9 : (us0.take M.length ++ [v])[j]? = some u := by
        rw [← htk', List.getElem?_take, if_pos (by omega)]; exact hu
      show ((σ1 ++ [v]).set 4 (at0 g'))[j + 5]? = some u ∧ isSl u = true
      rw [List.getElem?_set_ne (by omega)]
      by_cases hj2 : j < M.length
      · rw [List.getElem?_append_left (by simp [hus]; omega), List.getElem?_take, if_pos hj2] at h9
        have h8 := hrel.at (lnk_lt hj2) h9
        exact ⟨by rw [List.getElem?_append_left (by omega)]; exact h8.1, h8.2⟩
      · have e : j = M.length := by omega
        subst e
        rw [List.getElem?_append_right (by simp; omega), List.length_take, hus, Nat.min_eq_left (by omega), Nat.sub_self] at h9
        simp at h9; subst h9
        exact ⟨by rw [List.getElem?_append_right (by omega), hl1, Nat.sub_self]; rfl, hslv⟩
    · rw [lnk_ge (Nat.le_of_not_lt hj) hc]; trivial
  obtain ⟨z1, z2⟩ := hA3s.sat.renew (k := 4) (g := g) (E := .var 35 (lnk M.length x)) (v := at0 g) (w' := w4) rfl (by rw [List.getElem?_append_left (by omega)]; exact hg4) rfl t2 hE' (fun b hb => by
    have hb : g' = b := by simpa [blkB, blkV, at0] using hb
    subst hb
    rcases hg4' with h | h
    · exact .inl h
    · right; omega)
  have hLF : ((full l0 l1 l2 l3 M x ++ [rowE ((l0.drop lo).take K)]).map (Ent.kill 4)).set 4 (.var 35 (lnk (M.length + 1) (cap' - (M.length + 1)))) = full l0 l1 l2 l3 (M ++ [(l0.drop lo).take K]) (cap' - (M.length + 1)) := by
    show rowE l0 :: rowE l1 :: rowE l2 :: rowE l3 :: .var 35 (lnk (M.length + 1) (cap' - (M.length + 1))) :: ((M.map rowE ++ [rowE ((l0.drop lo).take K)]).map (Ent.kill 4)) = rowE l0 :: rowE l1 :: rowE l2 :: rowE l3 :: .var 35 (lnk (M ++ [(l0.drop lo).take K]).length (cap' - (M.length + 1))) :: (M ++ [(l0.drop lo).take K]).map rowE
    have e1 : (M ++ [(l0.drop lo).take K]).length = M.length + 1 := by simp
    have e2 : (M.map rowE ++ [rowE ((l0.drop lo).take K)]).map (Ent.kill 4) = (M ++ [(l0.drop lo).take K]).map rowE := by
      simp [Ent.kill]
    rw [e1, e2]
  rw [hLF] at z1 z2
  have hf3 := hA3s.fr
  have hown3 : Own (σ1 ++ [v]) (full l0 l1 l2 l3 M x ++ [rowE ((l0.drop lo).take K)]) g := ⟨4, .var 35 (lnk M.length x), at0 g, rfl, by rw [List.getElem?_append_left (by omega)]; exact hg4, rfl⟩
  have hF : Fr w0 σ0 L0 w4 ((σ1 ++ [v]).set 4 (at0 g')) (full l0 l1 l2 l3 (M ++ [(l0.drop lo).take K]) (cap' - (M.length + 1))) := by
    refine ⟨t2.os.trans hf3.os, t2.tape.trans hf3.tape, t2.output.trans hf3.output, Nat.le_trans hf3.size t2.size, fun b hb hno => ?_, fun b hb => ?_, fun i u hi => ?_⟩
    · rw [t2.block b (Nat.lt_of_lt_of_le hb hf3.size) (fun e => ?_)]
      · exact hf3.blk b hb hno
      · have e : b = g := by simpa [Value.ownBlock] using e
        subst e
        rcases hf3.own b hown3 with h | h
        · exact hno h
        · omega
    · rcases z2 b hb with h | h
      · exact hf3.own b h
      · exact .inr (Nat.le_trans hf3.size h)
    · have hlt := (List.getElem?_eq_some_iff.1 hi).1
      rw [List.getElem?_set_ne (by omega)]
      exact hf3.pre i u hi
  refine wpList_plain rfl fun K5 hK5 => ?_
  have h60 : ((((b1.put (some 57) (.slice (some (A0.add lo)) K (cap - lo))).put (some 58) v).put (some 59) v59).put (some 60) (.slice (some ⟨g', 0, none⟩) (M.length + 1) cap')).eval (.tmp 60) = .slice (some ⟨g', 0, none⟩) (M.length + 1) cap' := by
    show ((((b1.put (some 57) (.slice (some (A0.add lo)) K (cap - lo))).put (some 58) v).put (some 59) v59).put (some 60) (.slice (some ⟨g', 0, none⟩) (M.length + 1) cap')).tmps.getD 60 undef = _
    rw [put_getD_eq (by simp [put_size, hA1.size]; omega)]
  have i7 : (execOp ((((b1.put (some 57) (.slice (some (A0.add lo)) K (cap - lo))).put (some 58) v).put (some 59) v59).put (some 60) (.slice (some ⟨g', 0, none⟩) (M.length + 1) cap')).eval ⟨some 7, .assign (.tmp 60), y5, p5, a5, none⟩).run Try.prog w4 = .ok (.value (.slice (some ⟨g', 0, none⟩) (M.length + 1) cap')) w4 := by
    simp only [execOp, Sem.run_pure, h60]
  unfold Oper.wp
  rw [i7, Oper.upon_value]
  refine hK5 _ _ ?_
  have hsz := hA1.size
  have E0 := kill_env (k := 4) (v' := at0 g') hA3s.env
  have E1 := E0.put (a := b1) (n := n) hsz (d := some 57) (by show Nat.blt 57 n = true; exact Nat.ble_eq_true_of_le (by omega)) (α := one .any) (v := .slice (some (A0.add lo)) K (cap - lo)) trivial
  have E2 := E1.put (n := n) (by rw [put_size]; exact hsz) (d := some 58) (by show Nat.blt 58 n = true; exact Nat.ble_eq_true_of_le (by omega)) (α := one .any) (v := v) trivial
  have E3 := E2.put (n := n) (by rw [put_size, put_size]; exact hsz) (d := some 59) (by show Nat.blt 59 n = true; exact Nat.ble_eq_true_of_le (by omega)) (α := one .any) (v := v59) trivial
  have E4 := E3.put (n := n) (by rw [put_size, put_size, put_size]; exact hsz) (d := some 60) (by show Nat.blt 60 n = true; exact Nat.ble_eq_true_of_le (by omega)) (α := one .any) (v := .slice (some ⟨g', 0, none⟩) (M.length + 1) cap') trivial
  have E5 := E4.put (n := n) (by rw [put_size, put_size, put_size, put_size]; exact hsz) (d := some 7) (by show Nat.blt 7 n = true; exact Nat.ble_eq_true_of_le (by omega)) (α := one (.sw 4 (M.length + 1) (M.length + 1 + (cap' - (M.length + 1))))) (v := .slice (some ⟨g', 0, none⟩) (M.length + 1) cap') ⟨g', by rw [List.getElem?_set]; simp; omega, by rw [show M.length + 1 + (cap' - (M.length + 1)) = cap' by omega]⟩
  refine hN _ ((σ1 ++ [v]).set 4 (at0 g')) _ w4 (hN' (cap' - (M.length + 1)) (by omega)) ⟨z1, hF, E5, ?_, ?_⟩
  · rw [put_defers, put_defers, put_defers, put_defers, put_defers]; exact hA1.nodef
  · rw [put_size, put_size, put_size, put_size, put_size]; exact hsz
end
end Go.AX
