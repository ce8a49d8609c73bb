/- What the functions of this program do, one contract a function, by that walk: each under what its own statement says. -/
import Derived.Test.YtfhgggjpdimaoaaSqCB
import Derived.Test.YtfhgggjpdimaoaaRows
import Derived.ProofKit
import Derived.Carry
import Derived.Laws.Cover2
import Derived.Deep.Slices
import Derived.Lib.SmallJoins
set_option linter.unusedVariables false
set_option linter.unusedSimpArgs false
namespace Go.AX
open Go.RowKit Go.Proofs Go.ChangeShapes Go.WideShapes Go.ChangeAt Go.Deep Go.Joins

theorem spec_run {P : Program} {f : FuncId} {fn : Func} {c : Code} {L : List Ent} {args : List A1} {L' : List Ent} {ret : AV} (hs : Spec P f L args L' ret) (hf : P.funcs[f]? = some fn) (hb : fn.body = some c)
    (hname : (fn.name == "runtime.NumGoroutine") = false) {w : World} {σ us : List Value} (h1 : SatL σ L w) (h2 : RelAs σ args us) :
    Calls P f us.toArray w (fun e w' => ∃ v, e = .returned v ∧ ∃ σ', SatL σ' L' w' ∧ RelV σ' ret v ∧ Fr w σ L w' σ' L') := by
  rcases hs.2 w σ us h1 h2 with ⟨_, h⟩ | ⟨v, w', h, _⟩
  · exact h
  · have e : (callFunc f us.toArray).run P w = .ok (.enter f us.toArray) w := by
      simp only [callFunc, Sem.run_bind, run_program, Result.andThen_ok, hf, hname, hb, Bool.false_eq_true, if_false, Option.isNone_some]
      rfl
    rw [e] at h
    cases h

def shutL : List Ent → Bool
  | [] => true
  | .arr false _ _ :: r => shutL r
  | _ => false
theorem shutL_get : ∀ {L : List Ent}, shutL L = true → ∀ {i : Nat} {E : Ent}, L[i]? = some E → ∃ T D, E = .arr false T D
  | [], _, i, E, h => by simp at h
  | .arr false T D :: r, hs, 0, E, h => by simp at h; exact ⟨T, D, h.symm⟩
  | .arr false T D :: r, hs, i + 1, E, h => shutL_get (L := r) hs (by simpa using h)
  | .arr true _ _ :: _, hs, _, _, _ => by cases hs
  | .var _ _ :: _, hs, _, _, _ => by cases hs
  | .dead :: _, hs, _, _, _ => by cases hs

theorem below_of {w w' : World} {σ σ' : List Value} {L L' : List Ent} (h : Fr w σ L w' σ' L') (hs : shutL L = true) : Below w.heap.size w w' :=
  ⟨h.os, h.tape, h.output, h.size, fun b hb => h.blk b hb (by
    rintro ⟨i, E, v, h1, h2, h3⟩
    obtain ⟨T, D, rfl⟩ := shutL_get hs h1
    cases h3)⟩

theorem sat_nil (w : World) : SatL [] [] w := ⟨rfl, fun i E v h => by simp at h, fun i j Ei Ej vi vj b hij h => by simp at h⟩
theorem sat_add {σ : List Value} {L : List Ent} {w : World} (h : SatL σ L w) (hs : shutL L = true) {T : TypeId} {D : Dat} {v : Value} (hv : Reads w v D) : SatL (σ ++ [v]) (L ++ [.arr false T D]) w := by
  refine ⟨by simp [h.len], fun k E u h1 h2 => ?_, fun i j Ei Ej vi vj b hij h1 h2 h3 h4 h5 => ?_⟩
  · rcases get_snoc h1 with ⟨a1, a2⟩ | ⟨a1, rfl⟩
    · rcases get_snoc h2 with ⟨b1, b2⟩ | ⟨b1, rfl⟩
      · exact (h.ok k E u a2 b2).pre (Pre.app _ _)
      · have := h.len; omega
    · rcases get_snoc h2 with ⟨b1, b2⟩ | ⟨b1, rfl⟩
      · have := h.len; omega
      · exact hv
  · exfalso
    rcases get_snoc h1 with ⟨a1, a2⟩ | ⟨a1, rfl⟩
    · obtain ⟨T', D', rfl⟩ := shutL_get hs a2
      cases h5
    · cases h5

theorem Try.own : ownKnob Try.prog.godebug = none := by kernel_rfl
theorem Try.laidOut : laidOutB Try.prog = true := by kernel_rfl
theorem Try.cells23 : Try.prog.cellsOf 23 = 1 := by kernel_rfl
theorem Try.cells25 : Try.prog.cellsOf 25 = 2 := by kernel_rfl
theorem Try.cells85 : Try.prog.cellsOf 85 = 3 := by kernel_rfl

theorem addr_add1 (a : Addr) (i : Nat) : (a.add (i * 1)).add 0 = a.add i := by
  rw [AX.add_add]; simp

theorem open_fl {H : Type} {enc : TypeId × Value → H} {W : World} {base : Nat} {spare : Nat → Bool} {held : Bool} {v : Value} {n : Nat} {x : DataW H × List MemPlace} (h : DataW.trod enc Try.prog W base spare held n 23 [v] = some x) : ∃ b, v = .float .f32 b ∧ b < 2 ^ 32 := by
  cases n with
  | zero => simp [DataW.trod] at h
  | succ n =>
    simp only [DataW.trod, Try.underlying23] at h
    cases hV : v <;> simp [hV] at h
    rename_i k b
    obtain ⟨⟨rfl, hw⟩, _⟩ := h
    exact ⟨b, rfl, by simpa [Lit.wf] using hw⟩

/-- A slice of float32 that came in. -/
theorem reads_floats {H : Type} {enc : TypeId × Value → H} {W : World} {base : Nat} {spare : Nat → Bool} {held : Bool} {v : Value} {fuel : Nat} {x : DataW H × List MemPlace} (h : DataW.trod enc Try.prog W base spare held fuel 35 [v] = some x) :
    ∃ xs, Reads W v (.f xs) ∧ isSl v = true := by
  rcases open_slice1 Try.underlying35 Try.cells23 h with ⟨h1, _⟩ | ⟨a, len, cap, m, n, V, D, Pl, h1, _, hl, hc, hm, _, hx⟩
  · simp at h1; subst h1
    exact ⟨[], ⟨none, 0, 0, rfl, rfl, Nat.zero_le _, fun _ => rfl, fun i j hi => absurd hi (Nat.not_lt_zero i)⟩, rfl⟩
  · simp at h1; subst h1
    have hml : len ≤ m := by rw [hm]; split <;> omega
    have hv : ∀ i, i < len → ∃ b, V i = .float .f32 b ∧ b < 2 ^ 32 := fun i hi => open_fl (hx i (by omega)).2
    let g : Nat → Nat := fun i => if hi : i < len then (hv i hi).choose else 0
    have hg : ∀ i (hi : i < len), V i = .float .f32 (g i) ∧ g i < 2 ^ 32 := fun i hi => by simp only [g, dif_pos hi]; exact (hv i hi).choose_spec
    refine ⟨(List.range len).map fun i => cn .f32 (g i), ⟨some a, len, cap, rfl, by simp [Dat.len], by omega, (fun e => by cases e), fun i j hi hj => ?_⟩, rfl⟩
    have hi' : i < len := by simpa [Dat.len] using hi
    have hj0 : j = 0 := by simp [Dat.sz] at hj; exact hj
    subst hj0
    refine ⟨a, V i, rfl, ?_, g i, (hg i hi').1, ?_, (hg i hi').2⟩
    · rw [show (Dat.f ((List.range len).map fun i => cn .f32 (g i))).sz = 1 from rfl, addr_add1]
      exact (hx i (by omega)).1
    · simp [Dat.len, List.getD_eq_getElem?_getD, hi']

set_option maxRecDepth 100000 in
/-- A slice of vectors that came in. -/
theorem reads_vectors {H : Type} {enc : TypeId × Value → H} {W : World} {base : Nat} {spare : Nat → Bool} {held : Bool} {v : Value} {fuel : Nat} {x : DataW H × List MemPlace} (h : DataW.trod enc Try.prog W base spare held fuel 22 [v] = some x) :
    ∃ xs, Reads W v (.p xs) ∧ isSl v = true := by
  rcases open_slice Try.underlying22 h with ⟨h1, _⟩ | ⟨a, len, cap, m, n, D, Pl, h1, _, hl, hc, hm, _, hx⟩
  · simp at h1; subst h1
    exact ⟨[], ⟨none, 0, 0, rfl, rfl, Nat.zero_le _, fun _ => rfl, fun i j hi => absurd hi (Nat.not_lt_zero i)⟩, rfl⟩
  · simp at h1; subst h1
    have hml : len ≤ m := by rw [hm]; split <;> omega
    have hv : ∀ i, i < len → ∃ p : Nat × Nat × Nat, (W.cell? ((a.add (i * 3)).add 0) = some (.float .f32 p.1) ∧ p.1 < 2 ^ 32) ∧ (W.cell? ((a.add (i * 3)).add 1) = some (.float .f32 p.2.1) ∧ p.2.1 < 2 ^ 32) ∧ (W.cell? ((a.add (i * 3)).add 2) = some (.float .f32 p.2.2) ∧ p.2.2 < 2 ^ 32) := fun i hi => by
      obtain ⟨cs, g1, g2⟩ := hx i (by omega)
      rw [Try.cells85] at g1
      obtain ⟨_, hlen, hcell⟩ := World.cells?_some g1
      match cs, hlen with
      | [c0, c1, c2], _ =>
        obtain ⟨y0, y1, y2, n', _, _, k0, k1, k2⟩ := trod_struct3 Try.underlying85 g2
        have k0 : DataW.trod enc Try.prog W base spare held n' 23 [c0] = some y0 := by simpa [Try.cells23] using k0
        have k1 : DataW.trod enc Try.prog W base spare held n' 23 [c1] = some y1 := by simpa [Try.cells23] using k1
        have k2 : DataW.trod enc Try.prog W base spare held n' 23 [c2] = some y2 := by simpa [Try.cells23] using k2
        obtain ⟨b0, rfl, w0⟩ := open_fl k0
        obtain ⟨b1, rfl, w1⟩ := open_fl k1
        obtain ⟨b2, rfl, w2⟩ := open_fl k2
        exact ⟨(b0, b1, b2), ⟨by simpa using hcell 0 (by omega), w0⟩, ⟨by simpa using hcell 1 (by omega), w1⟩, ⟨by simpa using hcell 2 (by omega), w2⟩⟩
    obtain ⟨g, hg⟩ := choose_lt hv
    refine ⟨(List.range len).map fun i => (cn .f32 (g i).1, cn .f32 (g i).2.1, cn .f32 (g i).2.2), ⟨some a, len, cap, rfl, by simp [Dat.len], by omega, (fun e => by cases e), fun i j hi hj => ?_⟩, rfl⟩
    have hi' : i < len := by simpa [Dat.len] using hi
    obtain ⟨⟨q0, w0⟩, ⟨q1, w1⟩, ⟨q2, w2⟩⟩ := hg i hi'
    have e : ((List.range len).map fun i => (cn .f32 (g i).1, cn .f32 (g i).2.1, cn .f32 (g i).2.2)).getD i (0, 0, 0) = (cn .f32 (g i).1, cn .f32 (g i).2.1, cn .f32 (g i).2.2) := by simp [List.getD_eq_getElem?_getD, hi']
    have hj3 : j < 3 := hj
    match j, hj3 with
    | 0, _ =>
      refine ⟨a, .float .f32 (g i).1, rfl, q0, (g i).1, rfl, ?_⟩
      show IsF .f32 _ _
      rw [e]; exact ⟨rfl, w0⟩
    | 1, _ =>
      refine ⟨a, .float .f32 (g i).2.1, rfl, q1, (g i).2.1, rfl, ?_⟩
      show IsF .f32 _ _
      rw [e]; exact ⟨rfl, w1⟩
    | 2, _ =>
      refine ⟨a, .float .f32 (g i).2.2, rfl, q2, (g i).2.2, rfl, ?_⟩
      show IsF .f32 _ _
      rw [e]; exact ⟨rfl, w2⟩

set_option maxRecDepth 100000 in
theorem open_thread {H : Type} {enc : TypeId × Value → H} {W : World} {r : Reach} {b0 base : Nat} {spare : Nat → Bool} {held : Bool} {v : Value} {d : DataW H} {p : List MemPlace} (hv : Value.okWide Try.prog W r b0 25 v) (h : DataW.Trod enc Try.prog W base spare held 25 v d p) :
    ∃ (xs : List (Nat × Nat × Nat)) (s : Nat) (sl : Value), v = .agg #[sl, .float .f32 s] ∧ Reads W sl (.p xs) ∧ isSl sl = true ∧ s < 2 ^ 32 := by
  obtain ⟨v0, v1, y0, y1, n, rfl, _, _, h0, h1⟩ := open_agg2 Try.underlying25 (by kernel_rfl) Try.cells25 hv h
  obtain ⟨b, rfl, hb⟩ := open_fl h1
  obtain ⟨xs, h3, h4⟩ := reads_vectors h0
  exact ⟨xs, b, v0, rfl, h3, h4, hb⟩

theorem keeps25 {H : Type} {enc : TypeId × Value → H} {W W' : World} {v : Value} {d : DataW H} {ps : List MemPlace} (h : DataW.Trod enc Try.prog W 0 (fun _ => true) true 25 v d ps) (hb : Below W.heap.size W W') (hlt : ∀ x ∈ ps, x.block < W.heap.size) :
    DataW.Trod enc Try.prog W' 0 (fun b => decide (b < W.heap.size)) true 25 v d ps :=
  Below.trod Try.laidOut (by kernel_rfl) (of_decide_eq_true (by kernel_rfl)) h hb hlt
theorem keeps35 {H : Type} {enc : TypeId × Value → H} {W W' : World} {v : Value} {d : DataW H} {ps : List MemPlace} (h : DataW.Trod enc Try.prog W 0 (fun _ => true) true 35 v d ps) (hb : Below W.heap.size W W') (hlt : ∀ x ∈ ps, x.block < W.heap.size) :
    DataW.Trod enc Try.prog W' 0 (fun b => decide (b < W.heap.size)) true 35 v d ps :=
  Below.trod Try.laidOut (by kernel_rfl) (of_decide_eq_true (by kernel_rfl)) h hb hlt
end Go.AX
