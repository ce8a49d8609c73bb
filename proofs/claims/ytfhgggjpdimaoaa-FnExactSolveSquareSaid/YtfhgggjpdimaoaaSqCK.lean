/- What the functions of this program do, one contract a function, by that walk: each under what its own statement says. -/
import Derived.ProofKit
import Derived.Test.YtfhgggjpdimaoaaProg
namespace Go.AX
open Go.Proofs
def io_h : List Char := [104, 97, 114, 110, 101, 115, 115].map Char.ofNat
def io_s : List Char := [52, 51, 51, 52, 98, 53, 49, 57, 101, 98, 56, 100, 50, 98, 53, 97, 53, 56, 54, 53, 51, 101, 99, 48, 49, 56, 56, 102, 51, 48, 57, 57, 100, 48, 52, 50, 48, 98, 50, 51, 52, 101, 54, 54, 99, 49, 101, 55, 51, 98, 51, 53, 100, 57, 53, 52, 99, 99, 102, 97, 53, 97, 51, 50].map Char.ofNat
def io_c : List Char := [99, 117, 116].map Char.ofNat
def io_r : List Char := [97, 116, 32, 108, 111, 111, 112, 46, 101, 120, 97, 109, 112, 108, 101, 47, 103, 48, 49, 50, 54, 54, 47, 108, 97, 119, 115, 46, 70, 110, 69, 120, 97, 99, 116, 73, 115, 84, 104, 114, 101, 97, 100, 32, 108, 111, 111, 112, 46, 101, 120, 97, 109, 112, 108, 101, 47, 103, 48, 49, 50, 54, 54, 47, 108, 97, 119, 115, 46, 70, 110, 69, 120, 97, 99, 116, 70, 108, 97, 116, 83, 104, 101, 101, 116, 32, 108, 111, 111, 112, 46, 101, 120, 97, 109, 112, 108, 101, 47, 103, 48, 49, 50, 54, 54, 47, 108, 97, 119, 115, 46, 70, 110, 69, 120, 97, 99, 116, 83, 111, 108, 118, 101, 83, 113, 117, 97, 114, 101, 32, 108, 111, 111, 112, 46, 101, 120, 97, 109, 112, 108, 101, 47, 103, 48, 49, 50, 54, 54, 47, 108, 97, 119, 115, 46, 70, 110, 69, 120, 97, 99, 116, 80, 111, 108, 121, 103, 111, 110, 79, 102, 87, 104, 105, 114, 108, 115, 32, 108, 111, 111, 112, 46, 101, 120, 97, 109, 112, 108, 101, 47, 103, 48, 49, 50, 54, 54, 47, 108, 97, 119, 115, 46, 70, 110, 69, 120, 97, 99, 116, 82, 105, 110, 103, 83, 104, 101, 101, 116].map Char.ofNat
def io_sp : Char := Char.ofNat 32
def noSp : List Char → Bool
  | [] => true
  | c :: r => !(c == io_sp) && noSp r
theorem words_cons : ∀ (w r : List Char), noSp w = true → wordsSigns (w ++ io_sp :: r) = w :: wordsSigns r
  | [], r, _ => rfl
  | c :: w, r, h => by
    simp only [noSp, Bool.and_eq_true, Bool.not_eq_true'] at h
    have ih := words_cons w r h.2
    have hc : c ≠ io_sp := by
      intro e; subst e; simp at h
    rw [List.cons_append]
    conv => lhs; unfold wordsSigns
    split
    · rename_i h0; cases h0
    · rename_i h0; injection h0 with h1 h2; exact absurd h1 hc
    · rename_i c' r' _ h0
      injection h0 with h1 h2
      subst h1; subst h2
      rw [ih]
theorem io1 : Try.prog.initOrder = String.ofList (io_h ++ io_sp :: (io_s ++ io_sp :: (io_c ++ io_sp :: io_r))) := by kernel_rfl
theorem io2 : wordsSigns Try.prog.initOrder.toList = io_h :: io_s :: io_c :: wordsSigns io_r := by
  rw [io1, String.toList_ofList, words_cons _ _ (by kernel_rfl), words_cons _ _ (by kernel_rfl), words_cons _ _ (by kernel_rfl)]
theorem io_f (R : List (List Char)) : behindMainWord (io_h :: io_s :: io_c :: R) = io_c :: R := by kernel_rfl
theorem io_l (R : List (List Char)) : stripLifts liftWords (io_c :: R) = ([], io_c :: R) := by kernel_rfl
theorem io_a : Try.prog.laysLater = false := by kernel_rfl
theorem io_b : Try.prog.bearsReflect = false := by kernel_rfl
theorem io_d : Try.prog.doorFits [] = true := by kernel_rfl
theorem io_w : behindMainWord (wordsSigns Try.prog.initOrder.toList) = io_c :: wordsSigns io_r := by rw [io2, io_f]
theorem make_cut (P : Program) (R : List (List Char)) (h : behindMainWord (wordsSigns P.initOrder.toList) = io_c :: R) : P.make = some .cut := by
  unfold Program.make
  rewrite [h]
  kernel_rfl
theorem hl_cut (P : Program) (R : List (List Char)) (h : behindMainWord (wordsSigns P.initOrder.toList) = io_c :: R) : P.headLifts = [] := by
  unfold Program.headLifts
  rewrite [h]
  kernel_rfl
theorem fin_cut (P : Program) (R : List (List Char)) (h : behindMainWord (wordsSigns P.initOrder.toList) = io_c :: R) : P.liftsFinal = false := by
  have hl := hl_cut P R h
  unfold Program.liftsFinal
  rewrite [hl, h]
  refine Eq.trans (b := false) ?_ rfl
  kernel_rfl
theorem ent_cut (P : Program) (R : List (List Char)) (h : behindMainWord (wordsSigns P.initOrder.toList) = io_c :: R) (ha : P.laysLater = false) (hb : P.bearsReflect = false) (hd : P.doorFits [] = true) : P.mayEnter = true := by
  unfold Program.mayEnter
  rewrite [h, ha, hb]
  refine Eq.trans (b := P.doorFits []) ?_ hd
  kernel_rfl
theorem io3 : Try.prog.mayEnter = true := ent_cut _ _ io_w io_a io_b io_d
theorem io4 : Try.prog.liftsFinal = false := fin_cut _ _ io_w
theorem io5 : Try.prog.make = some .cut := make_cut _ _ io_w
end Go.AX
