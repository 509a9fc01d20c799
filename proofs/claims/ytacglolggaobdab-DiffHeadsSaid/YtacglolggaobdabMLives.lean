/- Plain laws for the statements on diff: longest common parts, the reference's Lines, the example. -/
import Derived.Test.YtacglolggaobdabMLong
import Derived.Test.YtacglolggaobdabPAllx1
import Derived.Test.YtacglolggaobdabPAllx3
namespace Go.Proofs.Ytacglolggaobdab.MDiff
open Go.RowKit Go.Proofs.Ytacglolggaobdab.PAll Go.Proofs.YtacglolggaobdabW.PrintWords Go.Proofs.YtacglolggaobdabW.PrintLast
open Go.Proofs.Ytacglolggaobdab.MTable
set_option linter.unusedVariables false
set_option linter.unusedSimpArgs false

/-! ### same -/
theorem same_l0 (l : List S32) (hl : l.length ≤ 5000) : ∀ (d i : Nat), l.length - i = d → i ≤ l.length → Ev (fun n => abutmentlaw51_same.l0 n l (l.map to33) (l.length : Int) (i : Int)) true := by
  intro d
  induction d with
  | zero =>
    intro i hd hi
    refine Ev.step (f := fun _ => some true) (fun n => ?_) (Ev.now _)
    simp only [abutmentlaw51_same.l0]
    rw [if_neg (by omega)]
  | succ d ih =>
    intro i hd hi
    have hil : i < l.length := by omega
    refine Ev.step (f := fun n => abutmentlaw51_same.l0 n l (l.map to33) (l.length : Int) ((i + 1 : Nat) : Int)) (fun n => ?_) (ih (i + 1) (by omega) (by omega))
    have e : rd_T33 (l.map to33) (i : Int) = to33 (rd_T32 l (i : Int)) := by
      show (l.map to33).getD i z33 = to33 (l.getD i z32)
      rw [List.getD_eq_getElem?_getD, List.getD_eq_getElem?_getD, List.getElem?_map, List.getElem?_eq_getElem hil]; rfl
    simp only [abutmentlaw51_same.l0]
    rw [if_pos (by omega), if_pos (by omega), if_pos (by omega), if_pos (by rw [List.length_map]; omega), e, if_pos (show (rd_T32 l (i : Int)).f0 = (to33 (rd_T32 l (i : Int))).f0 from rfl), if_pos (show (rd_T32 l (i : Int)).f1.toList = (to33 (rd_T32 l (i : Int))).f1.toList from rfl), w64 (by omega) (by omega)]
    rfl

theorem same_comes (l : List S32) (hl : l.length ≤ 5000) : Ev (fun n => abutmentlaw51_same.f n l (l.map to33)) true := by
  refine Ev.congr (f := fun n => abutmentlaw51_same.l0 n l (l.map to33) (l.length : Int) ((0 : Nat) : Int)) (fun n => ?_) (same_l0 l hl _ 0 rfl (by omega))
  unfold abutmentlaw51_same.f
  rw [if_pos (by rw [List.length_map])]; rfl

theorem linesOf_length : ∀ (d : Nat) (a b : List ByteArray), a.length + b.length = d → (linesOf a b).length ≤ d := by
  intro d
  induction d using Nat.strongRecOn with
  | _ d ih =>
    intro a b hd
    cases a with
    | nil =>
      cases b with
      | nil => rw [linesOf_nil]; simp
      | cons y ys =>
        rw [linesOf_right]; simp only [List.length_cons, List.length_nil] at hd ⊢
        have := ih (ys.length) (by omega) [] ys (by simp); omega
    | cons x xs =>
      cases b with
      | nil =>
        rw [linesOf_left]; simp only [List.length_cons, List.length_nil] at hd ⊢
        have := ih (xs.length) (by omega) xs [] (by simp); omega
      | cons y ys =>
        simp only [List.length_cons] at hd
        rw [linesOf]
        split
        · have := ih (xs.length + ys.length) (by omega) xs ys rfl
          simp only [List.length_cons]; omega
        · split
          · have := ih (xs.length + (ys.length + 1)) (by omega) xs (y :: ys) (by simp)
            simp only [List.length_cons] at this ⊢; omega
          · have := ih (xs.length + 1 + ys.length) (by omega) (x :: xs) ys (by simp)
            simp only [List.length_cons] at this ⊢; omega

/-! ### lives -/
theorem lives_rows : linesOf [(⟨#[97]⟩ : ByteArray), (⟨#[98]⟩ : ByteArray)] [(⟨#[98]⟩ : ByteArray), (⟨#[99]⟩ : ByteArray)] = [⟨1, ⟨#[97]⟩⟩, ⟨0, ⟨#[98]⟩⟩, ⟨2, ⟨#[99]⟩⟩] := by
  simp [linesOf, lcs, ByteArray.toList_eq]

theorem lives_comes : Ev (fun n => abutmentlaw51_lives.f n) true := by
  refine Ev.congr (f := fun n => (abutmentlaw51_same.f n (linesOf [(⟨#[97]⟩ : ByteArray), (⟨#[98]⟩ : ByteArray)] [(⟨#[98]⟩ : ByteArray), (⟨#[99]⟩ : ByteArray)]) ((linesOf [(⟨#[97]⟩ : ByteArray), (⟨#[98]⟩ : ByteArray)] [(⟨#[98]⟩ : ByteArray), (⟨#[99]⟩ : ByteArray)]).map to33)).bind fun t => if t = true then some true else some false) (fun n => ?_) ?_
  · unfold abutmentlaw51_lives.f diff_Lines.f
    rw [if_pos (by simp), Option.bind_some, lives_rows]; rfl
  · refine Ev.bind (same_comes _ (Nat.le_trans (linesOf_length _ _ _ rfl) (by simp))) ?_
    exact Ev.congr (f := fun _ => some true) (fun n => by rw [if_pos rfl]) (Ev.now _)
#print axioms lives_comes
end Go.Proofs.Ytacglolggaobdab.MDiff
