/- The pure statement of DiffBack: with rounds enough the printed law answers true at every two lists of lines. -/
import Derived.Test.YtacglolggaobdabMDiff2
import Derived.Test.YtacglolggaobdabPAllx10
namespace Go.Proofs.Ytacglolggaobdab.Pure
open Go.RowKit Go.Proofs.Ytacglolggaobdab.PAll Go.Proofs.YtacglolggaobdabW.PrintWords Go.Proofs.Ytacglolggaobdab.MDiff
open Go.Proofs.Ytacglolggaobdab.MTable (w64)
set_option linter.unusedVariables false
set_option linter.unusedSimpArgs false

theorem back_out : Ev (fun n => (abutmentlaw51_lives.f n).bind fun t => some t) true := Ev.bind lives_comes (Ev.now true)

theorem back_l0 (a : List ByteArray) (ha : a.length ≤ 25) : ∀ (d i : Nat), a.length - i = d → i ≤ a.length →
    Ev (fun n => abutmentlaw51_DiffBack.l0 n a (linesOf a a) (linesOf a a) ((linesOf a a).length : Int) (i : Int)) true := by
  have hs := lines_self a
  have hlen : (linesOf a a).length = a.length := by rw [hs, List.length_map]
  intro d
  induction d with
  | zero =>
    intro i hd hi
    refine Ev.step (f := fun n => (abutmentlaw51_lives.f n).bind fun t => some t) (fun n => ?_) back_out
    simp only [abutmentlaw51_DiffBack.l0]
    rw [if_neg (by omega), if_pos (by omega)]
  | succ d ih =>
    intro i hd hi
    refine Ev.step (f := fun n => abutmentlaw51_DiffBack.l0 n a (linesOf a a) (linesOf a a) ((linesOf a a).length : Int) ((i + 1 : Nat) : Int)) (fun n => ?_) (ih (i + 1) (by omega) (by omega))
    have e : (rd_T32 (linesOf a a) (i : Int)).f0 = 0 := by rw [rd_row _ i (by omega)]; simp only [hs, List.getElem_map]
    simp only [abutmentlaw51_DiffBack.l0]
    rw [if_pos (by omega), if_pos (by omega), if_pos (by omega), if_pos e, w64 (by omega) (by omega)]; rfl

theorem DiffBack (l0 l1 : List ByteArray) : ∃ k, abutmentlaw51_DiffBack.f k l0 l1 = some true := by
  have hout : Ev (fun n => abutmentlaw51_DiffBack.j0 n l0 l1 true) true :=
    Ev.step (f := fun n => (abutmentlaw51_lives.f n).bind fun t => some t) (fun n => by simp only [abutmentlaw51_DiffBack.j0]; rw [if_pos trivial]) back_out
  have hall : Ev (fun n => abutmentlaw51_DiffBack.f n l0 l1) true := by
    unfold abutmentlaw51_DiffBack.f
    refine Ev.bind (few_comes l0) ?_
    by_cases h0 : fewB l0
    · rw [decide_eq_true h0]
      refine Ev.congr (f := fun n => (abutmentlaw51_few.f n l1).bind fun t => abutmentlaw51_DiffBack.j0 n l0 l1 (!t)) (fun n => by rw [if_pos rfl]) ?_
      refine Ev.bind (few_comes l1) ?_
      by_cases h1 : fewB l1
      · rw [decide_eq_true h1]
        have hn := h0.1
        have hm := h1.1
        have hL := linesOf_length _ l0 l1 rfl
        obtain ⟨o, ho, hoT⟩ := apply_lines _ l0 l1 (Nat.le_refl _) []
        obtain ⟨p, hp, hpT⟩ := apply_turned _ l0 l1 (Nat.le_refl _) []
        rw [List.nil_append] at ho hp
        have hol : o.length = l1.length := by rw [← TL_length o, hoT, TL_length]
        have hpl : p.length = l0.length := by rw [← TL_length p, hpT, TL_length]
        have hj1 : Ev (fun n => abutmentlaw51_DiffBack.j1 n l0 false) true := by
          refine Ev.step (f := fun n => abutmentlaw51_DiffBack.l0 n l0 (linesOf l0 l0) (linesOf l0 l0) ((linesOf l0 l0).length : Int) ((0 : Nat) : Int)) (fun n => ?_) (back_l0 l0 hn _ 0 rfl (by omega))
          simp only [abutmentlaw51_DiffBack.j1]
          rw [if_neg (by simp), diff_Lines.f, if_pos ⟨by omega, by omega⟩, Option.bind_some]; rfl
        refine Ev.step (f := fun n => (diff_Turn.f n (linesOf l0 l1)).bind fun t290 => (diff_Apply.f l1 t290).bind fun bt293 => if true = true then (if bt293.2 = true then (abutmentref01_Same.f n o l1).bind fun t297 => if t297 = true then (abutmentref01_Same.f n bt293.1 l0).bind fun t298 => if t298 = true then abutmentlaw51_DiffBack.j1 n l0 (decide (((linesOf l0 l1).length : Int) > wrap64 ((l0.length : Int) + (l1.length : Int)))) else abutmentlaw51_DiffBack.j1 n l0 true else abutmentlaw51_DiffBack.j1 n l0 true else abutmentlaw51_DiffBack.j1 n l0 true) else abutmentlaw51_DiffBack.j1 n l0 true) (fun n => ?_) ?_
        · simp only [abutmentlaw51_DiffBack.j0, Bool.not_true]
          rw [if_neg (by simp), diff_Lines.f, if_pos ⟨by omega, by omega⟩, Option.bind_some, diff_Apply.f, if_pos (by omega), Option.bind_some, ho]
          rfl
        · refine Ev.bind (turn_comes _ (by omega)) ?_
          refine Ev.congr (f := fun n => (abutmentref01_Same.f n o l1).bind fun t297 => if t297 = true then (abutmentref01_Same.f n p l0).bind fun t298 => if t298 = true then abutmentlaw51_DiffBack.j1 n l0 (decide (((linesOf l0 l1).length : Int) > wrap64 ((l0.length : Int) + (l1.length : Int)))) else abutmentlaw51_DiffBack.j1 n l0 true else abutmentlaw51_DiffBack.j1 n l0 true) (fun n => ?_) ?_
          · rw [diff_Apply.f, if_pos (by rw [List.length_map]; omega), Option.bind_some, hp, if_pos rfl, if_pos rfl]
          · refine Ev.bind (same01_comes o l1 (by omega)) ?_
            rw [decide_eq_true hoT]
            refine Ev.congr (f := fun n => (abutmentref01_Same.f n p l0).bind fun t298 => if t298 = true then abutmentlaw51_DiffBack.j1 n l0 (decide (((linesOf l0 l1).length : Int) > wrap64 ((l0.length : Int) + (l1.length : Int)))) else abutmentlaw51_DiffBack.j1 n l0 true) (fun n => by rw [if_pos rfl]) ?_
            refine Ev.bind (same01_comes p l0 (by omega)) ?_
            rw [decide_eq_true hpT]
            refine Ev.congr (f := fun n => abutmentlaw51_DiffBack.j1 n l0 false) (fun n => ?_) hj1
            rw [if_pos rfl, w64 (by omega) (by omega), show decide (((linesOf l0 l1).length : Int) > (l0.length : Int) + (l1.length : Int)) = false from decide_eq_false (by omega)]
      · rw [decide_eq_false h1]; exact hout
    · rw [decide_eq_false h0]
      exact Ev.congr (fun n => by rw [if_neg (by simp)]) hout
  exact hall.rounds
end Go.Proofs.Ytacglolggaobdab.Pure
