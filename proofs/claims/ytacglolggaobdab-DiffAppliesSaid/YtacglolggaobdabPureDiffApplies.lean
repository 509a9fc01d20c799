/- The pure statement of DiffApplies: with rounds enough the printed law answers true at every list of lines and every list of rows. -/
import Derived.Test.YtacglolggaobdabMDiff2
import Derived.Test.YtacglolggaobdabPAllx9
namespace Go.Proofs.Ytacglolggaobdab.Pure
open Go.RowKit Go.Proofs.Ytacglolggaobdab.PAll Go.Proofs.YtacglolggaobdabW.PrintWords Go.Proofs.Ytacglolggaobdab.MDiff
open Go.Proofs.Ytacglolggaobdab.MTable (w64)
set_option linter.unusedVariables false
set_option linter.unusedSimpArgs false

theorem applies_out : Ev (fun n => (abutmentlaw51_lives.f n).bind fun t => some t) true := Ev.bind lives_comes (Ev.now true)

theorem applies_l1 (l : List S32) (hl : l.length ≤ 60) (x : List ByteArray) (hx : x.length ≤ 1000000) (b : Bool) : ∀ (d i : Nat), l.length - i = d → i ≤ l.length →
    Ev (fun n => abutmentlaw51_DiffApplies.l1 n l x b x b (l.map turnRow) (l.length : Int) (i : Int)) true := by
  intro d
  induction d with
  | zero =>
    intro i hd hi
    refine Ev.step (f := fun n => (abutmentref01_Same.f n x x).bind fun t => if t = true then (if (b == b) = true then (abutmentlaw51_lives.f n).bind fun t => some t else some false) else some false) (fun n => ?_) (Ev.bind (same01_comes x x hx) ?_)
    · simp only [abutmentlaw51_DiffApplies.l1]
      rw [if_neg (by omega)]
    · rw [decide_eq_true rfl]
      exact Ev.congr (fun n => by rw [if_pos rfl, if_pos (by simp)]) applies_out
  | succ d ih =>
    intro i hd hi
    have hil : i < l.length := by omega
    have e1 : rd_T32 l (i : Int) = l[i] := rd_row l i hil
    have e2 : rd_T32 (l.map turnRow) (i : Int) = turnRow l[i] := by rw [rd_row _ i (by rw [List.length_map]; exact hil), List.getElem_map]
    have hj : Ev (fun n => abutmentlaw51_DiffApplies.j3 n l x b x b (l.map turnRow) (l.length : Int) (i : Int) false) true := by
      refine Ev.step (f := fun n => abutmentlaw51_DiffApplies.l1 n l x b x b (l.map turnRow) (l.length : Int) ((i + 1 : Nat) : Int)) (fun n => ?_) (ih (i + 1) (by omega) (by omega))
      simp only [abutmentlaw51_DiffApplies.j3]
      rw [if_neg (by simp), w64 (by omega) (by omega)]; rfl
    refine Ev.step (f := fun n => abutmentlaw51_DiffApplies.j3 n l x b x b (l.map turnRow) (l.length : Int) (i : Int) false) (fun n => ?_) hj
    simp only [abutmentlaw51_DiffApplies.l1]
    rw [if_pos (by omega), if_pos (by omega), if_pos (by rw [List.length_map]; omega), if_pos (by omega), e1, e2]
    have ht : (turnRow l[i]).f1 = l[i].f1 := by unfold turnRow; split <;> (try split) <;> rfl
    rw [ht, if_pos rfl]
    by_cases h1 : l[i].f0 = 1
    · have hf : (turnRow l[i]).f0 = 2 := by unfold turnRow; rw [if_pos h1]
      rw [hf, h1, if_neg (by decide), w64 (by omega) (by omega), if_pos (by decide), if_pos rfl]
      rfl
    · by_cases h2 : l[i].f0 = 2
      · have hf : (turnRow l[i]).f0 = 1 := by unfold turnRow; rw [if_neg h1, if_pos h2]
        rw [hf, h2, if_neg (by decide), w64 (by omega) (by omega), if_pos (by decide), if_neg (by decide)]
        rfl
      · have hf : (turnRow l[i]).f0 = l[i].f0 := by unfold turnRow; rw [if_neg h1, if_neg h2]
        rw [hf, if_pos rfl, if_neg h1]
        congr 1
        have : (l[i].f0 == 2) = false := beq_eq_false_iff_ne.2 h2
        rw [this]; simp

theorem applies_l0 (a : List ByteArray) (l : List S32) (ha : a.length ≤ 25) (hl : l.length ≤ 60) : ∀ (d i : Nat), l.length - i = d → i ≤ l.length →
    Ev (fun n => abutmentlaw51_DiffApplies.l0 n a l ((l.take i).map to33) l (l.length : Int) (i : Int)) true := by
  intro d
  induction d with
  | zero =>
    intro i hd hi
    obtain rfl : i = l.length := by omega
    rw [List.take_length]
    have hx : (applyF a l []).1.length ≤ 1000000 := by
      have := apply_len l a []
      simp at this
      omega
    refine Ev.step (f := fun n => (abutmentref51_Apply.f n a (l.map to33)).bind fun y => (diff_Turn.f n l).bind fun t => if (t.length : Int) = (l.length : Int) then abutmentlaw51_DiffApplies.l1 n l (applyF a l []).1 (applyF a l []).2 y.1 y.2 t (t.length : Int) 0 else some false) (fun n => ?_) (Ev.bind (refApply_comes a l (by omega)) (Ev.bind (turn_comes l (by omega)) ?_))
    · simp only [abutmentlaw51_DiffApplies.l0]
      rw [if_neg (by omega), diff_Apply.f, if_pos (by omega), Option.bind_some]
    · refine Ev.congr (f := fun n => abutmentlaw51_DiffApplies.l1 n l (applyF a l []).1 (applyF a l []).2 (applyF a l []).1 (applyF a l []).2 (l.map turnRow) (l.length : Int) ((0 : Nat) : Int)) (fun n => ?_) (applies_l1 l hl _ hx _ _ 0 rfl (by omega))
      rw [List.length_map, if_pos rfl]; rfl
  | succ d ih =>
    intro i hd hi
    have hil : i < l.length := by omega
    by_cases hs : ((rd_T32 l (i : Int)).f1.size : Int) > 100
    · refine Ev.step (f := fun n => (abutmentlaw51_lives.f n).bind fun t => some t) (fun n => ?_) applies_out
      simp only [abutmentlaw51_DiffApplies.l0]
      rw [if_pos (by omega), if_pos (by omega), if_pos (by omega), if_pos hs]
    · have h1 := ih (i + 1) (by omega) (by omega)
      refine Ev.step (f := fun n => abutmentlaw51_DiffApplies.l0 n a l ((l.take (i + 1)).map to33) l (l.length : Int) ((i + 1 : Nat) : Int)) (fun n => ?_) h1
      simp only [abutmentlaw51_DiffApplies.l0]
      rw [if_pos (by omega), if_pos (by omega), if_pos (by omega), if_neg hs, if_pos (by rw [List.length_map, List.length_take]; omega), w64 (by omega) (by omega), rd_row l i hil, List.take_succ_eq_append_getElem hil, List.map_append]
      rfl

theorem DiffApplies (l0 : List ByteArray) (l1 : List S32) : ∃ k, abutmentlaw51_DiffApplies.f k l0 l1 = some true := by
  have hout : Ev (fun n => abutmentlaw51_DiffApplies.j0 n l0 l1 true) true :=
    Ev.step (f := fun n => (abutmentlaw51_lives.f n).bind fun t => some t) (fun n => by simp only [abutmentlaw51_DiffApplies.j0]; rw [if_pos trivial]) applies_out
  have hall : Ev (fun n => abutmentlaw51_DiffApplies.f n l0 l1) true := by
    unfold abutmentlaw51_DiffApplies.f
    refine Ev.bind (few_comes l0) ?_
    by_cases h0 : fewB l0
    · rw [decide_eq_true h0]
      refine Ev.congr (f := fun n => abutmentlaw51_DiffApplies.j0 n l0 l1 (decide ((l1.length : Int) > 60))) (fun n => by rw [if_pos rfl]) ?_
      by_cases h1 : (l1.length : Int) > 60
      · rw [decide_eq_true h1]; exact hout
      · rw [decide_eq_false h1]
        refine Ev.step (f := fun n => abutmentlaw51_DiffApplies.l0 n l0 l1 ((l1.take 0).map to33) l1 (l1.length : Int) ((0 : Nat) : Int)) (fun n => ?_) (applies_l0 l0 l1 h0.1 (by omega) _ 0 rfl (by omega))
        simp only [abutmentlaw51_DiffApplies.j0]
        rw [if_neg (by simp)]; rfl
    · rw [decide_eq_false h0]
      exact Ev.congr (fun n => by rw [if_neg (by simp)]) hout
  exact hall.rounds
end Go.Proofs.Ytacglolggaobdab.Pure
