/- The pure statement of DiffLines: with rounds enough the printed law answers true at every two lists. -/
import Derived.Test.YtacglolggaobdabMDiff
import Derived.Test.YtacglolggaobdabPAllx7
namespace Go.Proofs.Ytacglolggaobdab.Pure
open Go.RowKit Go.Proofs.Ytacglolggaobdab.PAll Go.Proofs.YtacglolggaobdabW.PrintWords Go.Proofs.Ytacglolggaobdab.MDiff

theorem DiffLines (l0 l1 : List ByteArray) : ∃ k, abutmentlaw51_DiffLines.f k l0 l1 = some true := by
  have hlast : Ev (fun n => (abutmentlaw51_lives.f n).bind fun t => some t) true := Ev.bind lives_comes (Ev.now true)
  have hout : Ev (fun n => abutmentlaw51_DiffLines.j0 n l0 l1 true) true :=
    Ev.step (f := fun n => (abutmentlaw51_lives.f n).bind fun t => some t) (fun n => by simp only [abutmentlaw51_DiffLines.j0]; rw [if_pos trivial]) hlast
  have hall : Ev (fun n => abutmentlaw51_DiffLines.f n l0 l1) true := by
    unfold abutmentlaw51_DiffLines.f
    refine Ev.bind (few_comes l0) ?_
    by_cases h0 : fewB l0
    · rw [decide_eq_true h0]
      refine Ev.congr (f := fun n => (abutmentlaw51_few.f n l1).bind fun t => abutmentlaw51_DiffLines.j0 n l0 l1 (!t)) (fun n => by rw [if_pos rfl]) ?_
      refine Ev.bind (few_comes l1) ?_
      by_cases h1 : fewB l1
      · rw [decide_eq_true h1]
        have hn := h0.1
        have hm := h1.1
        refine Ev.step (f := fun n => (abutmentref51_Lines.f n l0 l1).bind fun t => (abutmentlaw51_same.f n (linesOf l0 l1) t).bind fun t => if t = true then (abutmentlaw51_lives.f n).bind fun t => some t else some false) (fun n => ?_) ?_
        · simp only [abutmentlaw51_DiffLines.j0, Bool.not_true]
          rw [if_neg (by simp), diff_Lines.f, if_pos ⟨by omega, by omega⟩, Option.bind_some]
        · refine Ev.bind (refLines_comes l0 l1 (by omega) (by omega)) (Ev.bind (same_comes _ (Nat.le_trans (linesOf_length _ _ _ rfl) (by omega))) ?_)
          exact Ev.congr (fun n => by rw [if_pos rfl]) hlast
      · rw [decide_eq_false h1]; exact hout
    · rw [decide_eq_false h0]
      exact Ev.congr (fun n => by rw [if_neg (by simp)]) hout
  exact hall.rounds
end Go.Proofs.Ytacglolggaobdab.Pure
