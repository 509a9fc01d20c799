/- The pure statement of CanonFields: with rounds enough the printed law answers true at every two lists of fields. -/
import Derived.Test.YtacglolggaobdabMRef50
import Derived.Test.YtacglolggaobdabPAllx7
namespace Go.Proofs.Ytacglolggaobdab.Pure
open Go.RowKit Go.Sort Go.Proofs.Ytacglolggaobdab.PAll Go.Proofs.Ytacglolggaobdab.Hn Go.Proofs.Ytacglolggaobdab.CF Go.Proofs.Ytacglolggaobdab.MH Go.Proofs.Ytacglolggaobdab.MN Go.Proofs.Ytacglolggaobdab.MR Go.Proofs.Ytacglolggaobdab.St Go.Proofs.YtacglolggaobdabW.PrintWords Go.Proofs.YtacglolggaobdabW.PrintLast Go.Proofs.YtacglolggaobdabW.PrintMore
set_option linter.unusedSimpArgs false

theorem CanonFields (l0 l1 : List S83) : ∃ k, abutmentlaw50_CanonFields.f k l0 l1 = some true := by
  have hlast : Ev (fun n => (abutmentlaw50_lives.f n).bind fun t => some t) true := Ev.bind clives_comes (Ev.now true)
  have hout : Ev (fun n => abutmentlaw50_CanonFields.j0 n l0 l1 true) true :=
    Ev.step (f := fun n => (abutmentlaw50_lives.f n).bind fun t => some t) (fun n => by simp only [abutmentlaw50_CanonFields.j0]; rw [if_pos trivial]) hlast
  have hall : Ev (fun n => abutmentlaw50_CanonFields.f n l0 l1) true := by
    unfold abutmentlaw50_CanonFields.f
    refine Ev.bind (few10_comes l0) ?_
    by_cases h0 : fewF l0
    · rw [decide_eq_true h0]
      refine Ev.congr (f := fun n => (abutmentlaw10_Few.f n l1).bind fun t => abutmentlaw50_CanonFields.j0 n l0 l1 (!t)) (fun n => by rw [if_pos rfl]) ?_
      refine Ev.bind (few10_comes l1) ?_
      by_cases h1 : fewF l1
      · rw [decide_eq_true h1]
        have k0 := okF_few h0
        have k1 := okF_few h1
        have n0 := h0.1
        have n1 := h1.1
        have lc := canon_len n0
        refine Ev.step (f := fun n => (abutmentref50_Fields.f n l0).bind fun a => (abutmentref09_Same.f n (canonF l0) a).bind fun t => if t = true then ((canon_Same.f n l0 l1).bind fun p => (abutmentref50_Same.f n l0 l1).bind fun q => if (p == q) = true then ((canon_Lines.f n l0).bind fun u => (abutmentref50_Lines.f n l0).bind fun v => (abutmentref01_Same.f n u v).bind fun s => if s = true then ((abutmentlaw50_lives.f n).bind fun t => some t) else some false) else some false) else some false) (fun n => ?_) ?_
        · simp only [abutmentlaw50_CanonFields.j0, Bool.not_true]
          rw [if_neg (by simp), canon_Fields.f, if_pos k0, Option.bind_some]
        · refine Ev.bind (rfields_comes l0 k0) (Ev.bind (same09_comes _ _ (by omega)) ?_)
          rw [decide_eq_true rfl]
          refine Ev.congr (f := fun n => (canon_Same.f n l0 l1).bind fun p => (abutmentref50_Same.f n l0 l1).bind fun q => if (p == q) = true then ((canon_Lines.f n l0).bind fun u => (abutmentref50_Lines.f n l0).bind fun v => (abutmentref01_Same.f n u v).bind fun s => if s = true then ((abutmentlaw50_lives.f n).bind fun t => some t) else some false) else some false) (fun n => by rw [if_pos rfl]) ?_
          refine Ev.bind (same_comes l0 l1 k0 k1 n0 n1) (Ev.bind (rsame_comes l0 l1 k0 k1 n0 n1) ?_)
          refine Ev.congr (f := fun n => (canon_Lines.f n l0).bind fun u => (abutmentref50_Lines.f n l0).bind fun v => (abutmentref01_Same.f n u v).bind fun s => if s = true then ((abutmentlaw50_lives.f n).bind fun t => some t) else some false) (fun n => by rw [if_pos (by simp)]) ?_
          refine Ev.bind (lines_comes l0 k0 n0) (Ev.bind (rlines_comes l0 k0 n0) (Ev.bind (same01_comes _ _ (by rw [List.length_map]; omega)) ?_))
          rw [decide_eq_true rfl]
          exact Ev.congr (fun n => by rw [if_pos rfl]) hlast
      · rw [decide_eq_false h1]; exact hout
    · rw [decide_eq_false h0]
      exact Ev.congr (fun n => by rw [if_neg (by simp)]) hout
  exact hall.rounds
end Go.Proofs.Ytacglolggaobdab.Pure
