/- The pure statement of HeaderTells: with rounds enough the printed law answers true at every two lists of fields and name. -/
import Derived.Test.YtacglolggaobdaaMHeader2
import Derived.Test.YtacglolggaobdaaPAllx5
import Derived.Test.YtacglolggaobdaaPAllx6
namespace Go.Proofs.Ytacglolggaobdaa.Pure
open Go.RowKit Go.Proofs.Ytacglolggaobdaa.PAll Go.Proofs.Ytacglolggaobdaa.Hn Go.Proofs.Ytacglolggaobdaa.MH Go.Proofs.YtacglolggaobdaaW.PrintWords Go.Proofs.YtacglolggaobdaaW.PrintLast Go.Proofs.YtacglolggaobdaaW.PrintMore
set_option linter.unusedSimpArgs false

theorem HeaderTells (l m : List S84) (nm : ByteArray) : ∃ k, abutmentlaw10_HeaderTells.f k l m nm = some true := by
  have hlast : Ev (fun n => (abutmentlaw10_lives.f n).bind fun t => some t) true := Ev.bind hlives_comes (Ev.now true)
  have hout : Ev (fun n => abutmentlaw10_HeaderTells.j0 n l m nm true) true :=
    Ev.step (fun n => by simp only [abutmentlaw10_HeaderTells.j0]; rw [if_pos trivial]) hlast
  have hall : Ev (fun n => abutmentlaw10_HeaderTells.f n l m nm) true := by
    unfold abutmentlaw10_HeaderTells.f
    refine Ev.bind (few10_comes l) ?_
    by_cases h0 : fewF l
    · rw [decide_eq_true h0]
      refine Ev.congr (f := fun n => (abutmentlaw10_Few.f n m).bind fun t => if t = true then abutmentlaw10_HeaderTells.j0 n l m nm (decide ((nm.size : Int) > 100)) else abutmentlaw10_HeaderTells.j0 n l m nm true) (fun n => by rw [if_pos rfl]) ?_
      refine Ev.bind (few10_comes m) ?_
      by_cases h1 : fewF m
      · rw [decide_eq_true h1]
        refine Ev.congr (f := fun n => abutmentlaw10_HeaderTells.j0 n l m nm (decide ((nm.size : Int) > 100))) (fun n => by rw [if_pos rfl]) ?_
        by_cases hn : (nm.size : Int) > 100
        · rw [decide_eq_true hn]; exact hout
        · rw [decide_eq_false hn]
          have hn' : nm.size ≤ 100 := by omega
          have hs := all_small l nm h0
          have hlen := h0.1
          refine Ev.step (f := fun n => (abutmentref10_Get.f n l nm).bind fun g => (abutmentref10_Combined.f n l nm).bind fun c => (abutmentref10_All.f n l nm).bind fun a => if (getOf l nm).1.toList = g.1.toList then (if ((getOf l nm).2 == g.2) = true then (if (combOf l nm).1.toList = c.1.toList then (if ((combOf l nm).2 == c.2) = true then ((abutmentref01_Same.f n (allOf l nm) a).bind fun t => if t = true then (if ((allOf l nm).length : Int) = (a.length : Int) then ((header_Same.f n l m).bind fun x => (abutmentref09_Same.f n l m).bind fun y => if (x == y) = true then ((abutmentlaw10_lives.f n).bind fun t => some t) else some false) else some false) else some false) else some false) else some false) else some false) else some false) (fun n => ?_) ?_
          · simp only [abutmentlaw10_HeaderTells.j0]
            rw [if_neg (by decide), get_is l nm h0 hn', comb_is l nm h0 hn', all_is l nm h0 hn', header_Count.f, all_is l nm h0 hn']
            rfl
          · refine Ev.bind (rget_comes l nm h0 hn') (Ev.bind (rcomb_comes l nm h0 hn') (Ev.bind (all_comes l nm (by omega) (fun x hx => by have := (h0.2 x hx).1; omega) (by omega)) ?_))
            refine Ev.congr (f := fun n => (abutmentref01_Same.f n (allOf l nm) (allOf l nm)).bind fun t => if t = true then ((header_Same.f n l m).bind fun x => (abutmentref09_Same.f n l m).bind fun y => if (x == y) = true then ((abutmentlaw10_lives.f n).bind fun t => some t) else some false) else some false) (fun n => by rw [if_pos rfl, if_pos (by simp), if_pos rfl, if_pos (by simp), if_pos rfl]) ?_
            refine Ev.bind (same01_comes _ _ (by omega)) ?_
            rw [decide_eq_true rfl]
            refine Ev.congr (f := fun n => (header_Same.f n l m).bind fun x => (abutmentref09_Same.f n l m).bind fun y => if (x == y) = true then ((abutmentlaw10_lives.f n).bind fun t => some t) else some false) (fun n => by rw [if_pos rfl]) ?_
            refine Ev.bind (hsame_comes l m (by omega)) (Ev.bind (same09_comes l m (by omega)) ?_)
            exact Ev.congr (fun n => by rw [if_pos (by simp)]) hlast
      · rw [decide_eq_false h1]
        exact Ev.congr (fun n => by rw [if_neg (by simp)]) hout
    · rw [decide_eq_false h0]
      exact Ev.congr (fun n => by rw [if_neg (by simp)]) hout
  exact hall.rounds
end Go.Proofs.Ytacglolggaobdaa.Pure
