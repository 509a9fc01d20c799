/- The pure statement of HeaderKeeps: with rounds enough the printed law answers true at every list of fields, every field and every other name. -/
import Derived.Test.YtacglolggaobdaaMHeader3
import Derived.Test.YtacglolggaobdaaPAllx5
import Derived.Test.YtacglolggaobdaaPAllx9
namespace Go.Proofs.Ytacglolggaobdaa.Pure
open Go.RowKit Go.Proofs.Ytacglolggaobdaa.PAll Go.Proofs.Ytacglolggaobdaa.Hn Go.Proofs.Ytacglolggaobdaa.MH Go.Proofs.YtacglolggaobdaaW.PrintWords Go.Proofs.YtacglolggaobdaaW.PrintLast Go.Proofs.YtacglolggaobdaaW.PrintMore
set_option linter.unusedSimpArgs false

theorem HeaderKeeps (l : List S84) (nm v o : ByteArray) : ∃ k, abutmentlaw10_HeaderKeeps.f k l nm v o = some true := by
  have hlast : Ev (fun n => (abutmentlaw10_lives.f n).bind fun t => some t) true := Ev.bind hlives_comes (Ev.now true)
  have hout : Ev (fun n => abutmentlaw10_HeaderKeeps.j0 n l o true nm v) true :=
    Ev.step (fun n => by simp only [abutmentlaw10_HeaderKeeps.j0]; rw [if_pos trivial]) hlast
  have hall : Ev (fun n => abutmentlaw10_HeaderKeeps.f n l nm v o) true := by
    unfold abutmentlaw10_HeaderKeeps.f
    refine Ev.bind (few10_comes l) ?_
    by_cases h0 : fewF l
    · rw [decide_eq_true h0]
      refine Ev.congr (fun n => if_pos rfl) ?_
      by_cases h1 : (nm.size : Int) > 100
      · exact Ev.congr (fun n => if_pos h1) hout
      · refine Ev.congr (fun n => if_neg h1) ?_
        by_cases h2 : (v.size : Int) > 300
        · exact Ev.congr (fun n => if_pos h2) hout
        · refine Ev.congr (fun n => if_neg h2) ?_
          by_cases h3 : (o.size : Int) > 100
          · rw [decide_eq_true h3]; exact hout
          · rw [decide_eq_false h3]
            have hl40 := h0.1
            have hset := setF_fit nm v h0 (by omega)
            have hgone := keepF_fit (isAny [nm]) h0.fit
            have e1 : header_Set.f l nm v = some (setF l nm v) := if_pos ⟨h0.fit, by omega⟩
            have e2 : header_Without.f l [nm] = some (keepF (isAny [nm]) l) := if_pos ⟨h0.fit, ⟨by simp, by simp; omega⟩⟩
            have e3 : header_Get.f (setF l nm v) nm = some (v, true) := by
              unfold header_Get.f
              rw [if_pos ⟨hset, by omega⟩, find_all, setF_same]
            have e4 : ∀ m, fit m → header_Count.f m nm = some ((allOf m nm).length : Int) := fun m hm => by
              unfold header_Count.f header_All.f
              rw [if_pos ⟨hm, by omega⟩]; rfl
            have e5 : ∀ m, fit m → header_All.f m o = some (allOf m o) := fun m hm => if_pos ⟨hm, by omega⟩
            refine Ev.step (f := fun n => (header_Same.f n l l).bind fun t => abutmentlaw10_HeaderKeeps.j1 n l o (setF l nm v) (keepF (isAny [nm]) l) (!t) nm v) (fun n => ?_) (Ev.bind (hsame_comes l l (by omega)) ?_)
            · simp only [abutmentlaw10_HeaderKeeps.j0]
              rw [if_neg (by decide), Option.bind_some, if_pos (by simp; omega), e1, Option.bind_some, e2, Option.bind_some, e3, Option.bind_some, if_pos rfl, if_pos rfl, e4 _ hset, setF_same, Option.bind_some, if_pos (by rfl), e4 _ hgone, isAny_one, allOf_keep_same, Option.bind_some, if_pos (by rfl), List.nil_append]
            · rw [decide_eq_true rfl]
              refine Ev.step (f := fun n => (abutmentref10_Is.f n o nm).bind fun t => if t = true then ((abutmentlaw10_lives.f n).bind fun t => some t) else ((abutmentref01_Same.f n (allOf (setF l nm v) o) (allOf l o)).bind fun t => if t = true then ((abutmentref01_Same.f n (allOf (keepF (isAny [nm]) l) o) (allOf l o)).bind fun t => if t = true then ((abutmentlaw10_lives.f n).bind fun t => some t) else some false) else some false)) (fun n => ?_) (Ev.bind (is_comes o nm (by omega) (by omega)) ?_)
              · simp only [abutmentlaw10_HeaderKeeps.j1]
                rw [if_neg (by decide), e5 _ h0.fit, e5 _ hset, e5 _ hgone]; rfl
              · cases hq : foldB o nm with
                | true => exact Ev.congr (fun n => if_pos rfl) hlast
                | false =>
                  rw [isAny_one, setF_other nm v o hq, allOf_keep_other nm o hq]
                  have hlen := allOf_len l o
                  refine Ev.congr (fun n => if_neg (by decide)) (Ev.bind (same01_comes _ _ (by omega)) ?_)
                  rw [decide_eq_true rfl]
                  refine Ev.congr (fun n => if_pos rfl) (Ev.bind (same01_comes _ _ (by omega)) ?_)
                  rw [decide_eq_true rfl]
                  exact Ev.congr (fun n => if_pos rfl) hlast
    · rw [decide_eq_false h0]
      exact Ev.congr (fun n => by rw [if_neg (by simp)]) hout
  exact hall.rounds
end Go.Proofs.Ytacglolggaobdaa.Pure
