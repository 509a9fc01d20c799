/- The pure statement of CanonNames: with rounds enough the printed law answers true at every string. -/
import Derived.Test.YtacglolggaobdabMNames
import Derived.Test.YtacglolggaobdabPAllx3
namespace Go.Proofs.Ytacglolggaobdab.Pure
open Go.RowKit Go.Proofs.Ytacglolggaobdab.PAll Go.Proofs.Ytacglolggaobdab.Hn Go.Proofs.Ytacglolggaobdab.CF Go.Proofs.Ytacglolggaobdab.MH Go.Proofs.Ytacglolggaobdab.MN Go.Proofs.YtacglolggaobdabW.PrintWords Go.Proofs.YtacglolggaobdabW.PrintLast Go.Proofs.YtacglolggaobdabW.PrintMore
set_option linter.unusedSimpArgs false

theorem CanonNames : abutmentlaw50_CanonNames.Pure := by
  intro s hs
  have hmn : mn (s.size : Int) 300 = ((min s.size 300 : Nat) : Int) := by unfold mn; split <;> omega
  obtain ⟨t, ht⟩ : ∃ t : ByteArray, t = s.extract 0 (min s.size 300) := ⟨_, rfl⟩
  have hts : t.size ≤ 300 := by rw [ht, ByteArray.size_extract]; omega
  have e1 : canon_Name.f t = some (nameOf t) := by unfold canon_Name.f; rw [if_pos (by omega)]
  have e2 : canon_Name.f (nameOf t) = some (nameOf t) := by unfold canon_Name.f; rw [if_pos (by rw [cap_size]; omega), name_name]
  have e3 : canon_Single.f t = some (singleB t) := by unfold canon_Single.f; rw [if_pos (by omega)]
  have hall : Ev (fun k => abutmentlaw50_CanonNames.f k s) true := by
    unfold abutmentlaw50_CanonNames.f
    refine Ev.congr (f := fun k => (abutmentref50_Name.f k t).bind fun n => if (nameOf t).toList = n.toList then ((abutmentref50_Single.f k t).bind fun g => if (singleB t == g) = true then ((octet_Fold.f k (nameOf t) t).bind fun q => if q = true then ((abutmentlaw50_lives.f k).bind fun t => some t) else some false) else some false) else some false) (fun k => ?_) ?_
    · rw [if_pos (by omega), if_pos (by omega), hmn, Int.toNat_natCast, ← ht, e1]
      simp only [Option.bind_some]
      rw [e2, e3]
      simp only [Option.bind_some, if_true]
    · refine Ev.bind (rname_comes t (by omega)) ?_
      refine Ev.congr (f := fun k => (abutmentref50_Single.f k t).bind fun g => if (singleB t == g) = true then ((octet_Fold.f k (nameOf t) t).bind fun q => if q = true then ((abutmentlaw50_lives.f k).bind fun t => some t) else some false) else some false) (fun k => by rw [if_pos rfl]) ?_
      refine Ev.bind (rsingle_comes t (by omega)) ?_
      refine Ev.congr (f := fun k => (octet_Fold.f k (nameOf t) t).bind fun q => if q = true then ((abutmentlaw50_lives.f k).bind fun t => some t) else some false) (fun k => by rw [if_pos (by simp)]) ?_
      refine Ev.bind (fold_comes _ _ (by rw [cap_size]; omega)) ?_
      rw [fold_name]
      exact Ev.congr (fun k => by rw [if_pos rfl]) (Ev.bind clives_comes (Ev.now _))
  exact hall.rounds
end Go.Proofs.Ytacglolggaobdab.Pure
