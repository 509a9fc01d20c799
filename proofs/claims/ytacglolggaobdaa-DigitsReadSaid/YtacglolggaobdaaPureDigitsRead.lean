/- The pure statement of DigitsRead: with rounds enough the printed law answers true at every string and bound. -/
import Derived.Test.YtacglolggaobdaaMDigits2
import Derived.Test.YtacglolggaobdaaPAllx4
namespace Go.Proofs.Ytacglolggaobdaa.Pure
open Go.RowKit Go.Proofs.Ytacglolggaobdaa.PAll Go.Proofs.YtacglolggaobdaaW.PrintWords Go.Proofs.YtacglolggaobdaaW.PrintLast Go.Proofs.YtacglolggaobdaaW.PrintMore Go.Proofs.Ytacglolggaobdaa.MDigits
set_option linter.unusedSimpArgs false

theorem DigitsRead : abutmentlaw02_DigitsRead.Pure := by
  intro s most hs hm
  obtain ⟨hm0, hm1⟩ := lit64 hm
  have hmn : mn (s.size : Int) 300 = ((min s.size 300 : Nat) : Int) := by unfold mn; split <;> omega
  obtain ⟨t, ht⟩ : ∃ t : ByteArray, t = s.extract 0 (min s.size 300) := ⟨_, rfl⟩
  have hts : t.size ≤ 300 := by rw [ht, ByteArray.size_extract]; omega
  have hall : Ev (fun k => abutmentlaw02_DigitsRead.f k s most) true := by
    unfold abutmentlaw02_DigitsRead.f digits_Dec.f digits_Hex.f
    refine Ev.congr (f := fun k => (abutmentref02_Number.f k t 10 most).bind fun b1 => (abutmentref02_Number.f k t 16 most).bind fun b2 => if (numOf 10 most t.data.toList).1 = b1.1 then (if (numOf 10 most t.data.toList).2 = b1.2 then (if (numOf 16 most t.data.toList).1 = b2.1 then (if (numOf 16 most t.data.toList).2 = b2.2 then some true else some false) else some false) else some false) else some false) (fun k => ?_) ?_
    · rw [if_pos (by omega), if_pos (by omega), hmn, Int.toNat_natCast, ← ht, number_is t 10 most (by decide) (by decide) hm0 hm1 (by omega), number_is t 16 most (by decide) (by decide) hm0 hm1 (by omega), lives_is]
      rfl
    · refine Ev.bind (ref_comes t 10 most (by decide) (by decide) hm0 hm1 (by omega)) (Ev.bind (ref_comes t 16 most (by decide) (by decide) hm0 hm1 (by omega)) ?_)
      refine Ev.congr (fun k => ?_) (Ev.now true)
      simp
  exact hall.rounds
end Go.Proofs.Ytacglolggaobdaa.Pure
