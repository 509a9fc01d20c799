/- The pure statement of DigitsBack: the printed law answers true at every three numbers. -/
import Derived.Test.YtacglolggaobdaaMDigits2
import Derived.Test.YtacglolggaobdaaPAllx4
namespace Go.Proofs.Ytacglolggaobdaa.Pure
open Go.RowKit Go.Proofs.Ytacglolggaobdaa.PAll Go.Proofs.YtacglolggaobdaaW.PrintWords Go.Proofs.YtacglolggaobdaaW.PrintLast Go.Proofs.YtacglolggaobdaaW.PrintMore Go.Proofs.Ytacglolggaobdaa.MDigits
set_option linter.unusedSimpArgs false

theorem DigitsBack : abutmentlaw02_DigitsBack.Pure := by
  intro n most wide hn hm hw
  obtain ⟨hm0, hm1⟩ := lit64 hm
  obtain ⟨hn0, hn1⟩ := lit64 hn
  obtain ⟨hw0, hw1⟩ := lit64 hw
  unfold abutmentlaw02_DigitsBack.f digits_HexText.f
  by_cases h0 : n < 0
  · rw [if_pos h0, if_pos h0, lives_is]
    decide +kernel
  · obtain ⟨m, rfl⟩ : ∃ m : Nat, n = (m : Int) := ⟨n.toNat, by omega⟩
    have e1 : digits_figures.f (m : Int) 10 = some ⟨(figs 10 m).toArray⟩ := by unfold digits_figures.f; rw [if_pos ⟨by decide, by decide, hn0, hn1⟩]; rfl
    have e2 : digits_figures.f (m : Int) 16 = some ⟨(figs 16 m).toArray⟩ := by unfold digits_figures.f; rw [if_pos ⟨by decide, by decide, hn0, hn1⟩]; rfl
    have et : txt (m : Int) = figs 10 m := by unfold txt; rw [if_neg h0]; rfl
    have e3 : digits_Pad.f (m : Int) wide = some ⟨(List.replicate (padN (m : Int) wide) 48 ++ figs 10 m).toArray⟩ := by unfold digits_Pad.f; rw [if_pos ⟨hn0, hn1, hw0, hw1⟩, et]
    have l1 := figs_len 10 m (by decide) (by omega)
    have l2 := figs_len 16 m (by decide) (by omega)
    have l3 : padN (m : Int) wide ≤ 20 := by unfold padN; split <;> omega
    have b1 := back 10 0 m most (by decide) (by decide)
    have b2 := back 16 0 m most (by decide) (by decide)
    have b3 := back 10 (padN (m : Int) wide) m most (by decide) (by decide)
    simp only [List.replicate_zero, List.nil_append] at b1 b2
    have q1 : digits_Dec.f ⟨(figs 10 m).toArray⟩ most = some (ans most m) := by
      unfold digits_Dec.f
      rw [number_is _ 10 most (by decide) (by decide) hm0 hm1 (by simp [ByteArray.size]; omega)]
      exact congrArg some b1
    have q2 : digits_Hex.f ⟨(figs 16 m).toArray⟩ most = some (ans most m) := by
      unfold digits_Hex.f
      rw [number_is _ 16 most (by decide) (by decide) hm0 hm1 (by simp [ByteArray.size]; omega)]
      exact congrArg some b2
    have q3 : digits_Dec.f ⟨(List.replicate (padN (m : Int) wide) 48 ++ figs 10 m).toArray⟩ most = some (ans most m) := by
      unfold digits_Dec.f
      rw [number_is _ 10 most (by decide) (by decide) hm0 hm1 (by simp [ByteArray.size]; omega)]
      exact congrArg some b3
    unfold digits_Text.f
    rw [if_neg h0, if_neg h0, if_neg h0, e1, e2, e3]
    simp only [Option.bind_some]
    rw [q1, q2, q3, lives_is]
    simp only [Option.bind_some]
    by_cases hlt : most < (m : Int)
    · have ea : ans most (m : Int) = (0, 5) := by unfold ans; rw [if_neg (by omega)]
      rw [ea, if_pos hlt]
      simp
    · have ea : ans most (m : Int) = ((m : Int), 0) := by unfold ans; rw [if_pos (by omega)]
      rw [ea, if_neg hlt]
      simp
end Go.Proofs.Ytacglolggaobdaa.Pure
