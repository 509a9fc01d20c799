/- abutmentlaw49.lives answers true. -/
import Derived.Test.YtacglolggaobdabMHist
import Derived.Test.YtacglolggaobdabGtallyStatuses
import Derived.Test.YtacglolggaobdabPAllx2
namespace Go.Proofs.Ytacglolggaobdab.MT
open Go.RowKit Go.Proofs.Ytacglolggaobdab.PAll Go.Proofs.Ytacglolggaobdab.TL Go.Proofs.Ytacglolggaobdab.St Go.Proofs.YtacglolggaobdabW.PrintWords
set_option linter.unusedVariables false
set_option linter.unusedSimpArgs false

theorem fig1 (d : Nat) (h : d < 10) : digits_Text.f (d : Int) = some ⟨#[sgn d]⟩ := by
  unfold digits_Text.f
  rw [if_neg (by omega)]
  unfold digits_figures.f
  rw [if_pos ⟨by decide, by decide, by omega, by omega⟩]
  show (some (ByteArray.mk (figs 10 (d : Int).natAbs).toArray)).bind _ = _
  unfold figs
  rw [Int.natAbs_natCast, Nat.div_eq_of_lt h, figFrom_done, Nat.mod_eq_of_lt h]
  rfl
theorem st2 : stText 200 = some ⟨#[50]⟩ := by
  unfold stText
  rw [show wrap64 (Int.tdiv 200 100) = ((2 : Nat) : Int) by unfold wrap64; decide, fig1 2 (by decide)]; rfl
theorem st4 : stText 404 = some ⟨#[52]⟩ := by
  unfold stText
  rw [show wrap64 (Int.tdiv 404 100) = ((4 : Nat) : Int) by unfold wrap64; decide, fig1 4 (by decide)]; rfl
theorem st2b : stText 204 = some ⟨#[50]⟩ := by
  unfold stText
  rw [show wrap64 (Int.tdiv 204 100) = ((2 : Nat) : Int) by unfold wrap64; decide, fig1 2 (by decide)]; rfl
theorem hist_lives : hist [[50, 120, 120], [52, 120, 120], [50, 120, 120]] = [⟨⟨#[50, 120, 120]⟩, 2⟩, ⟨⟨#[52, 120, 120]⟩, 1⟩] := by kernel_rfl
theorem lives49 : abutmentlaw49_lives.f = some true := by
  unfold abutmentlaw49_lives.f tally_Statuses.f
  rw [if_pos ⟨by simp, by simp [okS, st2, st4, st2b]; decide⟩]
  have hk : stKeys [(⟨(⟨(⟨#[]⟩ : ByteArray), (⟨#[]⟩ : ByteArray), 0, 200, (⟨#[]⟩ : ByteArray), ([] : List (S83))⟩ : S41), (⟨0, 0⟩ : S53), (⟨#[]⟩ : ByteArray), ([] : List Int), ([] : List (S83))⟩ : S56), (⟨(⟨(⟨#[]⟩ : ByteArray), (⟨#[]⟩ : ByteArray), 0, 404, (⟨#[]⟩ : ByteArray), ([] : List (S83))⟩ : S41), (⟨0, 0⟩ : S53), (⟨#[]⟩ : ByteArray), ([] : List Int), ([] : List (S83))⟩ : S56), (⟨(⟨(⟨#[]⟩ : ByteArray), (⟨#[]⟩ : ByteArray), 0, 204, (⟨#[]⟩ : ByteArray), ([] : List (S83))⟩ : S41), (⟨0, 0⟩ : S53), (⟨#[]⟩ : ByteArray), ([] : List Int), ([] : List (S83))⟩ : S56)] = [[50, 120, 120], [52, 120, 120], [50, 120, 120]] := by
    unfold stKeys
    rw [List.filter_cons_of_pos (by rfl), List.filter_cons_of_pos (by rfl), List.filter_cons_of_pos (by rfl), List.filter_nil]
    simp only [List.map_cons, List.map_nil, st2, st4, st2b]
    rfl
  rw [hk, hist_lives, Option.bind_some]
  rw [if_pos (by rfl), if_pos (by decide), if_pos (by simp [rd_T49, ByteArray.toList_eq]), if_pos (by decide)]
  simp [rd_T49, ByteArray.toList_eq]
end Go.Proofs.Ytacglolggaobdab.MT
