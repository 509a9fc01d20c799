/- Plain laws for the digits: the law's own examples; what the digits of a number read as. -/
import Derived.Test.YtacglolggaobdaaMDigits
import Derived.Test.YtacglolggaobdaaPAllx3
namespace Go.Proofs.Ytacglolggaobdaa.MDigits
open Go.RowKit Go.Proofs.Ytacglolggaobdaa.PAll Go.Proofs.YtacglolggaobdaaW.PrintWords Go.Proofs.YtacglolggaobdaaW.PrintLast Go.Proofs.YtacglolggaobdaaW.PrintMore
set_option linter.unusedVariables false
set_option linter.unusedSimpArgs false

theorem lit64 {n : Int} (h : (Lit.int .i64 n).wf = true) : -9223372036854775808 ≤ n ∧ n ≤ 9223372036854775807 := by
  simp [Lit.wf, IntKind.min, IntKind.max, IntKind.bits, IntKind.signed] at h
  omega
theorem figs_two : figs 16 255 = [102, 102] := by
  unfold figs
  rw [figFrom_more 16 _ _ (by decide) (by decide), show (255 / 16 / 16 : Nat) = 0 by decide, figFrom_done]
  decide
theorem figs_seven : figs 10 7 = [55] := by
  unfold figs
  rw [show (7 / 10 : Nat) = 0 by decide, figFrom_done]
  decide
theorem figs_five : figs 10 5 = [53] := by
  unfold figs
  rw [show (5 / 10 : Nat) = 0 by decide, figFrom_done]
  decide
theorem lives_is : abutmentlaw02_lives.f = some true := by
  have e1 : digits_number.f ⟨#[49, 102]⟩ 16 100 = some (31, 0) := by decide +kernel
  have e2 : digits_number.f ⟨#[48, 48, 55]⟩ 10 6 = some (0, 5) := by decide +kernel
  have e3 : digits_Pad.f 7 2 = some ⟨#[48, 55]⟩ := by
    have h : txt 7 = [55] := figs_seven
    unfold digits_Pad.f padN
    rw [h]
    decide
  have e4 : digits_figures.f 255 16 = some ⟨#[102, 102]⟩ := by
    unfold digits_figures.f
    rw [show (16 : Int).toNat = 16 from rfl, show (255 : Int).natAbs = 255 from rfl, figs_two]
    decide
  have e5 : digits_figures.f (-5) 10 = some ⟨#[53]⟩ := by
    unfold digits_figures.f
    rw [show (10 : Int).toNat = 10 from rfl, show (-5 : Int).natAbs = 5 from rfl, figs_five]
    decide
  unfold abutmentlaw02_lives.f digits_Hex.f digits_Dec.f digits_HexText.f digits_Text.f
  rw [e1, e2, e3, e4, e5]
  decide +kernel

theorem dig_sgn : ∀ d : Fin 16, dig ((sgn d.1).toNat : Int) = (d.1 : Int) := by decide +kernel
theorem dig_sgn' {d b : Nat} (hd : d < b) (hb : b ≤ 16) : dig ((sgn d).toNat : Int) = (d : Int) := dig_sgn ⟨d, by omega⟩
theorem figFrom_val (b : Nat) (hb : 2 ≤ b) (hb' : b ≤ 16) : ∀ (k m : Nat) (ys : List UInt8), m < k → valFrom (b : Int) 0 (figFrom b m ys) = valFrom (b : Int) (m : Int) ys
  | 0, m, ys, h => by omega
  | k + 1, m, ys, h => by
    by_cases hm : m = 0
    · subst hm; rw [figFrom_done]; rfl
    · rw [figFrom_more b m ys hb hm]
      have h1 : m / b < m := Nat.div_lt_self (by omega) (by omega)
      rw [figFrom_val b hb hb' k (m / b) _ (by omega), valFrom, dig_sgn' (Nat.mod_lt _ (by omega)) hb']
      congr 1
      have := Nat.div_add_mod m b
      rw [Nat.mul_comm] at this
      exact_mod_cast this
theorem figFrom_ok (b : Nat) (hb : 2 ≤ b) (hb' : b ≤ 16) : ∀ (k m : Nat) (ys : List UInt8), m < k → (∀ c ∈ ys, ¬ bad (b : Int) c) → ∀ c ∈ figFrom b m ys, ¬ bad (b : Int) c
  | 0, m, ys, h, _ => by omega
  | k + 1, m, ys, h, hy => by
    by_cases hm : m = 0
    · subst hm; rw [figFrom_done]; exact hy
    · rw [figFrom_more b m ys hb hm]
      have h1 : m / b < m := Nat.div_lt_self (by omega) (by omega)
      refine figFrom_ok b hb hb' k (m / b) _ (by omega) (fun c hc => ?_)
      rcases List.mem_cons.1 hc with rfl | hc
      · have h2 := Nat.mod_lt m (show 0 < b by omega)
        unfold bad
        rw [dig_sgn' h2 hb']; omega
      · exact hy c hc
theorem figFrom_ne (b : Nat) (hb : 2 ≤ b) : ∀ (k m : Nat) (ys : List UInt8), m < k → ys ≠ [] → figFrom b m ys ≠ []
  | 0, m, ys, h, _ => by omega
  | k + 1, m, ys, h, hy => by
    by_cases hm : m = 0
    · subst hm; rw [figFrom_done]; exact hy
    · rw [figFrom_more b m ys hb hm]
      have h1 : m / b < m := Nat.div_lt_self (by omega) (by omega)
      exact figFrom_ne b hb k (m / b) _ (by omega) (by simp)
theorem figs_val (b m : Nat) (hb : 2 ≤ b) (hb' : b ≤ 16) : valFrom (b : Int) 0 (figs b m) = (m : Int) := by
  unfold figs
  rw [figFrom_val b hb hb' (m / b + 1) _ _ (by omega), valFrom, valFrom, dig_sgn' (Nat.mod_lt _ (by omega)) hb']
  have := Nat.div_add_mod m b
  rw [Nat.mul_comm] at this
  exact_mod_cast this
theorem figs_ok (b m : Nat) (hb : 2 ≤ b) (hb' : b ≤ 16) : ∀ c ∈ figs b m, ¬ bad (b : Int) c := by
  refine figFrom_ok b hb hb' (m / b + 1) _ _ (by omega) (fun c hc => ?_)
  rw [List.mem_singleton] at hc
  subst hc
  have h2 := Nat.mod_lt m (show 0 < b by omega)
  unfold bad
  rw [dig_sgn' h2 hb']; omega
theorem figs_ne (b m : Nat) (hb : 2 ≤ b) : figs b m ≠ [] := figFrom_ne b hb (m / b + 1) _ _ (by omega) (by simp)
theorem zeros_val (b : Int) : ∀ (k : Nat) (l : List UInt8), valFrom b 0 (List.replicate k 48 ++ l) = valFrom b 0 l
  | 0, l => rfl
  | k + 1, l => by
    rw [List.replicate_succ, List.cons_append, valFrom, zero_dig]
    simpa using zeros_val b k l
/-- a number's digits, zeros ahead, read back -/
theorem back (b k m : Nat) (most : Int) (hb : 2 ≤ b) (hb' : b ≤ 16) : numOf (b : Int) most (List.replicate k 48 ++ figs b m) = ans most (m : Int) := by
  unfold numOf
  rw [if_neg (by simp [figs_ne b m hb]), if_neg, zeros_val, figs_val b m hb hb']
  rintro ⟨c, hc, hbad⟩
  rcases List.mem_append.1 hc with hc | hc
  · obtain rfl := (List.mem_replicate.1 hc).2
    unfold bad at hbad
    rw [zero_dig] at hbad
    omega
  · exact figs_ok b m hb hb' c hc hbad
end Go.Proofs.Ytacglolggaobdaa.MDigits
