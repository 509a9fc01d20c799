/- digits.Text, by hand: a number's digits, with a sign. -/
import Derived.Test.YtacglolggaobdaaGdigitsfigures
namespace Go.Proofs.Ytacglolggaobdaa.PAll
open Go.RowKit Go.Proofs.YtacglolggaobdaaW.PrintWords Go.Proofs.YtacglolggaobdaaW.PrintLast Go.Proofs.YtacglolggaobdaaW.PrintMore
set_option linter.unusedVariables false
set_option linter.unusedSimpArgs false

theorem figFrom_len (b : Nat) (hb : 2 ≤ b) : ∀ (k m : Nat) (ys : List UInt8), m < 2 ^ k → (figFrom b m ys).length ≤ k + ys.length
  | 0, m, ys, h => by
    obtain rfl : m = 0 := by simpa using h
    rw [figFrom_done]; omega
  | k + 1, m, ys, h => by
    by_cases hm : m = 0
    · subst hm; rw [figFrom_done]; omega
    · rw [figFrom_more b m ys hb hm]
      have h1 : m / b ≤ m / 2 := Nat.div_le_div_left hb (by decide)
      have := figFrom_len b hb k (m / b) (sgn (m % b) :: ys) (by rw [Nat.pow_succ] at h; omega)
      simp only [List.length_cons] at this
      omega
theorem figs_len (b m : Nat) (hb : 2 ≤ b) (hm : m ≤ 9223372036854775808) : (figs b m).length ≤ 65 := by
  have h1 : m / b ≤ m := Nat.div_le_self _ _
  have := figFrom_len b hb 64 (m / b) [sgn (m % b)] (by have : (2 : Nat) ^ 64 = 18446744073709551616 := by decide
                                                        omega)
  simpa [figs] using this

def txt (n : Int) : List UInt8 := if n < 0 then 45 :: figs 10 n.natAbs else figs 10 n.natAbs
set_option maxHeartbeats 1000000 in
set_option maxRecDepth 100000 in
theorem text_any (n : Int) (w : World) (h0 : -9223372036854775808 ≤ n) (h1 : n ≤ 9223372036854775807) :
    Calls Try.prog 52 #[.int .i64 n] w fun e w' => e = .returned (.string ⟨(txt n).toArray⟩) ∧ Below w.heap.size w w' := by
  obtain ⟨t, ht⟩ : ∃ t : ByteArray, t = ⟨(figs 10 n.natAbs).toArray⟩ := ⟨_, rfl⟩
  have hl : t.size ≤ 65 := by rw [ht]; simpa [ByteArray.size] using figs_len 10 n.natAbs (by decide) (by omega)
  have hf : digits_figures.f n 10 = some t := by unfold digits_figures.f; rw [if_pos ⟨by decide, by decide, h0, h1⟩, ht]; rfl
  by_cases hn : n < 0
  · have e : (⟨(txt n).toArray⟩ : ByteArray) = (⟨#[45]⟩ : ByteArray) ++ t := by
      unfold txt
      rw [if_pos hn, ht]
      exact ByteArray.ext (by rw [ByteArray.data_append]; simp)
    rw [e]
    have HF := Aside0.mk hf
    clear hf ht e
    go_enter Try.func52, Try.ntmps52
    go_wp2_with (go_at_call 91; refine (digits_figures.calls n 10 t _ HF.out).mono ?_; rintro e w' ⟨rfl, hb⟩; have HB := Aside0.mk hb; clear hb)
    go_ret
    exact ⟨rfl, HB.out⟩
  · have e : (⟨(txt n).toArray⟩ : ByteArray) = t := by
      unfold txt
      rw [if_neg hn, ht]
    rw [e]
    have HF := Aside0.mk hf
    clear hf ht e
    go_enter Try.func52, Try.ntmps52
    go_wp2_with (go_at_call 91; refine (digits_figures.calls n 10 t _ HF.out).mono ?_; rintro e w' ⟨rfl, hb⟩; have HB := Aside0.mk hb; clear hb)
    go_ret
    exact ⟨rfl, HB.out⟩
end Go.Proofs.Ytacglolggaobdaa.PAll
