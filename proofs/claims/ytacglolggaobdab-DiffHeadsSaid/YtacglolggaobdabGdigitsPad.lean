/- digits.Text, by hand: a number's digits, with a sign. digits.Pad comes to what digits_Pad.f says: the number's digits with zeros ahead, to a width of at most 20. -/
import Derived.Test.YtacglolggaobdabGdigitsfigures
import Derived.Test.YtacglolggaobdabShelf
section
namespace Go.Proofs.Ytacglolggaobdab.PAll
open Go.RowKit Go.Proofs.YtacglolggaobdabW.PrintWords Go.Proofs.YtacglolggaobdabW.PrintLast Go.Proofs.YtacglolggaobdabW.PrintMore
set_option linter.unusedVariables false
set_option linter.unusedSimpArgs false

theorem figFrom_len (b : Nat) (hb : 2 ≤ b) : ∀ (k m : Nat) (ys : List UInt8), m < 2 ^ k → (figFrom b m ys).length ≤ k + ys.length
  | 0, m, ys, h => by
    obtain rfl : m = 0 := by simpa using h
    rw [figFrom_done]; omega
  | k + 1, m, ys, h => by
    by_cases hm : m = 0
    · subst hm; rw [figFrom_done]; omega
    · rw [figFrom_more b m ys hb hm]
      have h1 : m / b ≤ m / 2 := Nat.div_le_div_left hb (by decide)
      have := figFrom_len b hb k (m / b) (sgn (m % b) :: ys) (by rw [Nat.pow_succ] at h; omega)
      simp only [List.length_cons] at this
      omega
theorem figs_len (b m : Nat) (hb : 2 ≤ b) (hm : m ≤ 9223372036854775808) : (figs b m).length ≤ 65 := by
  have h1 : m / b ≤ m := Nat.div_le_self _ _
  have := figFrom_len b hb 64 (m / b) [sgn (m % b)] (by have : (2 : Nat) ^ 64 = 18446744073709551616 := by decide
                                                        omega)
  simpa [figs] using this

def txt (n : Int) : List UInt8 := if n < 0 then 45 :: figs 10 n.natAbs else figs 10 n.natAbs
set_option maxHeartbeats 1000000 in
set_option maxRecDepth 100000 in
theorem text_any (n : Int) (w : World) (h0 : -9223372036854775808 ≤ n) (h1 : n ≤ 9223372036854775807) :
    Calls Try.prog 63 #[.int .i64 n] w fun e w' => e = .returned (.string ⟨(txt n).toArray⟩) ∧ Below w.heap.size w w' := by
  obtain ⟨t, ht⟩ : ∃ t : ByteArray, t = ⟨(figs 10 n.natAbs).toArray⟩ := ⟨_, rfl⟩
  have hl : t.size ≤ 65 := by rw [ht]; simpa [ByteArray.size] using figs_len 10 n.natAbs (by decide) (by omega)
  have hf : digits_figures.f n 10 = some t := by unfold digits_figures.f; rw [if_pos ⟨by decide, by decide, h0, h1⟩, ht]; rfl
  by_cases hn : n < 0
  · have e : (⟨(txt n).toArray⟩ : ByteArray) = (⟨#[45]⟩ : ByteArray) ++ t := by
      unfold txt
      rw [if_pos hn, ht]
      exact ByteArray.ext (by rw [ByteArray.data_append]; simp)
    rw [e]
    have HF := Aside0.mk hf
    clear hf ht e
    go_enter Try.func63, Try.ntmps63
    go_wp2_with (go_at_call 90; refine (digits_figures.calls n 10 t _ HF.out).mono ?_; rintro e w' ⟨rfl, hb⟩; have HB := Aside0.mk hb; clear hb)
    go_ret
    exact ⟨rfl, HB.out⟩
  · have e : (⟨(txt n).toArray⟩ : ByteArray) = t := by
      unfold txt
      rw [if_neg hn, ht]
    rw [e]
    have HF := Aside0.mk hf
    clear hf ht e
    go_enter Try.func63, Try.ntmps63
    go_wp2_with (go_at_call 90; refine (digits_figures.calls n 10 t _ HF.out).mono ?_; rintro e w' ⟨rfl, hb⟩; have HB := Aside0.mk hb; clear hb)
    go_ret
    exact ⟨rfl, HB.out⟩
end Go.Proofs.Ytacglolggaobdab.PAll
end

section
namespace Go.Proofs.Ytacglolggaobdab.PAll
open Go.RowKit Go.Proofs.YtacglolggaobdabW.PrintWords Go.Proofs.YtacglolggaobdabW.PrintLast Go.Proofs.YtacglolggaobdabW.PrintMore
attribute [local go_sem] max2_int min2_int max_two min_two max_three min_three max_four min_four
set_option linter.unusedVariables false
set_option linter.unusedSimpArgs false

set_option maxHeartbeats 1000000 in
set_option maxRecDepth 100000 in
theorem hasPrefix_any (s t : ByteArray) (b : Bool) (w : World) (hs : s.size ≤ 9223372036854775807) (ht : t.size ≤ s.size) (he : ((s.extract 0 t.size).toList == t.toList) = b) :
    Calls Try.prog 144 #[.string s, .string t] w fun e w' => e = .returned (.bool b) ∧ w = w' := by
  go_enter Try.func144, Try.ntmps144
  go_wp2
  go_ret
  exact ⟨rfl, rfl⟩

def zeros : ByteArray := ⟨#[48, 48, 48, 48, 48, 48, 48, 48, 48, 48, 48, 48, 48, 48, 48, 48, 48, 48, 48, 48, 48, 48, 48, 48, 48, 48, 48, 48, 48, 48, 48, 48, 48, 48, 48, 48, 48, 48, 48, 48, 48, 48, 48, 48, 48, 48, 48, 48, 48, 48, 48, 48, 48, 48, 48, 48, 48, 48, 48, 48, 48, 48, 48, 48]⟩
set_option maxHeartbeats 1000000 in
set_option maxRecDepth 100000 in
theorem repeat_zeros (c : Nat) (w : World) (hc : c ≤ 20) : Calls Try.prog 121 #[.string ⟨#[48]⟩, .int .i64 (c : Int)] w fun e w' => e = .returned (.string ⟨(List.replicate c 48).toArray⟩) ∧ w = w' := by
  by_cases h0 : c = 0
  · subst h0
    go_enter Try.func121, Try.ntmps121
    go_wp2
    go_ret
    exact ⟨rfl, rfl⟩
  · by_cases h1 : c = 1
    · subst h1
      go_enter Try.func121, Try.ntmps121
      go_wp2
      go_ret
      exact ⟨rfl, rfl⟩
    · have h2 : 2 ≤ c := by omega
      have b0 : ((c : Int) == 0) = false := beq_eq_false_iff_ne.2 (by omega)
      have b1 : ((c : Int) == 1) = false := beq_eq_false_iff_ne.2 (by omega)
      have hsz : (ByteArray.mk #[48]).size = 1 := rfl
      have hix : ∀ W, (Instr.index 9 (.string ⟨#[48]⟩) (.int .i64 0)).run Try.prog W = .ok (.int .u8 48) W := fun W => by
        rw [run_index_string W 9 _ .i64 _ Try.underlying9, dif_pos ⟨by decide, by decide⟩]; rfl
      go_enter Try.func121, Try.ntmps121
      go_wp2_with (first | (go_at_call 143; refine (Try.bits_Mul 1 c (by omega) (by omega) _).mono ?_; rw [show 1 * c / 18446744073709551616 = 0 by omega, show 1 * c % 18446744073709551616 = c by omega]; rintro e w' ⟨rfl, rfl⟩) | (go_at_call 144; first | (refine (hasPrefix_any _ _ true _ (by decide +kernel) (by decide +kernel) (by decide +kernel)).mono ?_; rintro e w' ⟨rfl, rfl⟩) | (refine (hasPrefix_any _ _ false _ (by decide +kernel) (by decide +kernel) (by decide +kernel)).mono ?_; rintro e w' ⟨rfl, rfl⟩)))
      go_ret
      have hz : ∀ k : Fin 21, zeros.extract 0 k.1 = ⟨(List.replicate k.1 48).toArray⟩ := by decide +kernel
      exact ⟨congrArg (fun s => Ending.returned (.string s)) (hz ⟨c, by omega⟩), rfl⟩

/-- how many zeros stand ahead -/
def padN (n wide : Int) : Nat := if n < 0 then 0 else (max 0 (min (max wide 0) 20 - ((txt n).length : Int))).toNat
def digits_Pad.f (a0 : Int) (a1 : Int) : Option (ByteArray) :=
  if -9223372036854775808 ≤ a0 ∧ a0 ≤ 9223372036854775807 ∧ -9223372036854775808 ≤ a1 ∧ a1 ≤ 9223372036854775807 then some ⟨(List.replicate (padN a0 a1) 48 ++ txt a0).toArray⟩ else none
theorem txt_len (n : Int) (h0 : -9223372036854775808 ≤ n) (h1 : n ≤ 9223372036854775807) : (txt n).length ≤ 66 := by
  have := figs_len 10 n.natAbs (by decide) (by omega)
  unfold txt
  split <;> simp <;> omega
set_option maxHeartbeats 1000000 in
set_option maxRecDepth 100000 in
theorem digits_Pad.calls (a0 : Int) (a1 : Int) (r : ByteArray) (w : World) (h : digits_Pad.f a0 a1 = some r) :
    Calls Try.prog 103 #[.int .i64 a0, .int .i64 a1] w fun e w' => e = .returned (.string r) ∧ Below w.heap.size w w' := by
  unfold digits_Pad.f at h
  by_cases hb : -9223372036854775808 ≤ a0 ∧ a0 ≤ 9223372036854775807 ∧ -9223372036854775808 ≤ a1 ∧ a1 ≤ 9223372036854775807
  · rw [if_pos hb] at h
    have h := Option.some.inj h
    obtain ⟨h0, h1, h2, h3⟩ := hb
    have hl := txt_len a0 h0 h1
    obtain ⟨t, ht⟩ : ∃ t : ByteArray, t = ⟨(txt a0).toArray⟩ := ⟨_, rfl⟩
    have hts : t.size = (txt a0).length := by rw [ht]; simp [ByteArray.size]
    by_cases hn : a0 < 0
    · have e : r = t := by rw [← h, ht]; unfold padN; rw [if_pos hn]; rfl
      subst e
      have HT := Aside0.mk ht
      clear ht h
      go_enter Try.func103, Try.ntmps103
      go_wp2_with (go_at_call 63; refine (text_any a0 _ h0 h1).mono ?_; rw [← HT.out]; rintro e w' ⟨rfl, hb⟩; have HB := Aside0.mk hb; clear hb)
      go_ret
      exact ⟨rfl, HB.out⟩
    · obtain ⟨k, hk⟩ : ∃ k : Nat, k = padN a0 a1 := ⟨_, rfl⟩
      have e : r = ⟨(List.replicate k 48).toArray⟩ ++ t := by
        rw [← h, ht, hk]
        exact ByteArray.ext (by rw [ByteArray.data_append]; simp)
      have hks : (⟨(List.replicate k 48).toArray⟩ : ByteArray).size = k := by simp [ByteArray.size]
      unfold padN at hk
      rw [if_neg hn, ← hts] at hk
      have hk20 : k ≤ 20 := by omega
      obtain ⟨L, hL⟩ : ∃ L : Nat, L = t.size := ⟨_, rfl⟩
      rw [← hL] at hk
      have hL2 : t.size = L := hL.symm
      have hLb : L ≤ 66 := by omega
      have hmx : (if (L : Int) < (if (20 : Int) < (if a1 < 0 then 0 else a1) then 20 else (if a1 < 0 then 0 else a1)) then ((if (20 : Int) < (if a1 < 0 then 0 else a1) then 20 else (if a1 < 0 then 0 else a1)) - (L : Int)) else 0) = (k : Int) := by
        repeat' split
        all_goals omega
      subst e
      have HT := Aside0.mk ht
      have HK := Aside0.mk hk
      clear ht h hk hts hL hl
      go_enter Try.func103, Try.ntmps103
      go_wp2_with (first | (go_at_call 63; refine (text_any a0 _ h0 h1).mono ?_; rw [← HT.out]; rintro e w' ⟨rfl, hb⟩; have HB := Aside0.mk hb; clear hb) | (go_at_call 121; (refine (repeat_zeros k _ hk20).mono ?_; rintro e w' ⟨rfl, rfl⟩)))
      all_goals (go_ret; exact ⟨rfl, HB.out⟩)
  · rw [if_neg hb] at h
    exact absurd h (by simp)
end Go.Proofs.Ytacglolggaobdab.PAll
end
