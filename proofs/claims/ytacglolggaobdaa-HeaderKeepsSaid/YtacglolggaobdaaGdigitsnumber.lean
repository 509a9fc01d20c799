/- digits.number comes to what digits_number.f says: the number that the string's digits write, or the error. -/
import Derived.Test.YtacglolggaobdaaPAllx0
import Derived.Lib.OthersKept
namespace Go.Proofs.Ytacglolggaobdaa.PAll
open Go.RowKit Go.Proofs.YtacglolggaobdaaW.PrintWords Go.Proofs.YtacglolggaobdaaW.PrintLast Go.Proofs.YtacglolggaobdaaW.PrintMore
set_option linter.unusedVariables false
set_option linter.unusedSimpArgs false

/-- the worth of a rune as a digit; -1: none -/
def dig (r : Int) : Int := if 48 ≤ r ∧ r ≤ 57 then r - 48 else if 97 ≤ r ∧ r ≤ 102 then r - 87 else if 65 ≤ r ∧ r ≤ 70 then r - 55 else -1

/-- the number so far, and whether it is too great, at the octets that follow -/
def numFrom (base most : Int) : List UInt8 → Int → Bool → Int × Int
  | [], n, over => if over then (0, 5) else (n, 0)
  | c :: cs, n, over =>
    if dig c.toNat < 0 ∨ base ≤ dig c.toNat then (0, 3)
    else if over = true ∨ most < dig c.toNat ∨ (most - dig c.toNat) / base < n then numFrom base most cs n true
    else numFrom base most cs (n * base + dig c.toNat) false

def digits_number.f (a0 : ByteArray) (a1 : Int) (a2 : Int) : Option (Int × Int) :=
  if 2 ≤ a1 ∧ a1 ≤ 16 ∧ -9223372036854775808 ≤ a2 ∧ a2 ≤ 9223372036854775807 ∧ a0.size ≤ 9223372036854775807 then some (if a0.size = 0 then (0, 2) else numFrom a1 a2 a0.data.toList 0 false) else none

theorem dig_le (r : Int) : -1 ≤ dig r ∧ dig r ≤ 15 := by unfold dig; repeat' split
                                                         all_goals omega

theorem digit_any (r : Int) (w : World) (h0 : 0 ≤ r) (h1 : r ≤ 2147483647) : Calls Try.prog 104 #[.int .i32 r] w fun e w' => e = .returned (.int .i64 (dig r)) ∧ w = w' := by
  go_enter Try.func104, Try.ntmps104
  go_wp2
  all_goals (go_ret; refine ⟨?_, rfl⟩; refine congrArg (fun z => Ending.returned (.int .i64 z)) ?_; unfold dig; repeat' split)
  all_goals omega

theorem drop_data (s : ByteArray) (pos : Nat) (h : pos < s.size) : s.data.toList.drop pos = (s[pos]'h) :: s.data.toList.drop (pos + 1) := by
  rw [List.drop_eq_getElem_cons (by simpa using h)]
  rfl
theorem dig_high (r : Int) (h : 103 ≤ r) : dig r = -1 := by unfold dig; repeat' split
                                                            all_goals omega
theorem numFrom_bad (base most : Int) (c : UInt8) (cs : List UInt8) (n : Int) (over : Bool) (h : dig c.toNat < 0 ∨ base ≤ dig c.toNat) : numFrom base most (c :: cs) n over = (0, 3) := by rw [numFrom, if_pos h]
theorem numFrom_over (base most : Int) (c : UInt8) (cs : List UInt8) (n : Int) (over : Bool) (h : ¬ (dig c.toNat < 0 ∨ base ≤ dig c.toNat)) (h2 : over = true ∨ most < dig c.toNat ∨ (most - dig c.toNat) / base < n) : numFrom base most (c :: cs) n over = numFrom base most cs n true := by rw [numFrom, if_neg h, if_pos h2]
theorem numFrom_more (base most : Int) (c : UInt8) (cs : List UInt8) (n : Int) (over : Bool) (h : ¬ (dig c.toNat < 0 ∨ base ≤ dig c.toNat)) (h2 : ¬ (over = true ∨ most < dig c.toNat ∨ (most - dig c.toNat) / base < n)) : numFrom base most (c :: cs) n over = numFrom base most cs (n * base + dig c.toNat) false := by rw [numFrom, if_neg h, if_neg h2]

set_option maxHeartbeats 8000000 in
set_option maxRecDepth 100000 in
theorem digits_number.calls (a0 : ByteArray) (a1 : Int) (a2 : Int) (r1 : Int) (r2 : Int) (w : World) (h : digits_number.f a0 a1 a2 = some (r1, r2)) :
    Calls Try.prog 89 #[.string a0, .int .i64 a1, .int .i64 a2] w fun e w' => e = .returned (.tuple #[.int .i64 r1, .int .i64 r2]) ∧ Below w.heap.size w w' := by
  unfold digits_number.f at h
  by_cases hb : 2 ≤ a1 ∧ a1 ≤ 16 ∧ -9223372036854775808 ≤ a2 ∧ a2 ≤ 9223372036854775807 ∧ a0.size ≤ 9223372036854775807
  · rw [if_pos hb] at h
    have h := Option.some.inj h
    obtain ⟨hb0, hb1, hm0, hm1, hs⟩ := hb
    by_cases hz : a0.size = 0
    · rw [if_pos hz] at h
      obtain ⟨rfl, rfl⟩ := Prod.mk.inj h
      have he : a0.toList.isEmpty = true := by simp [ByteArray.toList_eq]; rw [← Array.size_eq_zero_iff]; exact hz
      clear h
      go_enter Try.func89, Try.ntmps89
      go_wp2
      go_ret2
      exact ⟨rfl, Below.refl _ _⟩
    · rw [if_neg hz] at h
      have he : a0.toList.isEmpty = false := by
        cases hc : a0.toList.isEmpty with
        | false => rfl
        | true => simp [ByteArray.toList_eq] at hc; exact absurd (by rw [← Array.size_eq_zero_iff] at hc; exact hc) hz
      have H := Aside0.mk h
      clear h
      go_enter Try.func89, Try.ntmps89
      go_wp2
      go_loopw [8, 9] (fun v8 v9 wr => ∃ (pos : Nat) (n : Int) (over : Bool), v8 = .int .i64 n ∧ v9 = .bool over ∧ Aside0 (wr = w.iter a0 pos ∧ pos ≤ a0.size ∧ numFrom a1 a2 (a0.data.toList.drop pos) n over = (r1, r2) ∧ (over = false → n = 0 ∨ n ≤ a2) ∧ 0 ≤ n)) (fun _ _ wr => a0.size - wr.iterPos w.heap.size)
      case atStart => exact ⟨0, 0, false, rfl, rfl, ⟨rfl, by omega, H.out, fun _ => Or.inl rfl, by omega⟩⟩
      case round =>
        obtain ⟨pos, n, over, rfl, rfl, HA⟩ := hrel
        obtain ⟨rfl, hple, hnum, hov, hn0⟩ := HA.out
        clear HA
        have hsz : (w.iter a0 pos).heap.size = w.heap.size + 1 := by simp [World.iter]
        by_cases hp : pos < a0.size
        · have hdrop := drop_data a0 pos hp
          rw [hdrop] at hnum
          by_cases ha : (a0[pos]'hp).toNat < 128
          · have hnx : ∀ ty, (Instr.next (.pointer (some ⟨w.heap.size, 0, none⟩)) true ty).run Try.prog (w.iter a0 pos) = _ := fun ty => run_next_ascii w a0 pos ty hp ha
            obtain ⟨c, hc⟩ : ∃ c : UInt8, c = a0[pos]'hp := ⟨_, rfl⟩
            rw [← hc] at hnx hnum
            have hc0 : (c.toNat : Int) ≤ 255 := by have := c.toNat_lt; omega
            obtain ⟨d, hd⟩ : ∃ d : Int, d = dig (c.toNat : Int) := ⟨_, rfl⟩
            have hdb := dig_le (c.toNat : Int)
            rw [← hd] at hdb
            obtain ⟨hdb0, hdb1⟩ := hdb
            have HN := Aside0.mk hnum
            have HD := Aside0.mk hd
            have HV := Aside0.mk hov
            clear hnum hdrop hc hov ha hd
            by_cases hlo : d < 0
            · have R := numFrom_bad a1 a2 c (a0.data.toList.drop (pos + 1)) n over (Or.inl (by rw [← HD.out]; exact hlo))
              rw [HN.out] at R
              obtain ⟨rfl, rfl⟩ := Prod.mk.inj R
              clear R
              go_wp2_with (go_at_call 104; refine (digit_any _ _ (by omega) (by omega)).mono ?_; rw [← HD.out]; rintro e w' ⟨rfl, rfl⟩)
              go_ret2
              exact ⟨rfl, (Below.refl _ _).alloc (Nat.le_refl _) _⟩
            · by_cases hhi : a1 ≤ d
              · have R := numFrom_bad a1 a2 c (a0.data.toList.drop (pos + 1)) n over (Or.inr (by rw [← HD.out]; exact hhi))
                rw [HN.out] at R
                obtain ⟨rfl, rfl⟩ := Prod.mk.inj R
                clear R
                go_wp2_with (go_at_call 104; refine (digit_any _ _ (by omega) (by omega)).mono ?_; rw [← HD.out]; rintro e w' ⟨rfl, rfl⟩)
                go_ret2
                exact ⟨rfl, (Below.refl _ _).alloc (Nat.le_refl _) _⟩
              · have hgood : ¬ (dig (c.toNat : Int) < 0 ∨ a1 ≤ dig (c.toNat : Int)) := by rw [← HD.out]; omega
                cases over with
                | true =>
                  have R := (numFrom_over a1 a2 c (a0.data.toList.drop (pos + 1)) n true hgood (Or.inl rfl)).symm.trans HN.out
                  go_wp2_with (go_at_call 104; refine (digit_any _ _ (by omega) (by omega)).mono ?_; rw [← HD.out]; rintro e w' ⟨rfl, rfl⟩)
                  go_roundw
                  case rel => exact ⟨pos + 1, _, _, rfl, rfl, ⟨rfl, by omega, R, fun h => absurd h (by decide), by omega⟩⟩
                  case measure => simp only [World.iterPos_iter]; omega
                | false =>
                  by_cases hmd : a2 < d
                  · have R := (numFrom_over a1 a2 c (a0.data.toList.drop (pos + 1)) n false hgood (Or.inr (Or.inl (by rw [← HD.out]; exact hmd)))).symm.trans HN.out
                    go_wp2_with (go_at_call 104; refine (digit_any _ _ (by omega) (by omega)).mono ?_; rw [← HD.out]; rintro e w' ⟨rfl, rfl⟩)
                    go_roundw
                    case rel => exact ⟨pos + 1, _, _, rfl, rfl, ⟨rfl, by omega, R, fun h => absurd h (by decide), by omega⟩⟩
                    case measure => simp only [World.iterPos_iter]; omega
                  · have hmdd : decide (a2 < d) = false := decide_eq_false hmd
                    obtain ⟨q, hq⟩ : ∃ q : Int, q = (a2 - d) / a1 := ⟨_, rfl⟩
                    have hqt : (a2 - d).tdiv a1 = q := by rw [hq]; exact Int.tdiv_eq_ediv_of_nonneg (by omega)
                    have hq0 : 0 ≤ q := by rw [hq]; exact Int.ediv_nonneg (by omega) (by omega)
                    have hq1 : q ≤ a2 - d := by rw [hq]; exact Int.ediv_le_self _ (by omega)
                    have hqm : q * a1 ≤ a2 - d := by rw [hq]; exact Int.ediv_mul_le _ (by omega)
                    have HQ := Aside0.mk hq
                    clear hq
                    by_cases hnq : q < n
                    · have hqd : decide (q < n) = true := decide_eq_true hnq
                      have R := (numFrom_over a1 a2 c (a0.data.toList.drop (pos + 1)) n false hgood (Or.inr (Or.inr (by rw [← HD.out, ← HQ.out]; exact hnq)))).symm.trans HN.out
                      go_wp2_with (go_at_call 104; refine (digit_any _ _ (by omega) (by omega)).mono ?_; rw [← HD.out]; rintro e w' ⟨rfl, rfl⟩)
                      go_roundw
                      case rel => exact ⟨pos + 1, _, _, rfl, rfl, ⟨rfl, by omega, R, fun h => absurd h (by decide), by omega⟩⟩
                      case measure => simp only [World.iterPos_iter]; omega
                    · have hqd : decide (q < n) = false := decide_eq_false hnq
                      have R := (numFrom_more a1 a2 c (a0.data.toList.drop (pos + 1)) n false hgood (by rw [← HD.out, ← HQ.out]; simp; omega)).symm.trans HN.out
                      rw [← HD.out] at R
                      have hnm : n * a1 ≤ q * a1 := Int.mul_le_mul_of_nonneg_right (by omega) (by omega)
                      have hnm0 : 0 ≤ n * a1 := Int.mul_nonneg (by omega) (by omega)
                      go_wp2_with (go_at_call 104; refine (digit_any _ _ (by omega) (by omega)).mono ?_; rw [← HD.out]; rintro e w' ⟨rfl, rfl⟩)
                      go_roundw
                      case rel => exact ⟨pos + 1, _, _, rfl, rfl, ⟨rfl, by omega, R, fun _ => Or.inr (by omega), by omega⟩⟩
                      case measure => simp only [World.iterPos_iter]; omega
          · obtain ⟨hd1, hd2⟩ := decode_high a0 pos hp (by omega)
            have hd3 := decode_le a0 pos
            have hnx : ∀ ty, (Instr.next (.pointer (some ⟨w.heap.size, 0, none⟩)) true ty).run Try.prog (w.iter a0 pos) = _ := fun ty => run_next_any w a0 pos ty hp
            have hdg : dig ((Utf8.decode a0 pos).1 : Int) = -1 := dig_high _ (by omega)
            rw [numFrom_bad _ _ _ _ _ _ (Or.inl (by rw [dig_high _ (by omega)]; omega))] at hnum
            obtain ⟨rfl, rfl⟩ := Prod.mk.inj hnum
            clear hnum hdrop
            go_wp2_with (go_at_call 104; refine (digit_any _ _ (by omega) (by omega)).mono ?_; rw [hdg]; rintro e w' ⟨rfl, rfl⟩)
            go_ret2
            exact ⟨rfl, (Below.refl _ _).alloc (Nat.le_refl _) _⟩
        · have hnx : ∀ ty, (Instr.next (.pointer (some ⟨w.heap.size, 0, none⟩)) true ty).run Try.prog (w.iter a0 pos) = _ := fun ty => run_next_end w a0 pos ty hp
          rw [List.drop_eq_nil_of_le (by simpa using (show a0.size ≤ pos by omega))] at hnum
          cases over with
          | true =>
            obtain ⟨rfl, rfl⟩ := Prod.mk.inj hnum
            go_wp2
            go_ret2
            exact ⟨rfl, (Below.refl _ _).alloc (Nat.le_refl _) _⟩
          | false =>
            obtain ⟨rfl, rfl⟩ := Prod.mk.inj hnum
            go_wp2
            go_ret2
            exact ⟨rfl, (Below.refl _ _).alloc (Nat.le_refl _) _⟩
  · rw [if_neg hb] at h
    exact absurd h (by simp)
end Go.Proofs.Ytacglolggaobdaa.PAll
