/- The reference's Digits comes to what abutmentref02_Digits.f says: the digits of a number that is not below 0, in a base of 2 to 16. -/
import Derived.Test.YtacglolggaobdabGdigitsfigures
section
namespace Go.Proofs.Ytacglolggaobdab.PAll
open Go.RowKit Go.Proofs.YtacglolggaobdabW.PrintWords Go.Proofs.YtacglolggaobdabW.PrintLast Go.Proofs.YtacglolggaobdabW.PrintMore
set_option linter.unusedVariables false
set_option linter.unusedSimpArgs false

/-! ### abutmentref02_Digits: function 89 -/
def abutmentref02_Digits.f (a0 : Int) (a1 : Int) : Option (ByteArray) := if 2 ≤ a1 ∧ a1 ≤ 16 ∧ 0 ≤ a0 ∧ a0 ≤ 18446744073709551615 then some ⟨(figs a1.toNat a0.toNat).toArray⟩ else none

theorem figs_more (b n : Nat) (ys : List UInt8) (hb : 2 ≤ b) (hn : b ≤ n) : figFrom b (n / b) (sgn (n % b) :: ys) = figFrom b (n / b / b) (sgn (n / b % b) :: sgn (n % b) :: ys) :=
  figFrom_more b (n / b) _ hb (by have := (Nat.div_pos_iff (a := n) (b := b)).2 ⟨by omega, hn⟩; omega)
theorem len_step (b n m : Nat) (ys : List UInt8) (hb : 2 ≤ b) (hn : b ≤ n) (hm : m ≤ 18446744073709551615) (h : n * 2 ^ ys.length ≤ m) : ys.length + 1 ≤ 100 := by
  refine Classical.byContradiction fun hc => ?_
  have h2 : (2 : Nat) ^ 100 ≤ 2 ^ ys.length := Nat.pow_le_pow_right (by decide) (by omega)
  have h3 : 1 * 2 ^ ys.length ≤ n * 2 ^ ys.length := Nat.mul_le_mul_right _ (by omega)
  have h4 : (2 : Nat) ^ 100 = 1267650600228229401496703205376 := by decide
  omega
theorem cut_sign (e : Nat) (he : e < 16) (W : World) : (Instr.sliceAt 9 (.string ⟨#[48, 49, 50, 51, 52, 53, 54, 55, 56, 57, 97, 98, 99, 100, 101, 102]⟩) (some (.int .u64 (e : Int))) (some (.int .u64 ((e : Int) + 1))) none).run Try.prog W = .ok (.string ⟨#[sgn e]⟩) W := by
  have h : ∀ e : Fin 16, (⟨#[48, 49, 50, 51, 52, 53, 54, 55, 56, 57, 97, 98, 99, 100, 101, 102]⟩ : ByteArray).extract e.1 (e.1 + 1) = ⟨#[sgn e.1]⟩ := by decide +kernel
  have h1 := h ⟨e, he⟩
  simp only at h1
  rw [← h1]
  have hs : (⟨#[48, 49, 50, 51, 52, 53, 54, 55, 56, 57, 97, 98, 99, 100, 101, 102]⟩ : ByteArray).size = 16 := rfl
  generalize (⟨#[48, 49, 50, 51, 52, 53, 54, 55, 56, 57, 97, 98, 99, 100, 101, 102]⟩ : ByteArray) = s at hs ⊢
  have e1 : ((e : Int)).toNat = e := by omega
  have e2 : ((e : Int) + 1).toNat = e + 1 := by omega
  have c1 : (0 : Int) ≤ (e : Int) := by omega
  have c2 : (e : Int) ≤ (e : Int) + 1 := by omega
  have c3 : (e : Int) + 1 ≤ 16 := by omega
  go_simp

set_option maxHeartbeats 1000000 in
set_option maxRecDepth 100000 in
theorem abutmentref02_Digits.calls (a0 : Int) (a1 : Int) (r : ByteArray) (w : World) (h : abutmentref02_Digits.f a0 a1 = some r) :
    Calls Try.prog 89 #[.int .u64 a0, .int .u64 a1] w fun e w' => e = .returned (.string r) ∧ Below w.heap.size w w' := by
  unfold abutmentref02_Digits.f at h
  by_cases hb : 2 ≤ a1 ∧ a1 ≤ 16 ∧ 0 ≤ a0 ∧ a0 ≤ 18446744073709551615
  · rw [if_pos hb] at h
    obtain rfl := Option.some.inj h
    clear h
    obtain ⟨b, rfl⟩ : ∃ b : Nat, a1 = (b : Int) := ⟨a1.toNat, by omega⟩
    obtain ⟨m, rfl⟩ : ∃ m : Nat, a0 = (m : Int) := ⟨a0.toNat, by omega⟩
    rw [Int.toNat_natCast, Int.toNat_natCast]
    obtain ⟨h1, h2, h3, h4⟩ := hb
    go_enter Try.func89, Try.ntmps89
    go_wp2
    go_loopg [0, 6] m (fun kx v0 v6 wr => ∃ (n : Nat) (ys : List UInt8), v0 = .int .u64 (n : Int) ∧ v6 = .string ⟨ys.toArray⟩ ∧ n ≤ kx ∧ n ≤ m ∧ ys.length ≤ 100 ∧ n * 2 ^ ys.length ≤ m ∧ Aside0 (Below w.heap.size w wr) ∧ Aside0 (figFrom b (n / b) (sgn (n % b) :: ys) = figs b m))
    case atStart => exact ⟨m, [], rfl, rfl, Nat.le_refl _, Nat.le_refl _, by simp, by simp, ⟨Below.refl _ _⟩, ⟨rfl⟩⟩
    case round =>
      obtain ⟨n, ys, rfl, rfl, hk, hm, hl, hy, HB, HE⟩ := hrel
      by_cases hlt : b ≤ n
      · have hltz : (b : Int) ≤ (n : Int) := by omega
        have hb0 : ¬ (b : Int) = 0 := by omega
        have hb0' : (b : Int) ≠ 0 := by omega
        obtain ⟨e, he⟩ : ∃ e, e = n % b := ⟨_, rfl⟩
        have he16 : e < 16 := by have := Nat.mod_lt n (show 0 < b by omega); omega
        have hez : (n : Int).tmod (b : Int) = (e : Int) := by rw [he, Int.tmod_eq_emod_of_nonneg (by omega)]; omega
        have hez2 : (n : Int) % (b : Int) = (e : Int) := by rw [he]; omega
        have hcut := cut_sign e he16
        have hw : IntKind.u64.wrap ((e : Int) + 1) = (e : Int) + 1 := by simp [IntKind.wrap, IntKind.bits, IntKind.signed]; omega
        have HD := Aside0.mk he
        clear he
        go_wp2_with fail
        go_quiet (fail)
        have hd : (n : Int).tdiv (b : Int) = ((n / b : Nat) : Int) := by rw [Int.tdiv_eq_ediv_of_nonneg (a := (n : Int)) (b := (b : Int)) (by omega)]; exact (Int.natCast_ediv n b).symm
        go_wp2_with fail
        have hwd : IntKind.u64.wrap ((n : Int) / (b : Int)) = ((n / b : Nat) : Int) := by
          have h9 : n / b ≤ n := Nat.div_le_self _ _
          rw [← Int.natCast_ediv]
          generalize n / b = q at h9
          simp [IntKind.wrap, IntKind.bits, IntKind.signed]; omega
        have hlt2 : n / b < n := Nat.div_lt_self (by omega) (by omega)
        go_roundg (n / b)
        case measure => omega
        case rel =>
          refine ⟨n / b, sgn e :: ys, by first | rfl | (rw [hwd]), by first | rfl | (congr 1; exact ByteArray.ext (by rw [ByteArray.data_append]; simp)), Nat.le_refl _, by omega, ?_, ?_, ⟨by first | exact HB.out | exact pw_below_drewN HB.out _ | exact below_drew1 HB.out⟩, ⟨?_⟩⟩
          · exact len_step b n m ys (by omega) hlt (by omega) hy
          · rw [List.length_cons, Nat.pow_succ]
            have h6 := Nat.div_mul_le_self n b
            have h7 : n / b * 2 ≤ n / b * b := Nat.mul_le_mul_left _ (by omega)
            have h8 := Nat.mul_le_mul_right (2 ^ ys.length) (Nat.le_trans h7 h6)
            rw [Nat.mul_assoc, Nat.mul_comm 2] at h8
            omega
          · rw [HD.out, ← figs_more b n ys (by omega) hlt]; exact HE.out
      · have hltz : ¬ (b : Int) ≤ (n : Int) := by omega
        have hcut := cut_sign n (by omega)
        have hw : IntKind.u64.wrap ((n : Int) + 1) = (n : Int) + 1 := by simp [IntKind.wrap, IntKind.bits, IntKind.signed]; omega
        go_wp2
        go_ret
        refine ⟨?_, HB.out⟩
        have h5 := HE.out
        rw [Nat.div_eq_of_lt (by omega), figFrom_done, Nat.mod_eq_of_lt (by omega)] at h5
        rw [← h5]
        show Ending.returned (Value.string (⟨#[sgn n]⟩ ++ ⟨ys.toArray⟩)) = _
        congr 2
  · rw [if_neg hb] at h
    cases h
end Go.Proofs.Ytacglolggaobdab.PAll
