/- digits.figures comes to what digits_figures.f says: the digits of a number's magnitude, in a base of 2 to 16. -/
import Derived.Test.YtacglolggaobdabPAllx0
import Derived.Test.YtacglolggaobdabOct
namespace Go.Proofs.Ytacglolggaobdab.PAll
open Go.RowKit Go.Proofs.YtacglolggaobdabW.PrintWords Go.Proofs.YtacglolggaobdabW.PrintLast Go.Proofs.YtacglolggaobdabW.PrintMore Go.Proofs.Ytacglolggaobdab.Oct
attribute [local go_sem] max2_int min2_int max_two min_two max_three min_three max_four min_four
set_option linter.unusedVariables false
set_option linter.unusedSimpArgs false

/-- the sign of a digit -/
def sgn (d : Nat) : UInt8 := if d < 10 then UInt8.ofNat (48 + d) else UInt8.ofNat (87 + d)
/-- the digits of m ahead of those that are there -/
def figFrom (b : Nat) (m : Nat) (ys : List UInt8) : List UInt8 := if h : m = 0 ∨ b < 2 then ys else figFrom b (m / b) (sgn (m % b) :: ys)
termination_by m
decreasing_by exact Nat.div_lt_self (by omega) (by omega)
def figs (b : Nat) (m : Nat) : List UInt8 := figFrom b (m / b) [sgn (m % b)]

def digits_figures.f (a0 : Int) (a1 : Int) : Option (ByteArray) :=
  if 2 ≤ a1 ∧ a1 ≤ 16 ∧ -9223372036854775808 ≤ a0 ∧ a0 ≤ 9223372036854775807 then some ⟨(figs a1.toNat a0.natAbs).toArray⟩ else none

theorem figFrom_more (b m : Nat) (ys : List UInt8) (hb : 2 ≤ b) (hm : m ≠ 0) : figFrom b m ys = figFrom b (m / b) (sgn (m % b) :: ys) := by
  conv => lhs; rw [figFrom]
  rw [dif_neg (by omega)]
theorem figFrom_done (b : Nat) (ys : List UInt8) : figFrom b 0 ys = ys := by rw [figFrom, dif_pos (Or.inl rfl)]

/-- What the loop holds at every head. -/
structure FigAt (b : Nat) (a0 : Int) (B : Nat) (w wr : World) (n : Int) (at_ : Nat) (ys : List UInt8) : Prop where
  at' : at_ + ys.length = 64
  row : Row wr B 141 (List.replicate at_ 0 ++ ys)
  bel : Below B w wr
  pow : n.natAbs * 2 ^ ys.length ≤ 9223372036854775808
  st : (ys = [] ∧ n = a0) ∨ (ys ≠ [] ∧ figFrom b n.natAbs ys = figs b a0.natAbs)
  lo : -9223372036854775808 ≤ n
  hi : n ≤ 9223372036854775807

theorem FigAt.one {b : Nat} {a0 : Int} {B : Nat} {w wr : World} {n : Int} {at_ : Nat} {ys : List UInt8} (h : FigAt b a0 B w wr n at_ ys) (hgo : ys = [] ∨ n ≠ 0) : 1 ≤ at_ := by
  have h1 := h.at'
  have h2 := h.pow
  rcases hgo with rfl | hn
  · simp at h1; omega
  · by_cases h0 : at_ = 0
    · have h64 : ys.length = 64 := by omega
      rw [h64] at h2
      have : 1 ≤ n.natAbs := by omega
      have := Nat.mul_le_mul_right (2 ^ 64) this
      have : (2 : Nat) ^ 64 = 18446744073709551616 := by decide
      omega
    · omega

theorem FigAt.next {b : Nat} {a0 : Int} {B : Nat} {w wr : World} {n : Int} {at_ : Nat} {ys : List UInt8} (h : FigAt b a0 B w wr n at_ ys) (hgo : ys = [] ∨ n ≠ 0) (hb : 2 ≤ b) {e : Nat} (he : e = n.natAbs % b) :
    FigAt b a0 B w (wr.setCell ⟨B, at_ - 1, none⟩ (.int .u8 ((sgn e).toNat : Int))) (n.tdiv b) (at_ - 1) (sgn e :: ys) := by
  have h1 := h.one hgo
  have ha : (n.tdiv (b : Int)).natAbs = n.natAbs / b := by rw [Int.natAbs_tdiv, Int.natAbs_natCast]; rfl
  have hd : n.natAbs / b ≤ n.natAbs / 2 := Nat.div_le_div_left hb (by decide)
  have hlo := h.lo
  have hhi := h.hi
  refine ⟨by have := h.at'; simp; omega, ?_, h.bel.setCell (Nat.le_refl _) _, ?_, Or.inr ⟨by simp, ?_⟩, ?_, ?_⟩
  · have := h.row.put (at_ - 1) (sgn e)
    have e2 : (List.replicate at_ 0 ++ ys).set (at_ - 1) (sgn e) = List.replicate (at_ - 1) 0 ++ sgn e :: ys := by
      obtain ⟨k, rfl⟩ : ∃ k, at_ = k + 1 := ⟨at_ - 1, by omega⟩
      rw [List.replicate_succ', Nat.add_sub_cancel, List.append_assoc]
      simp
    rwa [e2] at this
  · rw [ha, List.length_cons, Nat.pow_succ]
    have h2 : n.natAbs / b * 2 ≤ n.natAbs := by
      have := Nat.div_mul_le_self n.natAbs b
      have := Nat.mul_le_mul_left (n.natAbs / b) hb
      omega
    have := Nat.mul_le_mul_right (2 ^ ys.length) h2
    have := h.pow
    have e3 : n.natAbs / b * (2 ^ ys.length * 2) = n.natAbs / b * 2 * 2 ^ ys.length := by rw [Nat.mul_assoc, Nat.mul_comm 2]
    omega
  · rw [ha]
    rcases h.st with ⟨rfl, rfl⟩ | ⟨hy, hs⟩
    · rw [he]; rfl
    · rcases hgo with rfl | hn
      · exact absurd rfl hy
      · rw [← hs, figFrom_more b n.natAbs ys hb (by omega), he]
  · omega
  · omega

set_option maxRecDepth 100000 in
theorem slice_array (B at_ : Nat) (h : at_ < 64) (W : World) : (Instr.sliceAt 141 (.pointer (some ⟨B, 0, none⟩)) (some (.int .i64 (at_ : Int))) none none).run Try.prog W = .ok (.slice (some ⟨B, at_, none⟩) (64 - at_) (64 - at_)) W := by
  have e : Try.prog.arrayLen 141 = 64 := by kernel_rfl
  have e2 : Try.prog.elem 141 = 5 := by kernel_rfl
  have e3 : (Go.sizeOf 5).run Try.prog W = .ok 1 W := by
    obtain ⟨i0, hi, hz0, hz1, hz2⟩ := info_parts (show (Try.prog.info? 5).map (fun i => (i.zero, i.size, i.bytes)) = some (some (.int .u8 0), 1, 1) by kernel_rfl)
    simp [sizeOf, typeInfo, hi, hz1]
  rw [run_sliceAt_array_l W 141 ⟨B, 0, none⟩ (by rw [e, e2]; kernel_rfl) .i64 (at_ : Int) (by omega) (by rw [e]; omega), e2, e3, e]
  simp only [Result.andThen, slicedAt, Int.toNat_natCast]
  rw [if_neg (by omega), Nat.mul_one]
  congr 3
  unfold Addr.add
  split
  · rw [show at_ = 0 by omega]
  · simp

theorem sgn_index (e : Nat) (he : e < 16) (W : World) : (Instr.index 9 (.string ⟨#[48, 49, 50, 51, 52, 53, 54, 55, 56, 57, 97, 98, 99, 100, 101, 102]⟩) (.int .i64 (e : Int))).run Try.prog W = .ok (.int .u8 ((sgn e).toNat : Int)) W := by
  rw [run_index_string W 9 _ .i64 _ Try.underlying9, dif_pos ⟨by omega, by show (e : Int) < (16 : Nat); omega⟩]
  have : ∀ e : Fin 16, (ByteArray.mk #[48, 49, 50, 51, 52, 53, 54, 55, 56, 57, 97, 98, 99, 100, 101, 102])[e.1]'(e.2) = sgn e.1 := by decide +kernel
  have h := this ⟨e, he⟩
  simp only [Int.toNat_natCast]
  rw [h]

set_option maxHeartbeats 400000 in
set_option maxRecDepth 100000 in
theorem digits_figures.calls (a0 : Int) (a1 : Int) (r : ByteArray) (w : World) (h : digits_figures.f a0 a1 = some r) :
    Calls Try.prog 90 #[.int .i64 a0, .int .i64 a1] w fun e w' => e = .returned (.string r) ∧ Below w.heap.size w w' := by
  unfold digits_figures.f at h
  by_cases hb : 2 ≤ a1 ∧ a1 ≤ 16 ∧ -9223372036854775808 ≤ a0 ∧ a0 ≤ 9223372036854775807
  · rw [if_pos hb] at h
    obtain ⟨b, rfl⟩ : ∃ b : Nat, a1 = b := ⟨a1.toNat, by omega⟩
    rw [Int.toNat_natCast] at h
    have h := Option.some.inj h
    obtain ⟨hb0, hb1, hm0, hm1⟩ := hb
    have hb0 : 2 ≤ b := by omega
    have hb1 : b ≤ 16 := by omega
    have H := Aside0.mk h
    clear h
    go_enter Try.func90, Try.ntmps90
    go_wp2
    go_loopw [0, 6] (fun v0 v6 wr => ∃ (n : Int) (at_ : Nat) (ys : List UInt8), v0 = .int .i64 n ∧ v6 = .int .i64 at_ ∧ Aside0 (FigAt b a0 w.heap.size w wr n at_ ys)) (fun _ v6 _ => (intOf v6).toNat)
    case atStart => exact ⟨a0, 64, [], rfl, rfl, ⟨⟨by simp, heap_alloc_new w _, (Below.refl _ _).alloc (Nat.le_refl _) _, by simp; omega, Or.inl ⟨rfl, rfl⟩, hm0, hm1⟩⟩⟩
    case round =>
      obtain ⟨n, at_, ys, rfl, rfl, HA⟩ := hrel
      have hn0 := HA.out.lo
      have hn1 := HA.out.hi
      have hlt := HA.out.bel.size
      have hat := HA.out.at'
      by_cases hgo : ys = [] ∨ n ≠ 0
      · have h1 := HA.out.one hgo
        have hc : wr.cell? ⟨w.heap.size, at_ - 1, none⟩ = some (.int .u8 _) := HA.out.row.cell (at_ - 1) (by simp; omega)
        have hf := HA.out.row.fz (at_ - 1)
        obtain ⟨dd, hdd⟩ : ∃ dd : Int, dd = n.tmod b := ⟨_, rfl⟩
        obtain ⟨e, he⟩ : ∃ e : Nat, e = n.natAbs % b := ⟨_, rfl⟩
        have hda : dd.natAbs = e := by rw [hdd, he, Int.natAbs_tmod]; rfl
        have hrem : n.tmod (b : Int) = dd := hdd.symm
        have he16 : e < 16 := by have := Nat.mod_lt n.natAbs (show 0 < b by omega); omega
        have hix := sgn_index e he16
        have hmax : (if dd < -dd then -dd else dd) = (e : Int) := by split <;> omega
        have hd0 : -16 < dd := by omega
        have hd1 : dd < 16 := by omega
        have HN := Aside0.mk (HA.out.next hgo hb0 he)
        have hq0 := HN.out.lo
        have hq1 := HN.out.hi
        have hcast : (at_ : Int) - 1 = ((at_ - 1 : Nat) : Int) := by omega
        have hst : at_ = 64 ∨ ¬ n = 0 := by
          rcases hgo with rfl | hn
          · left; simpa using hat
          · right; exact hn
        clear hdd hgo he
        by_cases h64 : at_ = 64
        · subst h64
          go_wp2
          go_roundw
          case rel => exact ⟨_, 63, _, rfl, rfl, HN⟩
          case measure => simp [intOf]
        · have h64' : decide ((at_ : Int) = 64) = false := decide_eq_false (by omega)
          have hnz : (n != 0) = true := by simpa using (show ¬ n = 0 by omega)
          have h64'' : ((at_ : Int) == 64) = false := beq_eq_false_iff_ne.2 (by omega)
          go_wp2
          go_roundw
          case rel => exact ⟨_, at_ - 1, _, rfl, rfl, HN⟩
          case measure => simp [intOf]; omega
      · have hy : ¬ ys = [] := fun h => hgo (Or.inl h)
        obtain rfl : n = 0 := Decidable.byContradiction fun h => hgo (Or.inr h)
        have hfin : figFrom b (0 : Int).natAbs ys = figs b a0.natAbs := by
          rcases HA.out.st with ⟨h, _⟩ | ⟨_, h⟩
          · exact absurd h hy
          · exact h
        have hfin : ys = figs b a0.natAbs := by rw [← hfin]; exact (figFrom_done b ys).symm
        have hlen : ys.length ≠ 0 := fun h => hy (List.length_eq_zero_iff.1 h)
        have h64' : decide ((at_ : Int) = 64) = false := decide_eq_false (by omega)
        have hcv := HA.out.row.text 107 5 Try.underlying107 Try.underlying5 at_ (64 - at_) (64 - at_) (by simp; omega) 9 Try.underlying9
        have hyy : ((List.replicate at_ 0 ++ ys).drop at_).take (64 - at_) = ys := by
          rw [List.drop_left' (by simp)]
          exact List.take_of_length_le (by omega)
        rw [hyy, hfin, H.out] at hcv
        have h64'' : ((at_ : Int) == 64) = false := beq_eq_false_iff_ne.2 (by omega)
        have hsl := slice_array w.heap.size at_ (by omega)
        have HB := Aside0.mk HA.out.bel
        clear HA hfin hgo
        go_wp2
        go_ret
        exact ⟨rfl, HB.out⟩
  · rw [if_neg hb] at h
    exact absurd h (by simp)
end Go.Proofs.Ytacglolggaobdab.PAll
