/- Plain laws for the digits: what number and the reference's Number come to. -/
import Derived.Test.YtacglolggaobdaaGdigitsPad
import Derived.Test.YtacglolggaobdaaGdigitsnumber
import Derived.Test.YtacglolggaobdaaPAllx3
namespace Go.Proofs.Ytacglolggaobdaa.MDigits
open Go.RowKit Go.Proofs.Ytacglolggaobdaa.PAll Go.Proofs.YtacglolggaobdaaW.PrintWords Go.Proofs.YtacglolggaobdaaW.PrintLast Go.Proofs.YtacglolggaobdaaW.PrintMore
set_option linter.unusedVariables false
set_option linter.unusedSimpArgs false

theorem w64 {x : Int} (h0 : -9223372036854775808 ≤ x) (h1 : x ≤ 9223372036854775807) : wrap64 x = x := by unfold wrap64; omega
def bad (b : Int) (c : UInt8) : Prop := dig c.toNat < 0 ∨ b ≤ dig c.toNat
instance (b : Int) (c : UInt8) : Decidable (bad b c) := by unfold bad; infer_instance
def valFrom (b : Int) : Int → List UInt8 → Int
  | n, [] => n
  | n, c :: cs => valFrom b (n * b + dig c.toNat) cs
def ans (most v : Int) : Int × Int := if v ≤ most then (v, 0) else (0, 5)

theorem dig_ok {b : Int} {c : UInt8} (h : ¬ bad b c) : 0 ≤ dig c.toNat ∧ dig c.toNat < b := by unfold bad at h; omega
theorem valFrom_le (b : Int) (hb : 1 ≤ b) : ∀ (l : List UInt8) (n : Int), 0 ≤ n → (∀ c ∈ l, ¬ bad b c) → n ≤ valFrom b n l
  | [], n, h, _ => Int.le_refl _
  | c :: cs, n, h, hv => by
    have h1 := dig_ok (hv c (List.mem_cons_self ..))
    have h2 : n * 1 ≤ n * b := Int.mul_le_mul_of_nonneg_left hb h
    have := valFrom_le b hb cs (n * b + dig c.toNat) (by omega) (fun x hx => hv x (List.mem_cons_of_mem _ hx))
    rw [valFrom]; omega

theorem numFrom_true (b most : Int) : ∀ (l : List UInt8) (n : Int), (∀ c ∈ l, ¬ bad b c) → numFrom b most l n true = (0, 5)
  | [], n, _ => by rw [numFrom]; rfl
  | c :: cs, n, hv => by
    rw [numFrom_over b most c cs n true (hv c (List.mem_cons_self ..)) (Or.inl rfl)]
    exact numFrom_true b most cs n (fun x hx => hv x (List.mem_cons_of_mem _ hx))
theorem over_iff {b most n d : Int} (hb : 1 ≤ b) (hd : 0 ≤ d) (hn : 0 ≤ n) : (most < d ∨ (most - d) / b < n) ↔ most < n * b + d := by
  have h0 : 0 ≤ n * b := Int.mul_nonneg hn (by omega)
  constructor
  · rintro (h | h)
    · omega
    · have := (Int.ediv_lt_iff_lt_mul (show 0 < b by omega)).1 h
      omega
  · intro h
    by_cases hm : most < d
    · exact Or.inl hm
    · exact Or.inr ((Int.ediv_lt_iff_lt_mul (show 0 < b by omega)).2 (by omega))
theorem numFrom_good (b most : Int) (hb : 1 ≤ b) : ∀ (l : List UInt8) (n : Int), 0 ≤ n → (∀ c ∈ l, ¬ bad b c) → (l = [] → n ≤ most) → numFrom b most l n false = ans most (valFrom b n l)
  | [], n, h, _, hm => by rw [numFrom, valFrom, ans, if_pos (hm rfl)]; rfl
  | c :: cs, n, h, hv, hm => by
    have h1 := dig_ok (hv c (List.mem_cons_self ..))
    have hv' : ∀ x ∈ cs, ¬ bad b x := fun x hx => hv x (List.mem_cons_of_mem _ hx)
    have h0 : 0 ≤ n * b := Int.mul_nonneg h (by omega)
    by_cases ho : most < n * b + dig c.toNat
    · rw [numFrom_over b most c cs n false (hv c (List.mem_cons_self ..)) (Or.inr ((over_iff hb h1.1 h).2 ho)), numFrom_true _ _ _ _ hv', valFrom, ans, if_neg]
      have := valFrom_le b hb cs (n * b + dig c.toNat) (by omega) hv'
      omega
    · rw [numFrom_more b most c cs n false (hv c (List.mem_cons_self ..)) (fun h2 => by
        rcases h2 with h2 | h2
        · cases h2
        · exact ho ((over_iff hb h1.1 h).1 h2)), numFrom_good b most hb cs _ (by omega) hv' (fun _ => by omega)]
      rfl
theorem numFrom_bad_some (b most : Int) : ∀ (l : List UInt8) (n : Int) (o : Bool), (∃ c ∈ l, bad b c) → numFrom b most l n o = (0, 3)
  | [], n, o, h => by obtain ⟨c, hc, _⟩ := h; cases hc
  | c :: cs, n, o, h => by
    by_cases hc : bad b c
    · exact numFrom_bad b most c cs n o hc
    · have h' : ∃ c ∈ cs, bad b c := by
        obtain ⟨x, hx, hbx⟩ := h
        rcases List.mem_cons.1 hx with rfl | hx
        · exact absurd hbx hc
        · exact ⟨x, hx, hbx⟩
      by_cases ho : o = true ∨ most < dig c.toNat ∨ (most - dig c.toNat) / b < n
      · rw [numFrom_over b most c cs n o hc ho]; exact numFrom_bad_some b most cs n true h'
      · rw [numFrom_more b most c cs n o hc ho]; exact numFrom_bad_some b most cs _ false h'

/-- what both come to -/
def numOf (b most : Int) (l : List UInt8) : Int × Int := if l = [] then (0, 2) else if ∃ c ∈ l, bad b c then (0, 3) else ans most (valFrom b 0 l)
theorem number_is (s : ByteArray) (b most : Int) (hb : 2 ≤ b) (hb' : b ≤ 16) (hm0 : -9223372036854775808 ≤ most) (hm1 : most ≤ 9223372036854775807) (hs : s.size ≤ 9223372036854775807) :
    digits_number.f s b most = some (numOf b most s.data.toList) := by
  unfold digits_number.f numOf
  rw [if_pos ⟨hb, hb', hm0, hm1, hs⟩]
  congr 1
  by_cases h0 : s.size = 0
  · rw [if_pos h0, if_pos (by rw [← List.length_eq_zero_iff]; simpa using h0)]
  · have hne : ¬ s.data.toList = [] := fun h => h0 (by rw [← List.length_eq_zero_iff] at h; simpa using h)
    rw [if_neg h0, if_neg hne]
    by_cases hx : ∃ c ∈ s.data.toList, bad b c
    · rw [if_pos hx, numFrom_bad_some b most _ 0 false hx]
    · rw [if_neg hx, numFrom_good b most (by omega) _ 0 (by omega) (fun c hc hbad => hx ⟨c, hc, hbad⟩) (fun h => absurd h hne)]

/-! ### the reference -/
theorem value_comes (c : UInt8) : Ev (fun n => abutmentref02_Value.f n (c.toNat : Int)) (if dig c.toNat < 0 then 99 else dig c.toNat) := by
  have h : ∀ c : Fin 256, abutmentref02_Value.f 3 (c.1 : Int) = some (if dig (c.1 : Int) < 0 then 99 else dig (c.1 : Int)) := by decide +kernel
  exact Ev.of (fun k => abutmentref02_Value.mono _ _) (h ⟨c.toNat, c.toNat_lt⟩)
theorem bt_nat (s : ByteArray) (i : Nat) (h : i < s.data.toList.length) : bt s (i : Int) = ((s.data.toList[i]).toNat : Int) := by
  have hs : i < s.size := by simpa using h
  rw [← bt_at s (i : Int) (by simpa using hs)]
  simp only [Int.toNat_natCast]
  rfl
theorem size_len (s : ByteArray) : s.size = s.data.toList.length := by simp
theorem extract_one (s : ByteArray) : (s.extract 1 s.size).data.toList = s.data.toList.drop 1 := by
  rw [ByteArray.data_extract, Array.toList_extract]
  simp [List.extract_eq_take_drop]
  rw [List.take_of_length_le (by simp)]

theorem l2_comes (s : ByteArray) (b most : Int) (hb : 10 ≤ b) (hb' : b ≤ 16) (hm : most ≤ 9223372036854775807) (hs : s.size ≤ 19) (hv : ∀ c ∈ s.data.toList, ¬ bad b c) :
    ∀ (d i : Nat) (n : Int), s.size - i = d → i ≤ s.size → 0 ≤ n → n ≤ 18446744073709551615 → -9223372036854775808 ≤ most →
      Ev (fun k => abutmentref02_Number.l2 k s b most n (i : Int)) (ans most (valFrom b n (s.data.toList.drop i))) := by
  intro d
  induction d with
  | zero =>
    intro i n hd hi h0 h1 hm0
    rw [List.drop_eq_nil_of_le (by rw [← size_len]; omega), valFrom]
    by_cases hn : most < 0
    · refine Ev.step (f := fun _ => some (0, 5)) (fun k => ?_) ?_
      · simp only [abutmentref02_Number.l2]
        rw [if_neg (by omega), if_pos hn]
      · rw [ans, if_neg (by omega)]; exact Ev.now _
    · have hw : IntKind.u64.wrap most = most := by simp [IntKind.wrap, IntKind.bits, IntKind.signed]; omega
      by_cases hgt : n > most
      · refine Ev.step (f := fun _ => some (0, 5)) (fun k => ?_) ?_
        · simp only [abutmentref02_Number.l2]
          rw [if_neg (by omega), if_neg hn, hw, if_pos hgt]
        · rw [ans, if_neg (by omega)]; exact Ev.now _
      · refine Ev.step (f := fun _ => some (n, 0)) (fun k => ?_) ?_
        · simp only [abutmentref02_Number.l2]
          rw [if_neg (by omega), if_neg hn, hw, if_neg hgt, w64 (by omega) (by omega)]
        · rw [ans, if_pos (by omega)]; exact Ev.now _
  | succ d ih =>
    intro i n hd hi h0 h1 hm0
    have hil : i < s.data.toList.length := by rw [← size_len]; omega
    obtain ⟨c, hc⟩ : ∃ c, c = s.data.toList[i] := ⟨_, rfl⟩
    have hbt : bt s (i : Int) = (c.toNat : Int) := by rw [bt_nat s i hil, hc]
    have hcv : ¬ bad b c := hv c (by rw [hc]; exact List.getElem_mem _)
    have hdg := dig_ok hcv
    rw [List.drop_eq_getElem_cons hil, ← hc, valFrom]
    have hvd : ∀ x ∈ s.data.toList.drop (i + 1), ¬ bad b x := fun x hx => hv x (List.mem_of_mem_drop hx)
    by_cases hbig : n > 1152921504606846975
    · refine Ev.step (f := fun _ => some (0, 5)) (fun k => ?_) ?_
      · simp only [abutmentref02_Number.l2]
        rw [if_pos (by omega), if_pos hbig]
      · have h2 : n * 10 ≤ n * b := Int.mul_le_mul_of_nonneg_left hb h0
        have := valFrom_le b (by omega) (s.data.toList.drop (i + 1)) (n * b + dig c.toNat) (by omega) hvd
        rw [ans, if_neg (by omega)]; exact Ev.now _
    · have h2 : n * b ≤ n * 16 := Int.mul_le_mul_of_nonneg_left hb' h0
      have h3 : 0 ≤ n * b := Int.mul_nonneg h0 (by omega)
      refine Ev.step (f := fun k => (abutmentref02_Value.f k (c.toNat : Int)).bind fun t => abutmentref02_Number.l2 k s b most (IntKind.u64.wrap ((IntKind.u64.wrap (n * (IntKind.u64.wrap b))) + (IntKind.u64.wrap t))) (wrap64 ((i : Int) + 1))) (fun k => ?_) ?_
      · simp only [abutmentref02_Number.l2]
        rw [if_pos (by omega), if_neg hbig, if_pos (by omega), hbt]
      · have hvc := value_comes c
        rw [if_neg (by omega)] at hvc
        refine Ev.bind hvc ?_
        have hw : ∀ x : Int, 0 ≤ x → x ≤ 18446744073709551615 → IntKind.u64.wrap x = x := by
          intro x hx0 hx1; simp [IntKind.wrap, IntKind.bits, IntKind.signed]; omega
        rw [hw b (by omega) (by omega), hw (n * b) h3 (by omega), hw (dig c.toNat) (by omega) (by omega), hw (n * b + dig c.toNat) (by omega) (by omega), w64 (by omega) (by omega)]
        exact ih (i + 1) _ (by omega) (by omega) (by omega) (by omega) hm0

theorem pow_le_val (b : Int) (hb : 10 ≤ b) : ∀ (l : List UInt8) (n : Int), 0 ≤ n → (∀ c ∈ l, ¬ bad b c) → n * 10 ^ l.length ≤ valFrom b n l
  | [], n, _, _ => by simp [valFrom]
  | c :: cs, n, h, hv => by
    have h1 := dig_ok (hv c (List.mem_cons_self ..))
    have h2 : n * 10 ≤ n * b := Int.mul_le_mul_of_nonneg_left hb h
    have h3 := pow_le_val b hb cs (n * b + dig c.toNat) (by omega) (fun x hx => hv x (List.mem_cons_of_mem _ hx))
    have h4 : n * 10 * 10 ^ cs.length ≤ (n * b + dig c.toNat) * 10 ^ cs.length := Int.mul_le_mul_of_nonneg_right (by omega) (Int.pow_nonneg (by decide))
    rw [valFrom, List.length_cons, Int.pow_succ, Int.mul_comm (10 ^ cs.length) 10, ← Int.mul_assoc]
    omega
theorem zero_dig : dig ((48 : UInt8).toNat : Int) = 0 := by decide
theorem dig_zero_iff : ∀ c : Fin 256, dig (c.1 : Int) = 0 → c.1 = 48 := by decide +kernel

theorem l1_comes (b most : Int) (hb : 10 ≤ b) (hb' : b ≤ 16) (hm0 : -9223372036854775808 ≤ most) (hm : most ≤ 9223372036854775807) :
    ∀ (d : Nat) (s : ByteArray), s.size = d → 1 ≤ s.size → (∀ c ∈ s.data.toList, ¬ bad b c) →
      Ev (fun k => abutmentref02_Number.l1 k s b most) (ans most (valFrom b 0 s.data.toList)) := by
  have j2 : ∀ s : ByteArray, 1 ≤ s.size → (∀ c ∈ s.data.toList, ¬ bad b c) → (1 < s.size → bt s 0 ≠ 48) → Ev (fun k => abutmentref02_Number.j2 k s b most) (ans most (valFrom b 0 s.data.toList)) := by
    intro s h1 hv hz
    by_cases hs : (s.size : Int) > 19
    · refine Ev.step (f := fun _ => some (0, 5)) (fun k => ?_) ?_
      · simp only [abutmentref02_Number.j2]
        rw [if_pos hs]
      · have hl := size_len s
        have hz := hz (by omega)
        match hl' : s.data.toList, hl, hv with
        | [], hl, hv => rw [List.length_nil] at hl; omega
        | c :: cs, hl, hv =>
          have hbt : bt s ((0 : Nat) : Int) = (c.toNat : Int) := by
            rw [bt_nat s 0 (by rw [hl']; simp)]
            simp [hl']
          rw [show ((0 : Nat) : Int) = 0 from rfl] at hbt
          rw [hbt] at hz
          have hcd := dig_ok (hv c (List.mem_cons_self ..))
          have hnz : dig (c.toNat : Int) ≠ 0 := fun h => hz (by have := dig_zero_iff ⟨c.toNat, c.toNat_lt⟩ h; simp only at this; omega)
          have := pow_le_val b hb cs (0 * b + dig c.toNat) (by omega) (fun x hx => hv x (List.mem_cons_of_mem _ hx))
          have h19 : 19 ≤ cs.length := by rw [List.length_cons] at hl; omega
          have hp : (10 : Int) ^ 19 ≤ 10 ^ cs.length := by exact_mod_cast Nat.pow_le_pow_right (show 0 < 10 by decide) h19
          have h1' : (1 : Int) * 10 ^ cs.length ≤ (0 * b + dig c.toNat) * 10 ^ cs.length := Int.mul_le_mul_of_nonneg_right (by omega) (by omega)
          have e19 : (10 : Int) ^ 19 = 10000000000000000000 := by decide
          rw [valFrom, ans, if_neg (by omega)]
          exact Ev.now _
    · refine Ev.step (f := fun k => abutmentref02_Number.l2 k s b most 0 ((0 : Nat) : Int)) (fun k => ?_) ?_
      · simp only [abutmentref02_Number.j2]
        rw [if_neg hs]; rfl
      · have := l2_comes s b most hb hb' hm (by omega) hv _ 0 0 rfl (by omega) (by omega) (by omega) hm0
        simpa using this
  intro d
  induction d with
  | zero => intro s h0 h1; omega
  | succ d ih =>
    intro s hd h1 hv
    by_cases hgt : (s.size : Int) > 1
    · by_cases h48 : bt s 0 = 48
      · refine Ev.step (f := fun k => abutmentref02_Number.l1 k (s.extract 1 s.size) b most) (fun k => ?_) ?_
        · simp only [abutmentref02_Number.l1]
          rw [if_pos hgt, if_pos (by omega), if_pos h48, if_pos (by omega)]
        · have e := extract_one s
          have hsz : (s.extract 1 s.size).size = d := by rw [size_len, e, List.length_drop, ← size_len]; omega
          have := ih (s.extract 1 s.size) hsz (by omega) (by rw [e]; exact fun c hc => hv c (List.mem_of_mem_drop hc))
          rw [e] at this
          have hl := size_len s
          match hl' : s.data.toList, hl with
          | [], hl => rw [List.length_nil] at hl; omega
          | c :: cs, hl =>
            have hbt : bt s ((0 : Nat) : Int) = (c.toNat : Int) := by
              rw [bt_nat s 0 (by rw [hl']; simp)]
              simp [hl']
            rw [show ((0 : Nat) : Int) = 0 from rfl, h48] at hbt
            rw [hl'] at this
            have hz : dig (c.toNat : Int) = 0 := by rw [← hbt]; decide
            rw [valFrom, hz]
            simpa using this
      · refine Ev.step (f := fun k => abutmentref02_Number.j2 k s b most) (fun k => ?_) (j2 s h1 hv (fun _ => h48))
        simp only [abutmentref02_Number.l1]
        rw [if_pos hgt, if_pos (by omega), if_neg h48]
    · refine Ev.step (f := fun k => abutmentref02_Number.j2 k s b most) (fun k => ?_) (j2 s h1 hv (fun h => absurd h (by omega)))
      simp only [abutmentref02_Number.l1]
      rw [if_neg hgt]

theorem l0_comes (s : ByteArray) (b most : Int) (hb : 10 ≤ b) (hb' : b ≤ 16) (hm0 : -9223372036854775808 ≤ most) (hm : most ≤ 9223372036854775807) (h1 : 1 ≤ s.size) (hs : s.size ≤ 1000000) :
    ∀ (d i : Nat), s.size - i = d → i ≤ s.size → (∀ c ∈ s.data.toList.take i, ¬ bad b c) →
      Ev (fun k => abutmentref02_Number.l0 k s b most (i : Int)) (if ∃ c ∈ s.data.toList, bad b c then (0, 3) else ans most (valFrom b 0 s.data.toList)) := by
  intro d
  induction d with
  | zero =>
    intro i hd hi hv
    rw [List.take_of_length_le (by rw [← size_len]; omega)] at hv
    rw [if_neg (fun ⟨c, hc, hbad⟩ => hv c hc hbad)]
    refine Ev.step (f := fun k => abutmentref02_Number.l1 k s b most) (fun k => ?_) (l1_comes b most hb hb' hm0 hm _ s rfl h1 hv)
    simp only [abutmentref02_Number.l0]
    rw [if_neg (by omega)]
  | succ d ih =>
    intro i hd hi hv
    have hil : i < s.data.toList.length := by rw [← size_len]; omega
    obtain ⟨c, hc⟩ : ∃ c, c = s.data.toList[i] := ⟨_, rfl⟩
    have hbt : bt s (i : Int) = (c.toNat : Int) := by rw [bt_nat s i hil, hc]
    have hvc := value_comes c
    refine Ev.step (f := fun k => (abutmentref02_Value.f k (c.toNat : Int)).bind fun t => if t ≥ b then (some (0, 3)) else abutmentref02_Number.l0 k s b most (wrap64 ((i : Int) + 1))) (fun k => ?_) (Ev.bind hvc ?_)
    · simp only [abutmentref02_Number.l0]
      rw [if_pos (by omega), if_pos (by omega), hbt]
    · by_cases hbad : bad b c
      · rw [if_pos (show ∃ c ∈ s.data.toList, bad b c from ⟨c, by rw [hc]; exact List.getElem_mem _, hbad⟩)]
        refine Ev.congr (fun k => ?_) (Ev.now _)
        rw [if_pos]
        unfold bad at hbad
        split <;> omega
      · have hdg := dig_ok hbad
        refine Ev.congr (f := fun k => abutmentref02_Number.l0 k s b most ((i + 1 : Nat) : Int)) (fun k => ?_) (ih (i + 1) (by omega) (by omega) ?_)
        · rw [if_neg (show ¬ dig (c.toNat : Int) < 0 by omega), if_neg (by omega), w64 (by omega) (by omega)]; rfl
        · intro x hx
          rw [List.take_succ_eq_append_getElem hil, List.mem_append] at hx
          rcases hx with hx | hx
          · exact hv x hx
          · rw [List.mem_singleton] at hx; rw [hx, ← hc]; exact hbad

theorem ref_comes (s : ByteArray) (b most : Int) (hb : 10 ≤ b) (hb' : b ≤ 16) (hm0 : -9223372036854775808 ≤ most) (hm : most ≤ 9223372036854775807) (hs : s.size ≤ 1000000) :
    Ev (fun k => abutmentref02_Number.f k s b most) (numOf b most s.data.toList) := by
  unfold abutmentref02_Number.f numOf
  by_cases h0 : s.size = 0
  · rw [if_pos (by rw [← List.length_eq_zero_iff, ← size_len]; exact h0)]
    refine Ev.congr (fun k => ?_) (Ev.now _)
    rw [if_pos (by omega)]
  · rw [if_neg (fun h => h0 (by rw [← List.length_eq_zero_iff, ← size_len] at h; exact h))]
    refine Ev.congr (f := fun k => abutmentref02_Number.l0 k s b most ((0 : Nat) : Int)) (fun k => ?_) (l0_comes s b most hb hb' hm0 hm (by omega) hs _ 0 rfl (by omega) (by simp))
    rw [if_neg (by omega)]; rfl
end Go.Proofs.Ytacglolggaobdaa.MDigits
