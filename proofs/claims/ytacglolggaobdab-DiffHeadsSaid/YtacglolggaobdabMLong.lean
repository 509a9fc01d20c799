/- Plain laws for the statements on diff: longest common parts, the reference's Lines, the example. -/
import Derived.Test.YtacglolggaobdabGdiffLines
import Derived.Test.YtacglolggaobdabPAllx4
namespace Go.Proofs.Ytacglolggaobdab.MDiff
open Go.RowKit Go.Proofs.Ytacglolggaobdab.PAll Go.Proofs.YtacglolggaobdabW.PrintWords Go.Proofs.YtacglolggaobdabW.PrintLast
open Go.Proofs.Ytacglolggaobdab.MTable
set_option linter.unusedVariables false
set_option linter.unusedSimpArgs false

/-! ### longest common subsequences -/
def TL (l : List ByteArray) : List (List UInt8) := l.map ByteArray.toList

theorem lcs_common : ∀ (n : Nat) (a b : List ByteArray), a.length + b.length ≤ n → ∃ s : List (List UInt8), s.Sublist (TL a) ∧ s.Sublist (TL b) ∧ (s.length : Int) = lcs a b := by
  intro n
  induction n with
  | zero =>
    intro a b h
    obtain rfl : a = [] := List.eq_nil_of_length_eq_zero (by omega)
    exact ⟨[], List.nil_sublist _, List.nil_sublist _, by rw [lcs_nil_left]; rfl⟩
  | succ n ih =>
    intro a b h
    cases a with
    | nil => exact ⟨[], List.nil_sublist _, List.nil_sublist _, by rw [lcs_nil_left]; rfl⟩
    | cons x xs =>
      cases b with
      | nil => exact ⟨[], List.nil_sublist _, List.nil_sublist _, by rw [lcs_nil_right]; rfl⟩
      | cons y ys =>
        simp only [List.length_cons] at h
        rw [lcs_cons]
        by_cases he : x.toList = y.toList
        · obtain ⟨s, h1, h2, h3⟩ := ih xs ys (by omega)
          refine ⟨x.toList :: s, h1.cons_cons _, ?_, ?_⟩
          · show (x.toList :: s).Sublist (y.toList :: TL ys)
            rw [he]; exact h2.cons_cons _
          · rw [if_pos he, ← h3, List.length_cons]; omega
        · rw [if_neg he]
          obtain ⟨s, h1, h2, h3⟩ := ih xs (y :: ys) (by simp only [List.length_cons]; omega)
          obtain ⟨t, k1, k2, k3⟩ := ih (x :: xs) ys (by simp only [List.length_cons]; omega)
          by_cases hm : lcs (x :: xs) ys ≤ lcs xs (y :: ys)
          · exact ⟨s, h1.cons _, h2, by rw [h3]; omega⟩
          · exact ⟨t, k1, k2.cons _, by rw [k3]; omega⟩

theorem lcs_upper : ∀ (n : Nat) (a b : List ByteArray), a.length + b.length ≤ n → ∀ s : List (List UInt8), s.Sublist (TL a) → s.Sublist (TL b) → (s.length : Int) ≤ lcs a b := by
  intro n
  induction n with
  | zero =>
    intro a b h s h1 h2
    obtain rfl : a = [] := List.eq_nil_of_length_eq_zero (by omega)
    obtain rfl := List.sublist_nil.1 h1
    rw [lcs_nil_left]; simp
  | succ n ih =>
    intro a b h s h1 h2
    cases a with
    | nil =>
      obtain rfl := List.sublist_nil.1 h1
      rw [lcs_nil_left]; simp
    | cons x xs =>
      cases b with
      | nil =>
        obtain rfl := List.sublist_nil.1 h2
        rw [lcs_nil_right]; simp
      | cons y ys =>
        simp only [List.length_cons] at h
        have h1' : s.Sublist (x.toList :: TL xs) := h1
        have h2' : s.Sublist (y.toList :: TL ys) := h2
        rw [lcs_cons]
        cases s with
        | nil => have := lcs_nonneg xs ys; have := lcs_nonneg xs (y :: ys); split <;> simp <;> omega
        | cons c s =>
          by_cases he : x.toList = y.toList
          · rw [if_pos he]
            have t1 : s.Sublist (TL xs) := h1'.tail
            have t2 : s.Sublist (TL ys) := h2'.tail
            have := ih xs ys (by omega) s t1 t2
            simp only [List.length_cons]; omega
          · rw [if_neg he]
            by_cases hc : c = x.toList
            · have hcy : c ≠ y.toList := fun e => he (hc.symm.trans e)
              have t2 : (c :: s).Sublist (TL ys) := by
                cases h2' with
                | cons _ h => exact h
                | cons_cons _ h => exact absurd rfl hcy
              have := ih (x :: xs) ys (by simp only [List.length_cons]; omega) _ h1 t2
              omega
            · have t1 : (c :: s).Sublist (TL xs) := by
                cases h1' with
                | cons _ h => exact h
                | cons_cons _ h => exact absurd rfl hc
              have := ih xs (y :: ys) (by simp only [List.length_cons]; omega) _ t1 h2
              omega

theorem lcs_reverse_le (a b : List ByteArray) : lcs a b ≤ lcs a.reverse b.reverse := by
  obtain ⟨s, h1, h2, h3⟩ := lcs_common _ a b (Nat.le_refl _)
  rw [← h3, ← List.length_reverse]
  refine lcs_upper _ _ _ (Nat.le_refl _) _ ?_ ?_
  · unfold TL; rw [List.map_reverse]; exact h1.reverse
  · unfold TL; rw [List.map_reverse]; exact h2.reverse
theorem lcs_reverse (a b : List ByteArray) : lcs a.reverse b.reverse = lcs a b := by
  have h1 := lcs_reverse_le a b
  have h2 := lcs_reverse_le a.reverse b.reverse
  rw [List.reverse_reverse, List.reverse_reverse] at h2
  omega

/-! ### Long -/
section
variable (a b : List ByteArray)
def Pf (i k : Nat) : Int := lcs (a.take i).reverse (b.take k).reverse
theorem take_succ_rev (l : List ByteArray) (i : Nat) (h : i < l.length) : (l.take (i + 1)).reverse = l.getD i ByteArray.empty :: (l.take i).reverse := by
  rw [List.take_succ_eq_append_getElem h, List.reverse_append, List.getD_eq_getElem?_getD, List.getElem?_eq_getElem h]; rfl
theorem Pf_step (i k : Nat) (hi : i < a.length) (hk : k < b.length) :
    Pf a b (i + 1) (k + 1) = if (a.getD i ByteArray.empty).toList = (b.getD k ByteArray.empty).toList then Pf a b i k + 1 else max (Pf a b i (k + 1)) (Pf a b (i + 1) k) := by
  unfold Pf
  rw [take_succ_rev a i hi, take_succ_rev b k hk, lcs_cons]
theorem Pf_zero (i : Nat) : Pf a b i 0 = 0 := by unfold Pf; simp [lcs_nil_right]
theorem Pf_zero' (k : Nat) : Pf a b 0 k = 0 := by unfold Pf; simp [lcs_nil_left]
theorem Pf_le (i k : Nat) : 0 ≤ Pf a b i k ∧ Pf a b i k ≤ a.length := by
  refine ⟨lcs_nonneg _ _, Int.le_trans (lcs_le _ _) ?_⟩
  rw [List.length_reverse, List.length_take]; omega

theorem rd_nat (l : List Int) (k : Nat) : rd l (k : Int) = l.getD k 0 := rfl

theorem long_l1 (hn : a.length ≤ 1000) (hm : b.length ≤ 1000) (i : Nat) (hi : i < a.length) (row : List Int) (hrl : row.length = b.length + 1) (hr : ∀ k, k ≤ b.length → row.getD k 0 = Pf a b i k) (R : Int)
    (hnext : ∀ row' : List Int, row'.length = b.length + 1 → (∀ k, k ≤ b.length → row'.getD k 0 = Pf a b (i + 1) k) → Ev (fun n => abutmentref51_Long.l0 n a b row' ((i + 1 : Nat) : Int)) R) :
    ∀ (d k : Nat), b.length - k = d → k ≤ b.length → ∀ next : List Int, next.length = b.length + 1 → (∀ q, q ≤ k → next.getD q 0 = Pf a b (i + 1) q) →
    Ev (fun n => abutmentref51_Long.l1 n a b row (i : Int) next (k : Int)) R := by
  intro d
  induction d with
  | zero =>
    intro k hd hk next hl hq
    obtain rfl : k = b.length := by omega
    refine Ev.step (f := fun n => abutmentref51_Long.l0 n a b next ((i + 1 : Nat) : Int)) (fun n => ?_) (hnext next hl hq)
    simp only [abutmentref51_Long.l1]
    rw [if_neg (by omega), w64 (by omega) (by omega)]; rfl
  | succ d ih =>
    intro k hd hk next hl hq
    have hk' : k < b.length := by omega
    have hs := Pf_step a b i k hi hk'
    have hle := Pf_le a b i k
    by_cases he : (a.getD i ByteArray.empty).toList = (b.getD k ByteArray.empty).toList
    · rw [if_pos he] at hs
      have h1 := ih (k + 1) (by omega) (by omega) (next.set (k + 1) (row.getD k 0 + 1)) (by rw [List.length_set]; exact hl) (fun q hq' => by
        rw [getD_set _ _ _ _ _ (by omega)]
        split
        · rename_i e; subst e; rw [hs, hr k (by omega)]
        · exact hq q (by omega))
      refine Ev.step (f := fun n => abutmentref51_Long.l1 n a b row (i : Int) (next.set (k + 1) (row.getD k 0 + 1)) ((k + 1 : Nat) : Int)) (fun n => ?_) h1
      simp only [abutmentref51_Long.l1]
      rw [if_pos (by omega), if_pos (by omega), if_pos (by omega), if_pos (by omega), if_pos (show (rdOf ByteArray.empty a (i : Int)).toList = (rdOf ByteArray.empty b (k : Int)).toList from he), if_pos (by omega), w64 (x := (k : Int) + 1) (by omega) (by omega), if_pos (by omega), if_pos (by omega), rd_nat, hr k (by omega), w64 (by omega) (by omega), show ((k : Int) + 1).toNat = k + 1 from by omega, ← hr k (by omega)]; rfl
    · rw [if_neg he] at hs
      have hmx : mx (Pf a b i (k + 1)) (Pf a b (i + 1) k) = Pf a b (i + 1) (k + 1) := by rw [hs]; unfold mx; omega
      have h1 := ih (k + 1) (by omega) (by omega) (next.set (k + 1) (Pf a b (i + 1) (k + 1))) (by rw [List.length_set]; exact hl) (fun q hq' => by
        rw [getD_set _ _ _ _ _ (by omega)]
        split
        · rename_i e; subst e; rfl
        · exact hq q (by omega))
      refine Ev.step (f := fun n => abutmentref51_Long.l1 n a b row (i : Int) (next.set (k + 1) (Pf a b (i + 1) (k + 1))) ((k + 1 : Nat) : Int)) (fun n => ?_) h1
      simp only [abutmentref51_Long.l1]
      rw [if_pos (by omega), if_pos (by omega), if_pos (by omega), if_pos (by omega), if_neg (show ¬ (rdOf ByteArray.empty a (i : Int)).toList = (rdOf ByteArray.empty b (k : Int)).toList from he), w64 (x := (k : Int) + 1) (by omega) (by omega), if_pos (by omega), if_pos (by omega), if_pos (by omega), if_pos (by omega), show (k : Int) + 1 = ((k + 1 : Nat) : Int) from by omega, rd_nat, rd_nat, hr (k + 1) (by omega), hq k (by omega), hmx]; rfl

theorem long_l0 (hn : a.length ≤ 1000) (hm : b.length ≤ 1000) : ∀ (d i : Nat), a.length - i = d → i ≤ a.length → ∀ row : List Int, row.length = b.length + 1 → (∀ k, k ≤ b.length → row.getD k 0 = Pf a b i k) →
    Ev (fun n => abutmentref51_Long.l0 n a b row (i : Int)) (lcs a b) := by
  intro d
  induction d with
  | zero =>
    intro i hd hi row hl hr
    obtain rfl : i = a.length := by omega
    refine Ev.step (f := fun _ => some (lcs a b)) (fun n => ?_) (Ev.now _)
    simp only [abutmentref51_Long.l0]
    rw [if_neg (by omega), if_pos (by omega), if_pos (by omega), rd_nat, hr _ (Nat.le_refl _)]
    unfold Pf
    rw [List.take_length, List.take_length, lcs_reverse]
  | succ d ih =>
    intro i hd hi row hl hr
    have hi' : i < a.length := by omega
    have hrow : wrap64 ((b.length : Int) + 1) = ((b.length + 1 : Nat) : Int) := by rw [w64 (by omega) (by omega)]; omega
    have h1 := long_l1 a b hn hm i hi' row hl hr (lcs a b) (fun row' h1 h2 => ih (i + 1) (by omega) (by omega) row' h1 h2) _ 0 rfl (by omega) (List.replicate (b.length + 1) 0) (by rw [List.length_replicate]) (fun q hq => by
      obtain rfl : q = 0 := by omega
      rw [Pf_zero, List.getD_eq_getElem?_getD, List.getElem?_replicate, if_pos (by omega)]; rfl)
    refine Ev.step (f := fun n => abutmentref51_Long.l1 n a b row (i : Int) (List.replicate (b.length + 1) 0) ((0 : Nat) : Int)) (fun n => ?_) h1
    simp only [abutmentref51_Long.l0]
    rw [if_pos (by omega), hrow, if_pos (by omega), if_pos (by omega)]; rfl

theorem long_comes (hn : a.length ≤ 1000) (hm : b.length ≤ 1000) : Ev (fun n => abutmentref51_Long.f n a b) (lcs a b) := by
  have hrow : wrap64 ((b.length : Int) + 1) = ((b.length + 1 : Nat) : Int) := by rw [w64 (by omega) (by omega)]; omega
  refine Ev.congr (f := fun n => abutmentref51_Long.l0 n a b (List.replicate (b.length + 1) 0) ((0 : Nat) : Int)) (fun n => ?_) (long_l0 a b hn hm _ 0 rfl (by omega) _ (by rw [List.length_replicate]) (fun k hk => ?_))
  · unfold abutmentref51_Long.f
    rw [hrow, if_pos (by omega), if_pos (by omega)]; rfl
  · rw [Pf_zero', List.getD_eq_getElem?_getD, List.getElem?_replicate, if_pos (by omega)]; rfl
end

def to33 (x : S32) : S33 := ⟨x.f0, x.f1⟩
end Go.Proofs.Ytacglolggaobdab.MDiff
