/- Plain laws for the statements on diff: what the printed functions come to with rounds enough. -/
import Derived.Test.YtacglolggaobdabGdiffLines
import Derived.Test.YtacglolggaobdabPAllx6
import Derived.Test.YtacglolggaobdabPAllx3
import Derived.Test.YtacglolggaobdabPAllx5
namespace Go.Proofs.Ytacglolggaobdab.MDiff
open Go.RowKit Go.Proofs.Ytacglolggaobdab.PAll Go.Proofs.YtacglolggaobdabW.PrintWords Go.Proofs.YtacglolggaobdabW.PrintLast
open Go.Proofs.Ytacglolggaobdab.MTable
set_option linter.unusedVariables false
set_option linter.unusedSimpArgs false

/-! ### few -/
def fewB (l : List ByteArray) : Prop := l.length ≤ 25 ∧ ∀ s ∈ l, s.size ≤ 100
instance (l : List ByteArray) : Decidable (fewB l) := by unfold fewB; infer_instance

theorem few_l0 (l : List ByteArray) (hl : l.length ≤ 25) : ∀ (d i : Nat), l.length - i = d → i ≤ l.length → (∀ j, j < i → (l.getD j ByteArray.empty).size ≤ 100) →
    Ev (fun n => abutmentlaw51_few.l0 n l (l.length : Int) (i : Int)) (decide (fewB l)) := by
  intro d
  induction d with
  | zero =>
    intro i hd hi hj
    obtain rfl : i = l.length := by omega
    have : decide (fewB l) = true := by
      refine decide_eq_true ⟨hl, fun s hs => ?_⟩
      obtain ⟨j, hjl, rfl⟩ := List.mem_iff_getElem.1 hs
      have := hj j hjl
      rwa [List.getD_eq_getElem?_getD, List.getElem?_eq_getElem hjl] at this
    rw [this]
    refine Ev.step (f := fun _ => some true) (fun n => ?_) (Ev.now _)
    simp only [abutmentlaw51_few.l0]
    rw [if_neg (by omega)]
  | succ d ih =>
    intro i hd hi hj
    have hil : i < l.length := by omega
    by_cases hs : (l.getD i ByteArray.empty).size ≤ 100
    · have h1 := ih (i + 1) (by omega) (by omega) (fun j hj' => by
        by_cases e : j = i
        · subst e; exact hs
        · exact hj j (by omega))
      refine Ev.step (f := fun n => abutmentlaw51_few.l0 n l (l.length : Int) ((i + 1 : Nat) : Int)) (fun n => ?_) h1
      simp only [abutmentlaw51_few.l0]
      rw [if_pos (by omega), if_pos (by omega), if_pos (by omega), if_neg (show ¬ ((rdOf ByteArray.empty l (i : Int)).size : Int) > 100 from by show ¬ (((l.getD i ByteArray.empty).size : Int) > 100); omega), w64 (by omega) (by omega)]
      rfl
    · have : decide (fewB l) = false := by
        refine decide_eq_false (fun h => hs (h.2 _ ?_))
        rw [List.getD_eq_getElem?_getD, List.getElem?_eq_getElem hil]
        exact List.getElem_mem hil
      rw [this]
      refine Ev.step (f := fun _ => some false) (fun n => ?_) (Ev.now _)
      simp only [abutmentlaw51_few.l0]
      rw [if_pos (by omega), if_pos (by omega), if_pos (by omega), if_pos (show ((rdOf ByteArray.empty l (i : Int)).size : Int) > 100 from by show (((l.getD i ByteArray.empty).size : Int) > 100); omega)]

theorem few_comes (l : List ByteArray) : Ev (fun n => abutmentlaw51_few.f n l) (decide (fewB l)) := by
  by_cases hl : l.length ≤ 25
  · refine Ev.congr (f := fun n => abutmentlaw51_few.l0 n l (l.length : Int) ((0 : Nat) : Int)) (fun n => ?_) (few_l0 l hl _ 0 rfl (by omega) (fun j hj => absurd hj (by omega)))
    unfold abutmentlaw51_few.f
    rw [if_neg (by omega)]; rfl
  · have : decide (fewB l) = false := decide_eq_false (fun h => hl h.1)
    rw [this]
    refine Ev.congr (f := fun _ => some false) (fun n => ?_) (Ev.now _)
    unfold abutmentlaw51_few.f
    rw [if_pos (by omega)]

/-! ### longest common subsequences -/
def TL (l : List ByteArray) : List (List UInt8) := l.map ByteArray.toList

theorem lcs_common : ∀ (n : Nat) (a b : List ByteArray), a.length + b.length ≤ n → ∃ s : List (List UInt8), s.Sublist (TL a) ∧ s.Sublist (TL b) ∧ (s.length : Int) = lcs a b := by
  intro n
  induction n with
  | zero =>
    intro a b h
    obtain rfl : a = [] := List.eq_nil_of_length_eq_zero (by omega)
    exact ⟨[], List.nil_sublist _, List.nil_sublist _, by rw [lcs_nil_left]; rfl⟩
  | succ n ih =>
    intro a b h
    cases a with
    | nil => exact ⟨[], List.nil_sublist _, List.nil_sublist _, by rw [lcs_nil_left]; rfl⟩
    | cons x xs =>
      cases b with
      | nil => exact ⟨[], List.nil_sublist _, List.nil_sublist _, by rw [lcs_nil_right]; rfl⟩
      | cons y ys =>
        simp only [List.length_cons] at h
        rw [lcs_cons]
        by_cases he : x.toList = y.toList
        · obtain ⟨s, h1, h2, h3⟩ := ih xs ys (by omega)
          refine ⟨x.toList :: s, h1.cons_cons _, ?_, ?_⟩
          · show (x.toList :: s).Sublist (y.toList :: TL ys)
            rw [he]; exact h2.cons_cons _
          · rw [if_pos he, ← h3, List.length_cons]; omega
        · rw [if_neg he]
          obtain ⟨s, h1, h2, h3⟩ := ih xs (y :: ys) (by simp only [List.length_cons]; omega)
          obtain ⟨t, k1, k2, k3⟩ := ih (x :: xs) ys (by simp only [List.length_cons]; omega)
          by_cases hm : lcs (x :: xs) ys ≤ lcs xs (y :: ys)
          · exact ⟨s, h1.cons _, h2, by rw [h3]; omega⟩
          · exact ⟨t, k1, k2.cons _, by rw [k3]; omega⟩

theorem lcs_upper : ∀ (n : Nat) (a b : List ByteArray), a.length + b.length ≤ n → ∀ s : List (List UInt8), s.Sublist (TL a) → s.Sublist (TL b) → (s.length : Int) ≤ lcs a b := by
  intro n
  induction n with
  | zero =>
    intro a b h s h1 h2
    obtain rfl : a = [] := List.eq_nil_of_length_eq_zero (by omega)
    obtain rfl := List.sublist_nil.1 h1
    rw [lcs_nil_left]; simp
  | succ n ih =>
    intro a b h s h1 h2
    cases a with
    | nil =>
      obtain rfl := List.sublist_nil.1 h1
      rw [lcs_nil_left]; simp
    | cons x xs =>
      cases b with
      | nil =>
        obtain rfl := List.sublist_nil.1 h2
        rw [lcs_nil_right]; simp
      | cons y ys =>
        simp only [List.length_cons] at h
        have h1' : s.Sublist (x.toList :: TL xs) := h1
        have h2' : s.Sublist (y.toList :: TL ys) := h2
        rw [lcs_cons]
        cases s with
        | nil => have := lcs_nonneg xs ys; have := lcs_nonneg xs (y :: ys); split <;> simp <;> omega
        | cons c s =>
          by_cases he : x.toList = y.toList
          · rw [if_pos he]
            have t1 : s.Sublist (TL xs) := h1'.tail
            have t2 : s.Sublist (TL ys) := h2'.tail
            have := ih xs ys (by omega) s t1 t2
            simp only [List.length_cons]; omega
          · rw [if_neg he]
            by_cases hc : c = x.toList
            · have hcy : c ≠ y.toList := fun e => he (hc.symm.trans e)
              have t2 : (c :: s).Sublist (TL ys) := by
                cases h2' with
                | cons _ h => exact h
                | cons_cons _ h => exact absurd rfl hcy
              have := ih (x :: xs) ys (by simp only [List.length_cons]; omega) _ h1 t2
              omega
            · have t1 : (c :: s).Sublist (TL xs) := by
                cases h1' with
                | cons _ h => exact h
                | cons_cons _ h => exact absurd rfl hc
              have := ih xs (y :: ys) (by simp only [List.length_cons]; omega) _ t1 h2
              omega

theorem lcs_reverse_le (a b : List ByteArray) : lcs a b ≤ lcs a.reverse b.reverse := by
  obtain ⟨s, h1, h2, h3⟩ := lcs_common _ a b (Nat.le_refl _)
  rw [← h3, ← List.length_reverse]
  refine lcs_upper _ _ _ (Nat.le_refl _) _ ?_ ?_
  · unfold TL; rw [List.map_reverse]; exact h1.reverse
  · unfold TL; rw [List.map_reverse]; exact h2.reverse
theorem lcs_reverse (a b : List ByteArray) : lcs a.reverse b.reverse = lcs a b := by
  have h1 := lcs_reverse_le a b
  have h2 := lcs_reverse_le a.reverse b.reverse
  rw [List.reverse_reverse, List.reverse_reverse] at h2
  omega

/-! ### Long -/
section
variable (a b : List ByteArray)
def Pf (i k : Nat) : Int := lcs (a.take i).reverse (b.take k).reverse
theorem take_succ_rev (l : List ByteArray) (i : Nat) (h : i < l.length) : (l.take (i + 1)).reverse = l.getD i ByteArray.empty :: (l.take i).reverse := by
  rw [List.take_succ_eq_append_getElem h, List.reverse_append, List.getD_eq_getElem?_getD, List.getElem?_eq_getElem h]; rfl
theorem Pf_step (i k : Nat) (hi : i < a.length) (hk : k < b.length) :
    Pf a b (i + 1) (k + 1) = if (a.getD i ByteArray.empty).toList = (b.getD k ByteArray.empty).toList then Pf a b i k + 1 else max (Pf a b i (k + 1)) (Pf a b (i + 1) k) := by
  unfold Pf
  rw [take_succ_rev a i hi, take_succ_rev b k hk, lcs_cons]
theorem Pf_zero (i : Nat) : Pf a b i 0 = 0 := by unfold Pf; simp [lcs_nil_right]
theorem Pf_zero' (k : Nat) : Pf a b 0 k = 0 := by unfold Pf; simp [lcs_nil_left]
theorem Pf_le (i k : Nat) : 0 ≤ Pf a b i k ∧ Pf a b i k ≤ a.length := by
  refine ⟨lcs_nonneg _ _, Int.le_trans (lcs_le _ _) ?_⟩
  rw [List.length_reverse, List.length_take]; omega

theorem rd_nat (l : List Int) (k : Nat) : rd l (k : Int) = l.getD k 0 := rfl

theorem long_l1 (hn : a.length ≤ 1000) (hm : b.length ≤ 1000) (i : Nat) (hi : i < a.length) (row : List Int) (hrl : row.length = b.length + 1) (hr : ∀ k, k ≤ b.length → row.getD k 0 = Pf a b i k) (R : Int)
    (hnext : ∀ row' : List Int, row'.length = b.length + 1 → (∀ k, k ≤ b.length → row'.getD k 0 = Pf a b (i + 1) k) → Ev (fun n => abutmentref51_Long.l0 n a b row' ((i + 1 : Nat) : Int)) R) :
    ∀ (d k : Nat), b.length - k = d → k ≤ b.length → ∀ next : List Int, next.length = b.length + 1 → (∀ q, q ≤ k → next.getD q 0 = Pf a b (i + 1) q) →
    Ev (fun n => abutmentref51_Long.l1 n a b row (i : Int) next (k : Int)) R := by
  intro d
  induction d with
  | zero =>
    intro k hd hk next hl hq
    obtain rfl : k = b.length := by omega
    refine Ev.step (f := fun n => abutmentref51_Long.l0 n a b next ((i + 1 : Nat) : Int)) (fun n => ?_) (hnext next hl hq)
    simp only [abutmentref51_Long.l1]
    rw [if_neg (by omega), w64 (by omega) (by omega)]; rfl
  | succ d ih =>
    intro k hd hk next hl hq
    have hk' : k < b.length := by omega
    have hs := Pf_step a b i k hi hk'
    have hle := Pf_le a b i k
    by_cases he : (a.getD i ByteArray.empty).toList = (b.getD k ByteArray.empty).toList
    · rw [if_pos he] at hs
      have h1 := ih (k + 1) (by omega) (by omega) (next.set (k + 1) (row.getD k 0 + 1)) (by rw [List.length_set]; exact hl) (fun q hq' => by
        rw [getD_set _ _ _ _ _ (by omega)]
        split
        · rename_i e; subst e; rw [hs, hr k (by omega)]
        · exact hq q (by omega))
      refine Ev.step (f := fun n => abutmentref51_Long.l1 n a b row (i : Int) (next.set (k + 1) (row.getD k 0 + 1)) ((k + 1 : Nat) : Int)) (fun n => ?_) h1
      simp only [abutmentref51_Long.l1]
      rw [if_pos (by omega), if_pos (by omega), if_pos (by omega), if_pos (by omega), if_pos (show (rdOf ByteArray.empty a (i : Int)).toList = (rdOf ByteArray.empty b (k : Int)).toList from he), if_pos (by omega), w64 (x := (k : Int) + 1) (by omega) (by omega), if_pos (by omega), if_pos (by omega), rd_nat, hr k (by omega), w64 (by omega) (by omega), show ((k : Int) + 1).toNat = k + 1 from by omega, ← hr k (by omega)]; rfl
    · rw [if_neg he] at hs
      have hmx : mx (Pf a b i (k + 1)) (Pf a b (i + 1) k) = Pf a b (i + 1) (k + 1) := by rw [hs]; unfold mx; omega
      have h1 := ih (k + 1) (by omega) (by omega) (next.set (k + 1) (Pf a b (i + 1) (k + 1))) (by rw [List.length_set]; exact hl) (fun q hq' => by
        rw [getD_set _ _ _ _ _ (by omega)]
        split
        · rename_i e; subst e; rfl
        · exact hq q (by omega))
      refine Ev.step (f := fun n => abutmentref51_Long.l1 n a b row (i : Int) (next.set (k + 1) (Pf a b (i + 1) (k + 1))) ((k + 1 : Nat) : Int)) (fun n => ?_) h1
      simp only [abutmentref51_Long.l1]
      rw [if_pos (by omega), if_pos (by omega), if_pos (by omega), if_pos (by omega), if_neg (show ¬ (rdOf ByteArray.empty a (i : Int)).toList = (rdOf ByteArray.empty b (k : Int)).toList from he), w64 (x := (k : Int) + 1) (by omega) (by omega), if_pos (by omega), if_pos (by omega), if_pos (by omega), if_pos (by omega), show (k : Int) + 1 = ((k + 1 : Nat) : Int) from by omega, rd_nat, rd_nat, hr (k + 1) (by omega), hq k (by omega), hmx]; rfl

theorem long_l0 (hn : a.length ≤ 1000) (hm : b.length ≤ 1000) : ∀ (d i : Nat), a.length - i = d → i ≤ a.length → ∀ row : List Int, row.length = b.length + 1 → (∀ k, k ≤ b.length → row.getD k 0 = Pf a b i k) →
    Ev (fun n => abutmentref51_Long.l0 n a b row (i : Int)) (lcs a b) := by
  intro d
  induction d with
  | zero =>
    intro i hd hi row hl hr
    obtain rfl : i = a.length := by omega
    refine Ev.step (f := fun _ => some (lcs a b)) (fun n => ?_) (Ev.now _)
    simp only [abutmentref51_Long.l0]
    rw [if_neg (by omega), if_pos (by omega), if_pos (by omega), rd_nat, hr _ (Nat.le_refl _)]
    unfold Pf
    rw [List.take_length, List.take_length, lcs_reverse]
  | succ d ih =>
    intro i hd hi row hl hr
    have hi' : i < a.length := by omega
    have hrow : wrap64 ((b.length : Int) + 1) = ((b.length + 1 : Nat) : Int) := by rw [w64 (by omega) (by omega)]; omega
    have h1 := long_l1 a b hn hm i hi' row hl hr (lcs a b) (fun row' h1 h2 => ih (i + 1) (by omega) (by omega) row' h1 h2) _ 0 rfl (by omega) (List.replicate (b.length + 1) 0) (by rw [List.length_replicate]) (fun q hq => by
      obtain rfl : q = 0 := by omega
      rw [Pf_zero, List.getD_eq_getElem?_getD, List.getElem?_replicate, if_pos (by omega)]; rfl)
    refine Ev.step (f := fun n => abutmentref51_Long.l1 n a b row (i : Int) (List.replicate (b.length + 1) 0) ((0 : Nat) : Int)) (fun n => ?_) h1
    simp only [abutmentref51_Long.l0]
    rw [if_pos (by omega), hrow, if_pos (by omega), if_pos (by omega)]; rfl

theorem long_comes (hn : a.length ≤ 1000) (hm : b.length ≤ 1000) : Ev (fun n => abutmentref51_Long.f n a b) (lcs a b) := by
  have hrow : wrap64 ((b.length : Int) + 1) = ((b.length + 1 : Nat) : Int) := by rw [w64 (by omega) (by omega)]; omega
  refine Ev.congr (f := fun n => abutmentref51_Long.l0 n a b (List.replicate (b.length + 1) 0) ((0 : Nat) : Int)) (fun n => ?_) (long_l0 a b hn hm _ 0 rfl (by omega) _ (by rw [List.length_replicate]) (fun k hk => ?_))
  · unfold abutmentref51_Long.f
    rw [hrow, if_pos (by omega), if_pos (by omega)]; rfl
  · rw [Pf_zero', List.getD_eq_getElem?_getD, List.getElem?_replicate, if_pos (by omega)]; rfl
end

/-! ### the reference's Lines -/
def to33 (x : S32) : S33 := ⟨x.f0, x.f1⟩

theorem ref_lines : ∀ (d : Nat) (a b : List ByteArray) (out : List S33), a.length + b.length ≤ d → a.length ≤ 1000 → b.length ≤ 1000 → out.length + d ≤ 5000 →
    Ev (fun n => abutmentref51_Lines.l0 n a b out) (out ++ (linesOf a b).map to33) := by
  intro d
  induction d with
  | zero =>
    intro a b out hd hn hm ho
    obtain rfl : a = [] := List.eq_nil_of_length_eq_zero (by omega)
    obtain rfl : b = [] := List.eq_nil_of_length_eq_zero (by omega)
    rw [linesOf_nil, List.map_nil, List.append_nil]
    exact Ev.step (f := fun n => abutmentref51_Lines.j1 n [] [] out false) (fun n => rfl) (Ev.step (f := fun _ => some out) (fun n => rfl) (Ev.now _))
  | succ d ih =>
    intro a b out hd hn hm ho
    cases a with
    | nil =>
      cases b with
      | nil => exact ih [] [] out (by simp) (by simp) (by simp) (by omega)
      | cons y ys =>
        simp only [List.length_cons, List.length_nil] at hd hm
        have h1 := ih [] ys (out ++ [⟨2, y⟩]) (by simp; omega) (by simp) (by omega) (by simp; omega)
        rw [linesOf_right, List.map_cons, List.append_cons]
        refine Ev.step (f := fun n => abutmentref51_Lines.j1 n [] (y :: ys) out true) (fun n => ?_) ?_
        · simp only [abutmentref51_Lines.l0]
          rw [if_neg (by simp)]
          rw [show decide (((y :: ys).length : Int) > 0) = true from decide_eq_true (by simp only [List.length_cons]; omega)]
        refine Ev.step (f := fun n => abutmentref51_Lines.j2 n [] (y :: ys) out false) (fun n => ?_) ?_
        · simp only [abutmentref51_Lines.j1]
          rw [if_pos trivial, if_neg (by simp)]
        refine Ev.step (f := fun n => abutmentref51_Lines.j3 n [] (y :: ys) out false) (fun n => ?_) ?_
        · simp only [abutmentref51_Lines.j2]
          rw [if_neg (by simp), if_neg (by simp only [List.length_cons]; omega), if_neg (by simp)]
        refine Ev.step (f := fun n => abutmentref51_Lines.l0 n [] ys (out ++ [⟨2, y⟩])) (fun n => ?_) h1
        simp only [abutmentref51_Lines.j3]
        rw [if_neg (by simp), if_pos (by simp only [List.length_cons]; omega), if_pos (by omega), if_pos (by simp only [List.length_cons]; omega)]
        rfl
    | cons x xs =>
      simp only [List.length_cons] at hd hn
      have e0 : Ev (fun n => abutmentref51_Lines.j1 n (x :: xs) b out true) (out ++ (linesOf (x :: xs) b).map to33) → Ev (fun n => abutmentref51_Lines.l0 n (x :: xs) b out) (out ++ (linesOf (x :: xs) b).map to33) := by
        refine fun h => Ev.step (f := fun n => abutmentref51_Lines.j1 n (x :: xs) b out true) (fun n => ?_) h
        simp only [abutmentref51_Lines.l0]
        rw [if_pos (by simp only [List.length_cons]; omega)]
      refine e0 ?_
      cases b with
      | nil =>
        have h1 := ih xs [] (out ++ [⟨1, x⟩]) (by simp only [List.length_nil] at hd ⊢; omega) (by omega) (by simp) (by simp only [List.length_append, List.length_singleton]; omega)
        rw [linesOf_left, List.map_cons, List.append_cons]
        refine Ev.step (f := fun n => abutmentref51_Lines.j2 n (x :: xs) [] out false) (fun n => ?_) ?_
        · simp only [abutmentref51_Lines.j1]
          rw [if_pos trivial, if_pos (by simp only [List.length_cons]; omega), if_neg (by simp)]
        refine Ev.step (f := fun n => abutmentref51_Lines.j3 n (x :: xs) [] out true) (fun n => ?_) ?_
        · simp only [abutmentref51_Lines.j2]
          rw [if_neg (by simp), if_pos (by simp)]
        refine Ev.step (f := fun n => abutmentref51_Lines.l0 n xs [] (out ++ [⟨1, x⟩])) (fun n => ?_) h1
        simp only [abutmentref51_Lines.j3]
        rw [if_pos trivial, if_pos (by simp only [List.length_cons]; omega), if_pos (by omega), if_pos (by simp only [List.length_cons]; omega)]
        rfl
      | cons y ys =>
        simp only [List.length_cons] at hd hm
        refine Ev.step (f := fun n => abutmentref51_Lines.j2 n (x :: xs) (y :: ys) out (x.toList == y.toList)) (fun n => ?_) ?_
        · simp only [abutmentref51_Lines.j1]
          rw [if_pos trivial, if_pos (by simp only [List.length_cons]; omega), if_pos (by simp only [List.length_cons]; omega), if_pos (by simp only [List.length_cons]; omega), if_pos (by simp only [List.length_cons]; omega)]
          rfl
        by_cases he : x.toList = y.toList
        · rw [show (x.toList == y.toList) = true from beq_iff_eq.2 he, linesOf_eq _ _ _ _ he, List.map_cons, List.append_cons]
          have h1 := ih xs ys (out ++ [⟨0, x⟩]) (by omega) (by omega) (by omega) (by simp only [List.length_append, List.length_singleton]; omega)
          refine Ev.step (f := fun n => abutmentref51_Lines.l0 n xs ys (out ++ [⟨0, x⟩])) (fun n => ?_) h1
          simp only [abutmentref51_Lines.j2]
          rw [if_pos trivial, if_pos (by simp only [List.length_cons]; omega), if_pos (by omega), if_pos (by simp only [List.length_cons]; omega), if_pos (by simp only [List.length_cons]; omega)]
          rfl
        · rw [show (x.toList == y.toList) = false from beq_eq_false_iff_ne.2 he]
          have hL1 := long_comes xs (y :: ys) (by omega) (by simp only [List.length_cons]; omega)
          have hL2 := long_comes (x :: xs) ys (by simp only [List.length_cons]; omega) (by omega)
          refine Ev.step (f := fun n => (abutmentref51_Long.f n xs (y :: ys)).bind fun t180 => (abutmentref51_Long.f n (x :: xs) ys).bind fun t186 => abutmentref51_Lines.j3 n (x :: xs) (y :: ys) out (decide (t180 ≥ t186))) (fun n => ?_) ?_
          · simp only [abutmentref51_Lines.j2]
            rw [if_neg (by simp), if_neg (by simp only [List.length_cons]; omega), if_pos (by simp only [List.length_cons]; omega), if_pos (by simp only [List.length_cons]; omega)]
            refine congrArg _ (funext fun t => ?_)
            rw [if_pos (by simp only [List.length_cons]; omega)]
            rfl
          refine Ev.bind hL1 (Ev.bind hL2 ?_)
          by_cases hc : lcs (x :: xs) ys ≤ lcs xs (y :: ys)
          · rw [linesOf_gone _ _ _ _ he hc, List.map_cons, List.append_cons, show decide (lcs xs (y :: ys) ≥ lcs (x :: xs) ys) = true from decide_eq_true hc]
            have h1 := ih xs (y :: ys) (out ++ [⟨1, x⟩]) (by simp only [List.length_cons]; omega) (by omega) (by simp only [List.length_cons]; omega) (by simp only [List.length_append, List.length_singleton]; omega)
            refine Ev.step (f := fun n => abutmentref51_Lines.l0 n xs (y :: ys) (out ++ [⟨1, x⟩])) (fun n => ?_) h1
            simp only [abutmentref51_Lines.j3]
            rw [if_pos trivial, if_pos (by simp only [List.length_cons]; omega), if_pos (by omega), if_pos (by simp only [List.length_cons]; omega)]
            rfl
          · rw [linesOf_new _ _ _ _ he hc, List.map_cons, List.append_cons, show decide (lcs xs (y :: ys) ≥ lcs (x :: xs) ys) = false from decide_eq_false hc]
            have h1 := ih (x :: xs) ys (out ++ [⟨2, y⟩]) (by simp only [List.length_cons]; omega) (by simp only [List.length_cons]; omega) (by omega) (by simp only [List.length_append, List.length_singleton]; omega)
            refine Ev.step (f := fun n => abutmentref51_Lines.l0 n (x :: xs) ys (out ++ [⟨2, y⟩])) (fun n => ?_) h1
            simp only [abutmentref51_Lines.j3]
            rw [if_neg (by simp), if_pos (by simp only [List.length_cons]; omega), if_pos (by omega), if_pos (by simp only [List.length_cons]; omega)]
            rfl

theorem refLines_comes (a b : List ByteArray) (hn : a.length ≤ 1000) (hm : b.length ≤ 1000) : Ev (fun n => abutmentref51_Lines.f n a b) ((linesOf a b).map to33) :=
  ref_lines _ a b [] (Nat.le_refl _) hn hm (by simp; omega)

/-! ### same -/
theorem same_l0 (l : List S32) (hl : l.length ≤ 5000) : ∀ (d i : Nat), l.length - i = d → i ≤ l.length → Ev (fun n => abutmentlaw51_same.l0 n l (l.map to33) (l.length : Int) (i : Int)) true := by
  intro d
  induction d with
  | zero =>
    intro i hd hi
    refine Ev.step (f := fun _ => some true) (fun n => ?_) (Ev.now _)
    simp only [abutmentlaw51_same.l0]
    rw [if_neg (by omega)]
  | succ d ih =>
    intro i hd hi
    have hil : i < l.length := by omega
    refine Ev.step (f := fun n => abutmentlaw51_same.l0 n l (l.map to33) (l.length : Int) ((i + 1 : Nat) : Int)) (fun n => ?_) (ih (i + 1) (by omega) (by omega))
    have e : rd_T33 (l.map to33) (i : Int) = to33 (rd_T32 l (i : Int)) := by
      show (l.map to33).getD i z33 = to33 (l.getD i z32)
      rw [List.getD_eq_getElem?_getD, List.getD_eq_getElem?_getD, List.getElem?_map, List.getElem?_eq_getElem hil]; rfl
    simp only [abutmentlaw51_same.l0]
    rw [if_pos (by omega), if_pos (by omega), if_pos (by omega), if_pos (by rw [List.length_map]; omega), e, if_pos (show (rd_T32 l (i : Int)).f0 = (to33 (rd_T32 l (i : Int))).f0 from rfl), if_pos (show (rd_T32 l (i : Int)).f1.toList = (to33 (rd_T32 l (i : Int))).f1.toList from rfl), w64 (by omega) (by omega)]
    rfl

theorem same_comes (l : List S32) (hl : l.length ≤ 5000) : Ev (fun n => abutmentlaw51_same.f n l (l.map to33)) true := by
  refine Ev.congr (f := fun n => abutmentlaw51_same.l0 n l (l.map to33) (l.length : Int) ((0 : Nat) : Int)) (fun n => ?_) (same_l0 l hl _ 0 rfl (by omega))
  unfold abutmentlaw51_same.f
  rw [if_pos (by rw [List.length_map])]; rfl

theorem linesOf_length : ∀ (d : Nat) (a b : List ByteArray), a.length + b.length = d → (linesOf a b).length ≤ d := by
  intro d
  induction d using Nat.strongRecOn with
  | _ d ih =>
    intro a b hd
    cases a with
    | nil =>
      cases b with
      | nil => rw [linesOf_nil]; simp
      | cons y ys =>
        rw [linesOf_right]; simp only [List.length_cons, List.length_nil] at hd ⊢
        have := ih (ys.length) (by omega) [] ys (by simp); omega
    | cons x xs =>
      cases b with
      | nil =>
        rw [linesOf_left]; simp only [List.length_cons, List.length_nil] at hd ⊢
        have := ih (xs.length) (by omega) xs [] (by simp); omega
      | cons y ys =>
        simp only [List.length_cons] at hd
        rw [linesOf]
        split
        · have := ih (xs.length + ys.length) (by omega) xs ys rfl
          simp only [List.length_cons]; omega
        · split
          · have := ih (xs.length + (ys.length + 1)) (by omega) xs (y :: ys) (by simp)
            simp only [List.length_cons] at this ⊢; omega
          · have := ih (xs.length + 1 + ys.length) (by omega) (x :: xs) ys (by simp)
            simp only [List.length_cons] at this ⊢; omega

/-! ### lives -/
theorem lives_rows : linesOf [(⟨#[97]⟩ : ByteArray), (⟨#[98]⟩ : ByteArray)] [(⟨#[98]⟩ : ByteArray), (⟨#[99]⟩ : ByteArray)] = [⟨1, ⟨#[97]⟩⟩, ⟨0, ⟨#[98]⟩⟩, ⟨2, ⟨#[99]⟩⟩] := by
  simp [linesOf, lcs, ByteArray.toList_eq]

theorem lives_comes : Ev (fun n => abutmentlaw51_lives.f n) true := by
  refine Ev.congr (f := fun n => (abutmentlaw51_same.f n (linesOf [(⟨#[97]⟩ : ByteArray), (⟨#[98]⟩ : ByteArray)] [(⟨#[98]⟩ : ByteArray), (⟨#[99]⟩ : ByteArray)]) ((linesOf [(⟨#[97]⟩ : ByteArray), (⟨#[98]⟩ : ByteArray)] [(⟨#[98]⟩ : ByteArray), (⟨#[99]⟩ : ByteArray)]).map to33)).bind fun t => if t = true then some true else some false) (fun n => ?_) ?_
  · unfold abutmentlaw51_lives.f diff_Lines.f
    rw [if_pos (by simp), Option.bind_some, lives_rows]; rfl
  · refine Ev.bind (same_comes _ (Nat.le_trans (linesOf_length _ _ _ rfl) (by simp))) ?_
    exact Ev.congr (f := fun _ => some true) (fun n => by rw [if_pos rfl]) (Ev.now _)
#print axioms lives_comes
end Go.Proofs.Ytacglolggaobdab.MDiff
