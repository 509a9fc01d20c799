/- The plain law of diff.table: with rounds enough it comes to a table whose entry (i, k) is the length of a longest common subsequence of a.drop i and b.drop k, for lists of at most 1000 lines. -/
import Derived.Test.YtacglolggaobdabPAllx2
namespace Go.Proofs.Ytacglolggaobdab.MTable
open Go.RowKit Go.Proofs.Ytacglolggaobdab.PAll Go.Proofs.YtacglolggaobdabW.PrintWords Go.Proofs.YtacglolggaobdabW.PrintLast
set_option linter.unusedVariables false

theorem w64 {x : Int} (h0 : -9223372036854775808 ≤ x) (h1 : x ≤ 9223372036854775807) : wrap64 x = x := by unfold wrap64; omega

def lcs : List ByteArray → List ByteArray → Int
  | [], _ => 0
  | _ :: _, [] => 0
  | x :: xs, y :: ys => if x.toList = y.toList then lcs xs ys + 1 else max (lcs xs (y :: ys)) (lcs (x :: xs) ys)
termination_by a b => a.length + b.length

theorem lcs_nil_right (a : List ByteArray) : lcs a [] = 0 := by cases a <;> simp [lcs]
theorem lcs_nil_left (b : List ByteArray) : lcs [] b = 0 := by simp [lcs]
theorem lcs_cons (x y : ByteArray) (xs ys : List ByteArray) : lcs (x :: xs) (y :: ys) = if x.toList = y.toList then lcs xs ys + 1 else max (lcs xs (y :: ys)) (lcs (x :: xs) ys) := by rw [lcs]

theorem lcs_bounds : ∀ (n : Nat) (a b : List ByteArray), a.length + b.length ≤ n → 0 ≤ lcs a b ∧ lcs a b ≤ a.length := by
  intro n
  induction n with
  | zero =>
    intro a b h
    obtain rfl : a = [] := List.eq_nil_of_length_eq_zero (by omega)
    simp [lcs]
  | succ n ih =>
    intro a b h
    cases a with
    | nil => simp [lcs]
    | cons x xs =>
      cases b with
      | nil => rw [lcs_nil_right]; constructor <;> simp <;> omega
      | cons y ys =>
        rw [lcs_cons]
        simp only [List.length_cons] at h ⊢
        have h1 := ih xs ys (by omega)
        have h2 := ih xs (y :: ys) (by simp only [List.length_cons]; omega)
        have h3 := ih (x :: xs) ys (by simp only [List.length_cons]; omega)
        simp only [List.length_cons] at h2 h3
        split <;> omega
theorem lcs_nonneg (a b : List ByteArray) : 0 ≤ lcs a b := (lcs_bounds _ a b (Nat.le_refl _)).1
theorem lcs_le (a b : List ByteArray) : lcs a b ≤ a.length := (lcs_bounds _ a b (Nat.le_refl _)).2

/-- the entry (i, k) of a table -/
def ent (T : List (List Int)) (i k : Nat) : Int := (T.getD i []).getD k 0

theorem getD_set {α : Type} (l : List α) (i j : Nat) (x d : α) (hi : i < l.length) : (l.set i x).getD j d = if j = i then x else l.getD j d := by
  simp only [List.getD_eq_getElem?_getD, List.getElem?_set]
  by_cases h : i = j
  · subst h; simp [hi]
  · rw [if_neg h, if_neg (fun e => h e.symm)]

theorem ent_set (T : List (List Int)) (i k i' k' : Nat) (v : Int) (hi : i < T.length) (hk : k < (T.getD i []).length) :
    ent (T.set i ((T.getD i []).set k v)) i' k' = if i' = i ∧ k' = k then v else ent T i' k' := by
  unfold ent
  rw [getD_set _ _ _ _ _ hi]
  by_cases h : i' = i
  · subst h
    rw [if_pos rfl, getD_set _ _ _ _ _ hk]
    by_cases h2 : k' = k <;> simp [h2]
  · rw [if_neg h, if_neg (fun e => h e.1)]

/-- A table of the right shape: so many rows, each so long. -/
structure Shape (n m : Nat) (T : List (List Int)) : Prop where
  len : T.length = n
  row : ∀ i, i < n → (T.getD i []).length = m

theorem Shape.set {n m : Nat} {T : List (List Int)} (h : Shape n m T) (i k : Nat) (v : Int) (hi : i < n) : Shape n m (T.set i ((T.getD i []).set k v)) := by
  refine ⟨by rw [List.length_set]; exact h.len, fun j hj => ?_⟩
  rw [getD_set _ _ _ _ _ (by rw [h.len]; exact hi)]
  split
  · rename_i e; subst e; rw [List.length_set]; exact h.row _ hj
  · exact h.row _ hj

theorem drop_at (l : List ByteArray) (i : Nat) (h : i < l.length) : l.drop i = l.getD i ByteArray.empty :: l.drop (i + 1) := by
  rw [List.drop_eq_getElem_cons h, List.getD_eq_getElem?_getD, List.getElem?_eq_getElem h]; rfl

section
variable (a b : List ByteArray)
def L (i k : Nat) : Int := lcs (a.drop i) (b.drop k)

theorem L_step (i k : Nat) (hi : i < a.length) (hk : k < b.length) :
    L a b i k = if (a.getD i ByteArray.empty).toList = (b.getD k ByteArray.empty).toList then L a b (i + 1) (k + 1) + 1 else max (L a b (i + 1) k) (L a b i (k + 1)) := by
  unfold L
  rw [drop_at a i hi, drop_at b k hk, lcs_cons]
theorem L_end_left (i k : Nat) (hi : a.length ≤ i) : L a b i k = 0 := by unfold L; rw [List.drop_eq_nil_of_le hi, lcs_nil_left]
theorem L_end_right (i k : Nat) (hk : b.length ≤ k) : L a b i k = 0 := by unfold L; rw [List.drop_eq_nil_of_le hk, lcs_nil_right]
theorem L_le (i k : Nat) : 0 ≤ L a b i k ∧ L a b i k ≤ a.length := by
  refine ⟨lcs_nonneg _ _, Int.le_trans (lcs_le _ _) ?_⟩
  rw [List.length_drop]; omega

/-- what is filled when row i is filled down to column k (k itself not): rows below i wholly -/
def Filled (i k : Int) (T : List (List Int)) : Prop :=
  Shape (a.length + 1) (b.length + 1) T ∧ ∀ p q : Nat, p ≤ a.length → q ≤ b.length → ent T p q = if (i < p ∨ ((p : Int) = i ∧ k < q)) then L a b p q else 0

theorem rd_ent (T : List (List Int)) (i k : Int) : rd (rd_L5 T i) k = ent T i.toNat k.toNat := rfl

def Done (T : List (List Int)) : Prop := Filled a b (-1) ((b.length : Int) - 1) T

theorem step_l2 (hn : a.length ≤ 1000) (hm : b.length ≤ 1000) :
    ∀ (d : Nat) (i k : Int), 0 ≤ i → i < a.length → -1 ≤ k → k < b.length → (k + 1).toNat = d → ∀ T, Filled a b i k T →
    (∀ T', Filled a b (i - 1) ((b.length : Int) - 1) T' → ∃ R, Ev (fun n => diff_table.l1 n a b T' (i - 1)) R ∧ Done a b R) → ∃ R, Ev (fun n => diff_table.l2 n a b T i k) R ∧ Done a b R := by
  intro d
  induction d with
  | zero =>
    intro i k h0 h1 h2 h3 hd T hF hnext
    obtain rfl : k = -1 := by omega
    have hT : Filled a b (i - 1) ((b.length : Int) - 1) T := by
      refine ⟨hF.1, fun p q hp hq => ?_⟩
      rw [hF.2 p q hp hq]
      by_cases hc : i - 1 < p
      · rw [if_pos (by omega), if_pos (.inl hc)]
      · rw [if_neg (by omega)]
        split
        · rw [L_end_right a b p q (by omega)]
        · rfl
    obtain ⟨R, hR, hD⟩ := hnext T hT
    refine ⟨R, Ev.step (f := fun n => diff_table.l1 n a b T (i - 1)) (fun n => ?_) hR, hD⟩
    show diff_table.l2 (n + 1) a b T i (-1) = _
    simp only [diff_table.l2]
    rw [if_neg (by omega), w64 (by omega) (by omega)]
  | succ d ih =>
    intro i k h0 h1 h2 h3 hd T hF hnext
    have hk0 : 0 ≤ k := by omega
    obtain ⟨i, rfl⟩ := Int.eq_ofNat_of_zero_le h0
    obtain ⟨k, rfl⟩ := Int.eq_ofNat_of_zero_le hk0
    have hi : i < a.length := by omega
    have hk : k < b.length := by omega
    have hs := hF.1
    have hrow : ((rd_L5 T (i : Int)).length : Int) = b.length + 1 := by
      have : (T.getD i []).length = b.length + 1 := hs.row i (by omega)
      show ((T.getD i []).length : Int) = _
      omega
    have hrow1 : ((rd_L5 T ((i : Int) + 1)).length : Int) = b.length + 1 := by
      have : (T.getD (i + 1) []).length = b.length + 1 := hs.row (i + 1) (by omega)
      show ((T.getD ((i : Int) + 1).toNat []).length : Int) = _
      rw [show ((i : Int) + 1).toNat = i + 1 from by omega]
      omega
    have hlen := hs.len
    have e1 : ent T (i + 1) (k + 1) = L a b (i + 1) (k + 1) := by rw [hF.2 _ _ (by omega) (by omega), if_pos (by omega)]
    have e2 : ent T (i + 1) k = L a b (i + 1) k := by rw [hF.2 _ _ (by omega) (by omega), if_pos (by omega)]
    have e3 : ent T i (k + 1) = L a b i (k + 1) := by rw [hF.2 _ _ (by omega) (by omega), if_pos (by omega)]
    have hstep := L_step a b i k hi hk
    have key : ∀ v, v = L a b i k → Filled a b (i : Int) ((k : Int) - 1) (T.set i ((T.getD i []).set k v)) := by
      intro v hv
      refine ⟨hs.set i k v (by omega), fun p q hp hq => ?_⟩
      rw [ent_set _ _ _ _ _ _ (by omega) (by rw [hs.row i (by omega)]; omega), hF.2 p q hp hq]
      by_cases hpq : p = i ∧ q = k
      · obtain ⟨rfl, rfl⟩ := hpq
        rw [if_pos ⟨rfl, rfl⟩, if_pos (by omega), hv]
      · rw [if_neg hpq]
        by_cases hc : ((i : Int) < p ∨ ((p : Int) = i ∧ (k : Int) < q))
        · rw [if_pos hc, if_pos (by omega)]
        · rw [if_neg hc, if_neg (by omega)]
    have r11 : rd (rd_L5 T ((i : Int) + 1)) ((k : Int) + 1) = L a b (i + 1) (k + 1) := by rw [rd_ent, show ((i : Int) + 1).toNat = i + 1 from by omega, show ((k : Int) + 1).toNat = k + 1 from by omega]; exact e1
    have r10 : rd (rd_L5 T ((i : Int) + 1)) (k : Int) = L a b (i + 1) k := by rw [rd_ent, show ((i : Int) + 1).toNat = i + 1 from by omega, Int.toNat_natCast]; exact e2
    have r01 : rd (rd_L5 T (i : Int)) ((k : Int) + 1) = L a b i (k + 1) := by rw [rd_ent, show ((k : Int) + 1).toNat = k + 1 from by omega, Int.toNat_natCast]; exact e3
    have b11 := L_le a b (i + 1) (k + 1)
    by_cases heq : (a.getD i ByteArray.empty).toList = (b.getD k ByteArray.empty).toList
    · rw [if_pos heq] at hstep
      obtain ⟨R, hR, hD⟩ := ih _ _ (by omega) (by omega) (by omega) (by omega) (by omega) _ (key _ hstep.symm) hnext
      refine ⟨R, Ev.step (f := fun n => diff_table.l2 n a b (T.set i ((T.getD i []).set k (L a b (i + 1) (k + 1) + 1))) (i : Int) ((k : Int) - 1)) (fun n => ?_) hR, hD⟩
      simp only [diff_table.l2]
      rw [if_pos (by omega), if_pos (by omega), if_pos (by omega), if_pos (by omega), if_pos (by omega), if_pos (show (rdOf ByteArray.empty a (i : Int)).toList = (rdOf ByteArray.empty b (k : Int)).toList from heq), if_pos (by omega), w64 (x := (i : Int) + 1) (by omega) (by omega), if_pos (by omega), if_pos (by omega), w64 (x := (k : Int) + 1) (by omega) (by omega), if_pos (by omega), if_pos (by omega), if_pos (by omega), r11, w64 (by omega) (by omega), w64 (x := (k : Int) - 1) (by omega) (by omega)]
      rfl
    · rw [if_neg heq] at hstep
      obtain ⟨R, hR, hD⟩ := ih _ _ (by omega) (by omega) (by omega) (by omega) (by omega) _ (key _ hstep.symm) hnext
      refine ⟨R, Ev.step (f := fun n => diff_table.l2 n a b (T.set i ((T.getD i []).set k (max (L a b (i + 1) k) (L a b i (k + 1))))) (i : Int) ((k : Int) - 1)) (fun n => ?_) hR, hD⟩
      simp only [diff_table.l2]
      rw [if_pos (by omega), if_pos (by omega), if_pos (by omega), if_pos (by omega), if_pos (by omega), if_neg (show ¬ (rdOf ByteArray.empty a (i : Int)).toList = (rdOf ByteArray.empty b (k : Int)).toList from heq), if_pos (by omega), w64 (x := (i : Int) + 1) (by omega) (by omega), if_pos (by omega), if_pos (by omega), if_pos (by omega), w64 (x := (k : Int) + 1) (by omega) (by omega), if_pos (by omega), if_pos (by omega), if_pos (by omega), r10, r01, w64 (x := (k : Int) - 1) (by omega) (by omega)]
      have hmx : mx (L a b (i + 1) k) (L a b i (k + 1)) = max (L a b (i + 1) k) (L a b i (k + 1)) := by unfold mx; omega
      rw [hmx]
      rfl

theorem step_l1 (hn : a.length ≤ 1000) (hm : b.length ≤ 1000) :
    ∀ (d : Nat) (i : Int), -1 ≤ i → i < a.length → (i + 1).toNat = d → ∀ T, Filled a b i ((b.length : Int) - 1) T → ∃ R, Ev (fun n => diff_table.l1 n a b T i) R ∧ Done a b R := by
  intro d
  induction d with
  | zero =>
    intro i h0 h1 hd T hF
    obtain rfl : i = -1 := by omega
    refine ⟨T, Ev.step (f := fun _ => some T) (fun n => ?_) (Ev.now T), hF⟩
    show diff_table.l1 (n + 1) a b T (-1) = _
    simp only [diff_table.l1]
    rw [if_neg (by omega)]
  | succ d ih =>
    intro i h0 h1 hd T hF
    obtain ⟨R, hR, hD⟩ := step_l2 a b hn hm _ i ((b.length : Int) - 1) (by omega) h1 (by omega) (by omega) rfl T hF (fun T' hT' => ih (i - 1) (by omega) (by omega) (by omega) T' hT')
    refine ⟨R, Ev.step (f := fun n => diff_table.l2 n a b T i ((b.length : Int) - 1)) (fun n => ?_) hR, hD⟩
    show diff_table.l1 (n + 1) a b T i = _
    simp only [diff_table.l1]
    rw [if_pos (by omega), w64 (by omega) (by omega)]

/-- rows filled with zeros up to row i -/
theorem step_l0 (hn : a.length ≤ 1000) (hm : b.length ≤ 1000) :
    ∀ (d : Nat) (i : Nat), a.length + 1 - i = d → i ≤ a.length + 1 → ∀ T : List (List Int), T.length = a.length + 1 → (∀ j, j < i → T.getD j [] = List.replicate (b.length + 1) 0) →
    ∃ R, Ev (fun n => diff_table.l0 n a b T ((a.length + 1 : Nat) : Int) (i : Int)) R ∧ Done a b R := by
  intro d
  induction d with
  | zero =>
    intro i hd hi T hl hT
    obtain rfl : i = a.length + 1 := by omega
    have hF : Filled a b ((a.length : Int) - 1) ((b.length : Int) - 1) T := by
      refine ⟨⟨hl, fun j hj => by rw [hT j hj, List.length_replicate]⟩, fun p q hp hq => ?_⟩
      have he : ent T p q = 0 := by
        unfold ent
        rw [hT p (by omega), List.getD_eq_getElem?_getD, List.getElem?_replicate, if_pos (by omega)]; rfl
      rw [he]
      split
      · rename_i hc
        by_cases hpa : a.length ≤ p
        · rw [L_end_left a b p q hpa]
        · rw [L_end_right a b p q (by omega)]
      · rfl
    obtain ⟨R, hR, hD⟩ := step_l1 a b hn hm _ ((a.length : Int) - 1) (by omega) (by omega) rfl T hF
    refine ⟨R, Ev.step (f := fun n => diff_table.l1 n a b T ((a.length : Int) - 1)) (fun n => ?_) hR, hD⟩
    simp only [diff_table.l0]
    rw [if_neg (by omega), w64 (by omega) (by omega)]
  | succ d ih =>
    intro i hd hi T hl hT
    have hrow : (wrap64 ((b.length : Int) + 1)) = ((b.length + 1 : Nat) : Int) := by rw [w64 (by omega) (by omega)]; omega
    obtain ⟨R, hR, hD⟩ := ih (i + 1) (by omega) (by omega) (T.set i (List.replicate (b.length + 1) 0)) (by rw [List.length_set]; exact hl) (fun j hj => by
      rw [getD_set _ _ _ _ _ (by omega)]
      split
      · rfl
      · exact hT j (by omega))
    refine ⟨R, Ev.step (f := fun n => diff_table.l0 n a b (T.set i (List.replicate (b.length + 1) 0)) ((a.length + 1 : Nat) : Int) ((i + 1 : Nat) : Int)) (fun n => ?_) hR, hD⟩
    simp only [diff_table.l0]
    rw [if_pos (by omega), hrow, if_pos (by omega), if_pos (by omega), if_pos (by omega), if_pos (by omega), w64 (by omega) (by omega)]
    rfl
end

/-- What is told of the table: its shape, and each entry. -/
def IsTable (a b : List ByteArray) (T : List (List Int)) : Prop :=
  T.length = a.length + 1 ∧ (∀ i, i ≤ a.length → (T.getD i []).length = b.length + 1) ∧ ∀ i k, i ≤ a.length → k ≤ b.length → ent T i k = lcs (a.drop i) (b.drop k)

theorem table_comes (a b : List ByteArray) (hn : a.length ≤ 1000) (hm : b.length ≤ 1000) : ∃ k T, diff_table.f k a b = some T ∧ IsTable a b T := by
  obtain ⟨T, hT, hD⟩ := step_l0 a b hn hm _ 0 rfl (by omega) (List.replicate (a.length + 1) []) (by rw [List.length_replicate]) (fun j hj => absurd hj (by omega))
  obtain ⟨k, hk⟩ := hT.rounds
  refine ⟨k, T, ?_, hD.1.len, fun i hi => hD.1.row i (by omega), fun i k' hi hk' => ?_⟩
  · have hrow : (wrap64 ((a.length : Int) + 1)) = ((a.length + 1 : Nat) : Int) := by rw [w64 (by omega) (by omega)]; omega
    unfold diff_table.f
    rw [hrow, if_pos (by omega), if_pos (by omega), Option.bind_some, List.length_replicate]
    exact hk
  · rw [hD.2 i k' hi hk', if_pos (by omega)]; rfl
#print axioms table_comes
end Go.Proofs.Ytacglolggaobdab.MTable
