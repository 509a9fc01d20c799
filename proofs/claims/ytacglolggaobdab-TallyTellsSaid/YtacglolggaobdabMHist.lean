/- Plain laws about a list of names, counted (hist). The order of the rows: hist is the one list that is in it. -/
import Derived.Test.YtacglolggaobdabTlHist
section
namespace Go.Proofs.Ytacglolggaobdab.MT
open Go.RowKit Go.Proofs.Ytacglolggaobdab.PAll Go.Proofs.Ytacglolggaobdab.TL Go.Proofs.Ytacglolggaobdab.St Go.Sort
set_option linter.unusedVariables false
set_option linter.unusedSimpArgs false

theorem ins_perm {α : Type} (lt : α → α → Bool) (x : α) : ∀ l : List α, (ins lt x l).Perm (x :: l)
  | [] => List.Perm.refl _
  | y :: ys => by
    unfold ins
    split
    · exact ((ins_perm lt x ys).cons y).trans (List.Perm.swap x y ys)
    · exact List.Perm.refl _
theorem isort_perm {α : Type} (lt : α → α → Bool) : ∀ l : List α, (isort lt l).Perm l
  | [] => List.Perm.refl _
  | x :: xs => (ins_perm lt x _).trans ((isort_perm lt xs).cons x)

/-- the rows ahead of the sort -/
def flatR (ks : List (List UInt8)) : List S49 := (skeys ks).map (fun k => toR (k, cntI ks k))
theorem rows_flat (ks : List (List UInt8)) : rowsT (cntI ks) (skeys ks) = flatR ks := by
  unfold rowsT rowsOf flatR
  rw [List.filter_eq_self.2 fun k hk => ?_, List.map_map]
  · rfl
  · have := ((skeys_keys ks).mem k).1 hk
    have := List.count_pos_iff.2 this
    exact decide_eq_true (by unfold cntI; omega)
theorem hist_perm (ks : List (List UInt8)) : (hist ks).Perm (flatR ks) := by
  unfold hist
  rw [rows_flat]; exact isort_perm _ _
theorem skeys_nodup (ks : List (List UInt8)) : (skeys ks).Nodup :=
  List.Pairwise.imp (fun {x y} (hxy : x < y) e => by subst e; exact List.lt_irrefl _ hxy) (skeys_keys ks).up
theorem hist_mem {ks : List (List UInt8)} {r : S49} (h : r ∈ hist ks) : r.f0.data.toList ∈ ks ∧ r.f1 = (ks.count r.f0.data.toList : Int) := by
  have := (hist_perm ks).mem_iff.1 h
  unfold flatR at this
  obtain ⟨k, hk, rfl⟩ := List.mem_map.1 this
  exact ⟨((skeys_keys ks).mem k).1 hk, rfl⟩
theorem hist_pos {ks : List (List UInt8)} {r : S49} (h : r ∈ hist ks) : 1 ≤ r.f1 := by
  obtain ⟨h1, h2⟩ := hist_mem h
  have := List.count_pos_iff.2 h1
  omega

/-- the counts of the rows of a name -/
def sumN (nm : ByteArray) : List S49 → Int
  | [] => 0
  | x :: xs => (if x.f0.toList = nm.toList then x.f1 else 0) + sumN nm xs
def sumA : List S49 → Int
  | [] => 0
  | x :: xs => x.f1 + sumA xs
theorem sumN_app (nm : ByteArray) : ∀ a b, sumN nm (a ++ b) = sumN nm a + sumN nm b
  | [], b => by simp [sumN]
  | x :: xs, b => by rw [List.cons_append, sumN, sumN, sumN_app nm xs b]; omega
theorem sumN_perm (nm : ByteArray) {a b : List S49} (h : a.Perm b) : sumN nm a = sumN nm b := by
  induction h with
  | nil => rfl
  | cons x _ ih => simp only [sumN, ih]
  | swap x y l => simp only [sumN]; omega
  | trans _ _ h1 h2 => exact h1.trans h2
theorem sumA_perm {a b : List S49} (h : a.Perm b) : sumA a = sumA b := by
  induction h with
  | nil => rfl
  | cons x _ ih => simp only [sumA, ih]
  | swap x y l => simp only [sumA]; omega
  | trans _ _ h1 h2 => exact h1.trans h2
theorem sumN_none (nm : ByteArray) (c : List UInt8 → Int) : ∀ S : List (List UInt8), nm.data.toList ∉ S → sumN nm (S.map fun k => toR (k, c k)) = 0
  | [], _ => rfl
  | k :: S, h => by
    rw [List.map_cons, sumN, sumN_none nm c S (fun q => h (List.mem_cons_of_mem _ q)), if_neg]
    · rfl
    · intro e
      rw [ByteArray.toList_eq, ByteArray.toList_eq] at e
      exact h (by rw [← e]; exact List.mem_cons_self ..)
theorem sumN_map (nm : ByteArray) (c : List UInt8 → Int) : ∀ S : List (List UInt8), S.Nodup → nm.data.toList ∈ S → sumN nm (S.map fun k => toR (k, c k)) = c nm.data.toList
  | [], _, h => by simp at h
  | k :: S, hn, h => by
    obtain ⟨h1, h2⟩ := List.nodup_cons.1 hn
    rw [List.map_cons, sumN]
    by_cases e : k = nm.data.toList
    · rw [if_pos (by rw [ByteArray.toList_eq, ByteArray.toList_eq, ← e]; rfl), sumN_none nm c S (by rw [← e]; exact h1), ← e, Int.add_zero]; rfl
    · rw [if_neg (fun q => e (by rw [ByteArray.toList_eq, ByteArray.toList_eq] at q; exact q)), sumN_map nm c S h2 ((List.mem_cons.1 h).resolve_left (fun q => e q.symm))]
      omega
theorem sumN_hist (nm : ByteArray) (ks : List (List UInt8)) : sumN nm (hist ks) = (ks.count nm.data.toList : Int) := by
  rw [sumN_perm nm (hist_perm ks)]
  unfold flatR
  by_cases h : nm.data.toList ∈ skeys ks
  · rw [sumN_map nm _ _ (skeys_nodup ks) h]; rfl
  · rw [sumN_none nm _ _ h, List.count_eq_zero.2 (fun q => h (((skeys_keys ks).mem _).2 q))]; rfl
/-- counts over names that are all there: together as many as are counted -/
def sumC (S ks : List (List UInt8)) : Int := match S with
  | [] => 0
  | k :: S => (ks.count k : Int) + sumC S ks
theorem sumC_nil : ∀ S, sumC S [] = 0
  | [] => rfl
  | k :: S => by unfold sumC; rw [sumC_nil S]; simp
theorem sumC_cons_none (x : List UInt8) (xs : List (List UInt8)) : ∀ S : List (List UInt8), x ∉ S → sumC S (x :: xs) = sumC S xs
  | [], _ => rfl
  | k :: S, h => by
    unfold sumC
    rw [sumC_cons_none x xs S (fun q => h (List.mem_cons_of_mem _ q)), List.count_cons]
    have : ¬ (x == k) = true := by simpa using fun e : x = k => h (by rw [e]; exact List.mem_cons_self ..)
    simp [this]
theorem sumC_cons (x : List UInt8) (xs : List (List UInt8)) : ∀ S : List (List UInt8), S.Nodup → x ∈ S → sumC S (x :: xs) = sumC S xs + 1
  | [], _, h => by simp at h
  | k :: S, hn, h => by
    obtain ⟨h1, h2⟩ := List.nodup_cons.1 hn
    unfold sumC
    rw [List.count_cons]
    by_cases e : x = k
    · subst e
      rw [sumC_cons_none x xs S h1]; simp; omega
    · rw [sumC_cons x xs S h2 ((List.mem_cons.1 h).resolve_left e)]
      have : ¬ (x == k) = true := by simpa using e
      simp [this]; omega
theorem sumC_all (S : List (List UInt8)) (hn : S.Nodup) : ∀ ks : List (List UInt8), (∀ x ∈ ks, x ∈ S) → sumC S ks = (ks.length : Int)
  | [], _ => sumC_nil S
  | x :: xs, h => by
    rw [sumC_cons x xs S hn (h x (List.mem_cons_self ..)), sumC_all S hn xs (fun y hy => h y (List.mem_cons_of_mem _ hy)), List.length_cons]
    omega
theorem sumA_flat (ks : List (List UInt8)) : ∀ S : List (List UInt8), sumA (S.map fun k => toR (k, cntI ks k)) = sumC S ks
  | [] => rfl
  | k :: S => by
    rw [List.map_cons, sumA, sumA_flat ks S]; rfl
theorem sumA_hist (ks : List (List UInt8)) : sumA (hist ks) = (ks.length : Int) := by
  rw [sumA_perm (hist_perm ks)]
  unfold flatR
  rw [sumA_flat, sumC_all _ (skeys_nodup ks) ks (fun x hx => ((skeys_keys ks).mem x).2 hx)]
theorem len_sumA : ∀ L : List S49, (∀ r ∈ L, 1 ≤ r.f1) → (L.length : Int) ≤ sumA L
  | [], _ => Int.le_refl _
  | x :: xs, h => by
    have h1 := h x (List.mem_cons_self ..)
    have h2 := len_sumA xs (fun r hr => h r (List.mem_cons_of_mem _ hr))
    rw [sumA, List.length_cons]; omega
theorem hist_len (ks : List (List UInt8)) : (hist ks).length ≤ ks.length := by
  have h1 := len_sumA (hist ks) (fun r hr => hist_pos hr)
  rw [sumA_hist] at h1
  omega
end Go.Proofs.Ytacglolggaobdab.MT
end

section
namespace Go.Proofs.Ytacglolggaobdab.MT
open Go.RowKit Go.Proofs.Ytacglolggaobdab.PAll Go.Proofs.Ytacglolggaobdab.TL Go.Proofs.Ytacglolggaobdab.St Go.Sort
set_option linter.unusedVariables false
set_option linter.unusedSimpArgs false

/-- the most ahead, of one number by name -/
def Rr (a b : S49) : Prop := b.f1 < a.f1 ∨ (a.f1 = b.f1 ∧ a.f0.data.toList < b.f0.data.toList)
theorem Rr_irrefl (a : S49) : ¬ Rr a a := fun h => by
  rcases h with h | ⟨_, h⟩
  · omega
  · exact List.lt_irrefl _ h
theorem Rr_asymm {a b : S49} (h : Rr a b) (k : Rr b a) : False := by
  rcases h with h | ⟨h1, h2⟩ <;> rcases k with k | ⟨k1, k2⟩
  · omega
  · omega
  · omega
  · exact List.lt_irrefl _ (List.lt_trans h2 k2)
theorem ord_one {a b : List S49} (ha : a.Pairwise Rr) (hb : b.Pairwise Rr) (h : ∀ x, x ∈ a ↔ x ∈ b) : a = b := by
  have ne : ∀ {x y : S49}, Rr x y → x ≠ y := fun {x y} hxy e => by subst e; exact Rr_irrefl _ hxy
  have na : a.Nodup := List.Pairwise.imp (fun {x y} (hxy : Rr x y) => ne hxy) ha
  have nb : b.Nodup := List.Pairwise.imp (fun {x y} (hxy : Rr x y) => ne hxy) hb
  exact List.Perm.eq_of_pairwise (le := Rr) (fun x y _ _ h1 h2 => (Rr_asymm h1 h2).elim) ha hb ((List.perm_ext_iff_of_nodup na nb).2 h)
theorem eqvR (p x : S49) : eqv (ltOf cfR) p x = true ↔ p.f1 = x.f1 := by
  unfold eqv
  rw [ltR, ltR]
  simp
  omega
theorem pair_of (Q : S49 → S49 → Prop) : ∀ L : List S49, (∀ p, (L.filter (eqv (ltOf cfR) p)).Pairwise Q) → L.Pairwise (fun a b => a.f1 = b.f1 → Q a b)
  | [], _ => List.Pairwise.nil
  | x :: xs, h => by
    refine List.pairwise_cons.2 ⟨fun b hb e => ?_, pair_of Q xs (fun p => ?_)⟩
    · have := h x
      rw [List.filter_cons_of_pos ((eqvR x x).2 rfl)] at this
      exact (List.pairwise_cons.1 this).1 b (List.mem_filter.2 ⟨hb, (eqvR x b).2 e⟩)
    · have := h p
      by_cases e : eqv (ltOf cfR) p x = true
      · rw [List.filter_cons_of_pos e] at this
        exact (List.pairwise_cons.1 this).2
      · rwa [List.filter_cons_of_neg e] at this
theorem hist_up (ks : List (List UInt8)) : (hist ks).Pairwise Rr := by
  have h1 : Sorted (ltOf cfR) (hist ks) := isort_sorted swoR _
  have hf : (flatR ks).Pairwise (fun a b => a.f0.data.toList < b.f0.data.toList) := by
    unfold flatR
    exact List.pairwise_map.2 ((skeys_keys ks).up.imp (fun {a b} h => h))
  have h2 : (hist ks).Pairwise (fun a b => a.f1 = b.f1 → a.f0.data.toList < b.f0.data.toList) := by
    refine pair_of _ _ (fun p => ?_)
    unfold hist
    rw [isort_filter swoR, rows_flat]
    exact hf.filter _
  refine List.Pairwise.imp₂ (S := fun a b => a.f1 = b.f1 → a.f0.data.toList < b.f0.data.toList) (fun a b h k => ?_) h1 h2
  rw [ltR] at h
  have h' : ¬ a.f1 < b.f1 := of_decide_eq_false h
  by_cases e : a.f1 = b.f1
  · exact Or.inr ⟨e, k e⟩
  · exact Or.inl (by omega)
theorem hist_iff (ks : List (List UInt8)) (r : S49) : r ∈ hist ks ↔ ∃ k ∈ ks, r = toR (k, cntI ks k) := by
  rw [(hist_perm ks).mem_iff]
  unfold flatR
  rw [List.mem_map]
  exact ⟨fun ⟨k, hk, e⟩ => ⟨k, ((skeys_keys ks).mem k).1 hk, e.symm⟩, fun ⟨k, hk, e⟩ => ⟨k, ((skeys_keys ks).mem k).2 hk, e.symm⟩⟩
/-- hist's first row is the best; behind it stands what is left -/
theorem hist_cons (ks : List (List UInt8)) (b : List UInt8) (hb : b ∈ ks) (hbest : ∀ k ∈ ks, k ≠ b → Rr (toR (b, cntI ks b)) (toR (k, cntI ks k))) :
    hist ks = toR (b, cntI ks b) :: hist (ks.filter (fun k => decide (k ≠ b))) := by
  have hc : ∀ k, k ≠ b → cntI (ks.filter (fun k => decide (k ≠ b))) k = cntI ks k := fun k hk => by
    unfold cntI
    rw [List.count_filter (by simpa using hk)]
  have hmem : ∀ x, x ∈ hist ks ↔ x ∈ toR (b, cntI ks b) :: hist (ks.filter (fun k => decide (k ≠ b))) := fun x => by
    rw [hist_iff, List.mem_cons, hist_iff]
    constructor
    · rintro ⟨k, hk, rfl⟩
      by_cases e : k = b
      · exact Or.inl (by rw [e])
      · exact Or.inr ⟨k, List.mem_filter.2 ⟨hk, decide_eq_true e⟩, by rw [hc k e]⟩
    · rintro (rfl | ⟨k, hk, rfl⟩)
      · exact ⟨b, hb, rfl⟩
      · obtain ⟨h1, h2⟩ := List.mem_filter.1 hk
        exact ⟨k, h1, by rw [hc k (of_decide_eq_true h2)]⟩
  refine ord_one (hist_up ks) (List.pairwise_cons.2 ⟨fun x hx => ?_, hist_up _⟩) hmem
  obtain ⟨k, hk, rfl⟩ := (hist_iff _ x).1 hx
  obtain ⟨h1, h2⟩ := List.mem_filter.1 hk
  have h3 : k ≠ b := of_decide_eq_true h2
  rw [hc k h3]
  exact hbest k h1 h3
end Go.Proofs.Ytacglolggaobdab.MT
end
