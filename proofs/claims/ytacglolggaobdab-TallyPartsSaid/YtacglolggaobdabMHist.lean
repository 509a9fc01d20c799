/- Plain laws about a list of names, counted (hist). -/
import Derived.Test.YtacglolggaobdabTlHist
namespace Go.Proofs.Ytacglolggaobdab.MT
open Go.RowKit Go.Proofs.Ytacglolggaobdab.PAll Go.Proofs.Ytacglolggaobdab.TL Go.Proofs.Ytacglolggaobdab.St Go.Sort
set_option linter.unusedVariables false
set_option linter.unusedSimpArgs false

theorem ins_perm {α : Type} (lt : α → α → Bool) (x : α) : ∀ l : List α, (ins lt x l).Perm (x :: l)
  | [] => List.Perm.refl _
  | y :: ys => by
    unfold ins
    split
    · exact ((ins_perm lt x ys).cons y).trans (List.Perm.swap x y ys)
    · exact List.Perm.refl _
theorem isort_perm {α : Type} (lt : α → α → Bool) : ∀ l : List α, (isort lt l).Perm l
  | [] => List.Perm.refl _
  | x :: xs => (ins_perm lt x _).trans ((isort_perm lt xs).cons x)

/-- the rows ahead of the sort -/
def flatR (ks : List (List UInt8)) : List S49 := (skeys ks).map (fun k => toR (k, cntI ks k))
theorem rows_flat (ks : List (List UInt8)) : rowsT (cntI ks) (skeys ks) = flatR ks := by
  unfold rowsT rowsOf flatR
  rw [List.filter_eq_self.2 fun k hk => ?_, List.map_map]
  · rfl
  · have := ((skeys_keys ks).mem k).1 hk
    have := List.count_pos_iff.2 this
    exact decide_eq_true (by unfold cntI; omega)
theorem hist_perm (ks : List (List UInt8)) : (hist ks).Perm (flatR ks) := by
  unfold hist
  rw [rows_flat]; exact isort_perm _ _
theorem skeys_nodup (ks : List (List UInt8)) : (skeys ks).Nodup :=
  List.Pairwise.imp (fun {x y} (hxy : x < y) e => by subst e; exact List.lt_irrefl _ hxy) (skeys_keys ks).up
theorem hist_mem {ks : List (List UInt8)} {r : S49} (h : r ∈ hist ks) : r.f0.data.toList ∈ ks ∧ r.f1 = (ks.count r.f0.data.toList : Int) := by
  have := (hist_perm ks).mem_iff.1 h
  unfold flatR at this
  obtain ⟨k, hk, rfl⟩ := List.mem_map.1 this
  exact ⟨((skeys_keys ks).mem k).1 hk, rfl⟩
theorem hist_pos {ks : List (List UInt8)} {r : S49} (h : r ∈ hist ks) : 1 ≤ r.f1 := by
  obtain ⟨h1, h2⟩ := hist_mem h
  have := List.count_pos_iff.2 h1
  omega

/-- the counts of the rows of a name -/
def sumN (nm : ByteArray) : List S49 → Int
  | [] => 0
  | x :: xs => (if x.f0.toList = nm.toList then x.f1 else 0) + sumN nm xs
def sumA : List S49 → Int
  | [] => 0
  | x :: xs => x.f1 + sumA xs
theorem sumN_app (nm : ByteArray) : ∀ a b, sumN nm (a ++ b) = sumN nm a + sumN nm b
  | [], b => by simp [sumN]
  | x :: xs, b => by rw [List.cons_append, sumN, sumN, sumN_app nm xs b]; omega
theorem sumN_perm (nm : ByteArray) {a b : List S49} (h : a.Perm b) : sumN nm a = sumN nm b := by
  induction h with
  | nil => rfl
  | cons x _ ih => simp only [sumN, ih]
  | swap x y l => simp only [sumN]; omega
  | trans _ _ h1 h2 => exact h1.trans h2
theorem sumA_perm {a b : List S49} (h : a.Perm b) : sumA a = sumA b := by
  induction h with
  | nil => rfl
  | cons x _ ih => simp only [sumA, ih]
  | swap x y l => simp only [sumA]; omega
  | trans _ _ h1 h2 => exact h1.trans h2
theorem sumN_none (nm : ByteArray) (c : List UInt8 → Int) : ∀ S : List (List UInt8), nm.data.toList ∉ S → sumN nm (S.map fun k => toR (k, c k)) = 0
  | [], _ => rfl
  | k :: S, h => by
    rw [List.map_cons, sumN, sumN_none nm c S (fun q => h (List.mem_cons_of_mem _ q)), if_neg]
    · rfl
    · intro e
      rw [ByteArray.toList_eq, ByteArray.toList_eq] at e
      exact h (by rw [← e]; exact List.mem_cons_self ..)
theorem sumN_map (nm : ByteArray) (c : List UInt8 → Int) : ∀ S : List (List UInt8), S.Nodup → nm.data.toList ∈ S → sumN nm (S.map fun k => toR (k, c k)) = c nm.data.toList
  | [], _, h => by simp at h
  | k :: S, hn, h => by
    obtain ⟨h1, h2⟩ := List.nodup_cons.1 hn
    rw [List.map_cons, sumN]
    by_cases e : k = nm.data.toList
    · rw [if_pos (by rw [ByteArray.toList_eq, ByteArray.toList_eq, ← e]; rfl), sumN_none nm c S (by rw [← e]; exact h1), ← e, Int.add_zero]; rfl
    · rw [if_neg (fun q => e (by rw [ByteArray.toList_eq, ByteArray.toList_eq] at q; exact q)), sumN_map nm c S h2 ((List.mem_cons.1 h).resolve_left (fun q => e q.symm))]
      omega
theorem sumN_hist (nm : ByteArray) (ks : List (List UInt8)) : sumN nm (hist ks) = (ks.count nm.data.toList : Int) := by
  rw [sumN_perm nm (hist_perm ks)]
  unfold flatR
  by_cases h : nm.data.toList ∈ skeys ks
  · rw [sumN_map nm _ _ (skeys_nodup ks) h]; rfl
  · rw [sumN_none nm _ _ h, List.count_eq_zero.2 (fun q => h (((skeys_keys ks).mem _).2 q))]; rfl
/-- counts over names that are all there: together as many as are counted -/
def sumC (S ks : List (List UInt8)) : Int := match S with
  | [] => 0
  | k :: S => (ks.count k : Int) + sumC S ks
theorem sumC_nil : ∀ S, sumC S [] = 0
  | [] => rfl
  | k :: S => by unfold sumC; rw [sumC_nil S]; simp
theorem sumC_cons_none (x : List UInt8) (xs : List (List UInt8)) : ∀ S : List (List UInt8), x ∉ S → sumC S (x :: xs) = sumC S xs
  | [], _ => rfl
  | k :: S, h => by
    unfold sumC
    rw [sumC_cons_none x xs S (fun q => h (List.mem_cons_of_mem _ q)), List.count_cons]
    have : ¬ (x == k) = true := by simpa using fun e : x = k => h (by rw [e]; exact List.mem_cons_self ..)
    simp [this]
theorem sumC_cons (x : List UInt8) (xs : List (List UInt8)) : ∀ S : List (List UInt8), S.Nodup → x ∈ S → sumC S (x :: xs) = sumC S xs + 1
  | [], _, h => by simp at h
  | k :: S, hn, h => by
    obtain ⟨h1, h2⟩ := List.nodup_cons.1 hn
    unfold sumC
    rw [List.count_cons]
    by_cases e : x = k
    · subst e
      rw [sumC_cons_none x xs S h1]; simp; omega
    · rw [sumC_cons x xs S h2 ((List.mem_cons.1 h).resolve_left e)]
      have : ¬ (x == k) = true := by simpa using e
      simp [this]; omega
theorem sumC_all (S : List (List UInt8)) (hn : S.Nodup) : ∀ ks : List (List UInt8), (∀ x ∈ ks, x ∈ S) → sumC S ks = (ks.length : Int)
  | [], _ => sumC_nil S
  | x :: xs, h => by
    rw [sumC_cons x xs S hn (h x (List.mem_cons_self ..)), sumC_all S hn xs (fun y hy => h y (List.mem_cons_of_mem _ hy)), List.length_cons]
    omega
theorem sumA_flat (ks : List (List UInt8)) : ∀ S : List (List UInt8), sumA (S.map fun k => toR (k, cntI ks k)) = sumC S ks
  | [] => rfl
  | k :: S => by
    rw [List.map_cons, sumA, sumA_flat ks S]; rfl
theorem sumA_hist (ks : List (List UInt8)) : sumA (hist ks) = (ks.length : Int) := by
  rw [sumA_perm (hist_perm ks)]
  unfold flatR
  rw [sumA_flat, sumC_all _ (skeys_nodup ks) ks (fun x hx => ((skeys_keys ks).mem x).2 hx)]
theorem len_sumA : ∀ L : List S49, (∀ r ∈ L, 1 ≤ r.f1) → (L.length : Int) ≤ sumA L
  | [], _ => Int.le_refl _
  | x :: xs, h => by
    have h1 := h x (List.mem_cons_self ..)
    have h2 := len_sumA xs (fun r hr => h r (List.mem_cons_of_mem _ hr))
    rw [sumA, List.length_cons]; omega
theorem hist_len (ks : List (List UInt8)) : (hist ks).length ≤ ks.length := by
  have h1 := len_sumA (hist ks) (fun r hr => hist_pos hr)
  rw [sumA_hist] at h1
  omega
end Go.Proofs.Ytacglolggaobdab.MT
