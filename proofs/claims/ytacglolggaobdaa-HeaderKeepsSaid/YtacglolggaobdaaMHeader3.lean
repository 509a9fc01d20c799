/- Plain laws for fields: the references Without, With, Set; what Set and Without keep. -/
import Derived.Test.YtacglolggaobdaaMHeader2
import Derived.Test.YtacglolggaobdaaGheaderWithout
import Derived.Test.YtacglolggaobdaaGheaderSet
import Derived.Test.YtacglolggaobdaaPAllx6
import Derived.Test.YtacglolggaobdaaPAllx6
import Derived.Test.YtacglolggaobdaaPAllx7
namespace Go.Proofs.Ytacglolggaobdaa.MH
open Go.RowKit Go.Proofs.Ytacglolggaobdaa.PAll Go.Proofs.Ytacglolggaobdaa.Hn Go.Proofs.YtacglolggaobdaaW.PrintWords Go.Proofs.YtacglolggaobdaaW.PrintLast Go.Proofs.YtacglolggaobdaaW.PrintMore
set_option linter.unusedVariables false
set_option linter.unusedSimpArgs false

/-! ### Without -/
theorem rwo_l1 (l : List S84) (names : List ByteArray) (acc : List S84) (i : Nat) (hi : i < l.length) (hs : ∀ x ∈ l, x.f0.size ≤ 1000000) (hn : ∀ x ∈ names, x.size ≤ 1000000) (hm : names.length ≤ 1000000) (r : List S84)
    (hT : Ev (fun n => abutmentref10_Without.l0 n l names acc ((i + 1 : Nat) : Int)) r → True) : ∀ (d k : Nat), names.length - k = d → k ≤ names.length → ∀ b : Bool,
    Ev (fun n => if (b || (names.drop k).any fun n => foldB n l[i].f0) = true then abutmentref10_Without.l0 n l names acc (wrap64 ((i : Int) + 1)) else (if acc.length < 4398046511104 then abutmentref10_Without.l0 n l names (acc ++ [l[i]]) (wrap64 ((i : Int) + 1)) else none)) r →
    Ev (fun n => abutmentref10_Without.l1 n l names acc (i : Int) b (k : Int)) r := by
  intro d
  induction d with
  | zero =>
    intro k hd hk b h
    rw [List.drop_eq_nil_of_le (by omega)] at h
    refine Ev.step (fun n => ?_) h
    simp only [abutmentref10_Without.l1]
    rw [if_neg (by omega)]
    cases b with
    | true => simp
    | false => simp [rd_at l i hi]; omega
  | succ d ih =>
    intro k hd hk b h
    have hkl : k < names.length := by omega
    rw [List.drop_eq_getElem_cons hkl, List.any_cons, ← Bool.or_assoc] at h
    cases b with
    | true =>
      refine Ev.step (f := fun n => abutmentref10_Without.l1 n l names acc (i : Int) true ((k + 1 : Nat) : Int)) (fun n => ?_) (ih (k + 1) (by omega) (by omega) true (by simpa using h))
      simp only [abutmentref10_Without.l1]
      rw [if_pos (by omega), if_pos trivial, w64 (by omega) (by omega)]; rfl
    | false =>
      refine Ev.step (f := fun n => (abutmentref10_Is.f n l[i].f0 names[k]).bind fun t => abutmentref10_Without.l1 n l names acc (i : Int) t ((k + 1 : Nat) : Int)) (fun n => ?_) (Ev.bind (is_comes _ _ (hs _ (List.getElem_mem _)) (hn _ (List.getElem_mem _))) ?_)
      · simp only [abutmentref10_Without.l1]
        rw [if_pos (by omega), if_neg (by decide), if_pos (by omega), if_pos (by omega), if_pos (by omega), rd_at l i hi, rd_str names k hkl, w64 (by omega) (by omega)]; rfl
      · rw [foldB_comm]
        exact ih (k + 1) (by omega) (by omega) _ (by simpa using h)
theorem rwo_l0 (l : List S84) (names : List ByteArray) (hl : l.length ≤ 1000000) (hs : ∀ x ∈ l, x.f0.size ≤ 1000000) (hn : ∀ x ∈ names, x.size ≤ 1000000) (hm : names.length ≤ 1000000) : ∀ (d i : Nat), l.length - i = d → i ≤ l.length → ∀ acc : List S84, acc.length ≤ i →
    Ev (fun n => abutmentref10_Without.l0 n l names acc (i : Int)) (acc ++ keepF (isAny names) (l.drop i)) := by
  intro d
  induction d with
  | zero =>
    intro i hd hi acc ha
    rw [List.drop_eq_nil_of_le (by omega)]
    refine Ev.step (f := fun _ => some acc) (fun n => ?_) (by simpa [keepF] using Ev.now acc)
    simp only [abutmentref10_Without.l0]
    rw [if_neg (by omega)]
  | succ d ih =>
    intro i hd hi acc ha
    have hil : i < l.length := by omega
    rw [List.drop_eq_getElem_cons hil]
    refine Ev.step (f := fun n => abutmentref10_Without.l1 n l names acc (i : Int) false ((0 : Nat) : Int)) (fun n => ?_) (rwo_l1 l names acc i hil hs hn hm _ (fun _ => trivial) _ 0 rfl (by omega) false ?_)
    · simp only [abutmentref10_Without.l0]
      rw [if_pos (by omega)]; rfl
    · rw [List.drop_zero, Bool.false_or]
      show Ev (fun n => if isAny names l[i] = true then _ else _) _
      rw [w64 (by omega) (by omega)]
      unfold keepF
      rw [List.filter_cons]
      cases hq : isAny names l[i] with
      | true => simpa [keepF] using ih (i + 1) (by omega) (by omega) acc (by omega)
      | false =>
        have := ih (i + 1) (by omega) (by omega) (acc ++ [l[i]]) (by simp; omega)
        refine Ev.congr (fun n => ?_) (f := fun n => abutmentref10_Without.l0 n l names (acc ++ [l[i]]) ((i + 1 : Nat) : Int)) (by simpa [keepF] using this)
        rw [if_neg (by decide), if_pos (by omega)]; rfl
theorem rwo_comes (l : List S84) (names : List ByteArray) (hl : l.length ≤ 1000000) (hs : ∀ x ∈ l, x.f0.size ≤ 1000000) (hn : ∀ x ∈ names, x.size ≤ 1000000) (hm : names.length ≤ 1000000) : Ev (fun n => abutmentref10_Without.f n l names) (keepF (isAny names) l) := by
  have := rwo_l0 l names hl hs hn hm _ 0 rfl (by omega) [] (by simp)
  unfold abutmentref10_Without.f
  simpa using this

/-! ### With -/
theorem rwith_is (l : List S84) (nm v : ByteArray) (hl : l.length ≤ 1000000) : abutmentref10_With.f l nm v = some (l ++ [⟨nm, v⟩]) := by
  unfold abutmentref10_With.f
  simp only [Option.bind_some, List.nil_append, List.length_nil]
  rw [if_pos (by omega), if_pos (by omega)]

/-! ### Set -/
def setR (nm v : ByteArray) : Bool → List S84 → List S84
  | _, [] => []
  | had, x :: xs => if isN nm x then (if had then setR nm v had xs else ⟨x.f0, v⟩ :: setR nm v true xs) else x :: setR nm v had xs
theorem setR_true (nm v : ByteArray) (l : List S84) : setR nm v true l = keepF (isN nm) l := by
  induction l with
  | nil => rfl
  | cons x xs ih =>
    unfold setR keepF
    rw [List.filter_cons]
    cases hq : isN nm x with
    | true => simpa [keepF] using ih
    | false => simpa [keepF] using ih
theorem setR_none (nm v : ByteArray) (l : List S84) (h : l.findIdx? (isN nm) = none) : (l.any (isN nm)) = false := by
  rw [List.any_eq_false]
  intro x hx
  rw [List.findIdx?_eq_none_iff] at h
  simp [h x hx]
theorem setR_some (nm v : ByteArray) : ∀ (l : List S84) (i : Nat) (h : l.findIdx? (isN nm) = some i), l.any (isN nm) = true ∧ setR nm v false l = l.take i ++ [⟨(l.getD i ⟨nm, v⟩).f0, v⟩] ++ keepF (isN nm) (l.drop (i + 1))
  | [], i, h => by simp at h
  | x :: xs, i, h => by
    rw [List.findIdx?_cons] at h
    cases hq : isN nm x with
    | true =>
      rw [hq] at h
      simp only [if_true, Option.some.injEq] at h
      subst h
      simp [setR, hq, setR_true]
    | false =>
      rw [hq] at h
      simp only [Bool.false_eq_true, if_false, Option.map_eq_some_iff] at h
      obtain ⟨j, hj, rfl⟩ := h
      obtain ⟨h1, h2⟩ := setR_some nm v xs j hj
      simp [setR, hq, h1, h2]
theorem setF_eq (nm v : ByteArray) (l : List S84) : setF l nm v = if l.any (isN nm) = true then setR nm v false l else l ++ [⟨nm, v⟩] := by
  unfold setF
  cases hf : l.findIdx? (isN nm) with
  | none => rw [if_neg (by rw [setR_none nm v l hf]; decide)]
  | some i =>
    obtain ⟨h1, h2⟩ := setR_some nm v l i hf
    rw [if_pos h1, h2]
theorem rset_l0 (l : List S84) (nm v : ByteArray) (hl : l.length ≤ 1000000) (hs : ∀ x ∈ l, x.f0.size ≤ 1000000) (hn : nm.size ≤ 1000000) : ∀ (d i : Nat), l.length - i = d → i ≤ l.length → ∀ (acc : List S84) (had : Bool), acc.length ≤ i →
    Ev (fun n => abutmentref10_Set.l0 n l nm v acc had (i : Int)) (if (had || (l.drop i).any (isN nm)) = true then acc ++ setR nm v had (l.drop i) else l ++ [⟨nm, v⟩]) := by
  intro d
  induction d with
  | zero =>
    intro i hd hi acc had ha
    rw [List.drop_eq_nil_of_le (by omega)]
    refine Ev.step (f := fun _ => some (if had = true then acc else l ++ [⟨nm, v⟩])) (fun n => ?_) (by simpa [setR] using Ev.now _)
    simp only [abutmentref10_Set.l0]
    rw [if_neg (by omega), rwith_is l nm v hl]
    cases had <;> rfl
  | succ d ih =>
    intro i hd hi acc had ha
    have hil : i < l.length := by omega
    rw [List.drop_eq_getElem_cons hil, List.any_cons]
    refine Ev.step (f := fun n => (abutmentref10_Is.f n l[i].f0 nm).bind fun t => if t = true then (if had = true then abutmentref10_Set.l0 n l nm v acc had ((i + 1 : Nat) : Int) else abutmentref10_Set.l0 n l nm v (acc ++ [⟨l[i].f0, v⟩]) true ((i + 1 : Nat) : Int)) else abutmentref10_Set.l0 n l nm v (acc ++ [l[i]]) had ((i + 1 : Nat) : Int)) (fun n => ?_) (Ev.bind (is_comes _ _ (hs _ (List.getElem_mem _)) hn) ?_)
    · simp only [abutmentref10_Set.l0]
      have ha' : acc.length < 4398046511104 := by omega
      rw [if_pos (by omega), if_pos (by omega), rd_at l i hil, w64 (by omega) (by omega)]
      simp only [ha', if_true]; rfl
    · rw [foldB_comm]
      have hq' : foldB nm l[i].f0 = isN nm l[i] := rfl
      rw [hq']
      unfold setR
      cases hq : isN nm l[i] with
      | true =>
        cases had with
        | true => simpa using ih (i + 1) (by omega) (by omega) acc true (by omega)
        | false =>
          have h := ih (i + 1) (by omega) (by omega) (acc ++ [⟨l[i].f0, v⟩]) true (by simp; omega)
          rw [Bool.true_or, if_pos rfl, List.append_assoc, List.singleton_append] at h
          simpa using h
      | false => simpa using ih (i + 1) (by omega) (by omega) (acc ++ [l[i]]) had (by simp; omega)
theorem rset_comes (l : List S84) (nm v : ByteArray) (hl : l.length ≤ 1000000) (hs : ∀ x ∈ l, x.f0.size ≤ 1000000) (hn : nm.size ≤ 1000000) : Ev (fun n => abutmentref10_Set.f n l nm v) (setF l nm v) := by
  have := rset_l0 l nm v hl hs hn _ 0 rfl (by omega) [] false (by simp)
  unfold abutmentref10_Set.f
  rw [setF_eq]
  simpa using this

/-! ### what Set and Without keep -/
theorem allOf_append (a b : List S84) (nm : ByteArray) : allOf (a ++ b) nm = allOf a nm ++ allOf b nm := by unfold allOf; rw [List.filter_append, List.map_append]
theorem allOf_cons (x : S84) (l : List S84) (nm : ByteArray) : allOf (x :: l) nm = if isN nm x = true then x.f1 :: allOf l nm else allOf l nm := by
  unfold allOf
  rw [List.filter_cons]
  cases hq : isN nm x <;> simp [hq]
theorem allOf_keep_same (nm : ByteArray) (l : List S84) : allOf (keepF (isN nm) l) nm = [] := by
  unfold allOf keepF
  rw [List.filter_filter]
  simp
theorem isN_trans {a b : ByteArray} {x : S84} (h : foldB a b = false) (h1 : isN b x = true) : isN a x = false := by
  unfold isN foldB at *
  rw [decide_eq_true_eq] at h1
  rw [decide_eq_false_iff_not] at h ⊢
  rw [← h1]; exact h
theorem allOf_keep_other (nm o : ByteArray) (h : foldB o nm = false) (l : List S84) : allOf (keepF (isN nm) l) o = allOf l o := by
  unfold allOf keepF
  rw [List.filter_filter]
  congr 1
  refine List.filter_congr fun x _ => ?_
  cases hq : isN nm x with
  | true => simp [isN_trans h hq]
  | false => simp
theorem setR_same (nm v : ByteArray) : ∀ l : List S84, l.any (isN nm) = true → allOf (setR nm v false l) nm = [v]
  | [], h => by simp at h
  | x :: xs, h => by
    unfold setR
    cases hq : isN nm x with
    | true =>
      have hq2 : isN nm ⟨x.f0, v⟩ = true := hq
      simp [allOf_cons, hq2, setR_true, allOf_keep_same]
    | false =>
      rw [List.any_cons, hq, Bool.false_or] at h
      simp [allOf_cons, hq, setR_same nm v xs h]
theorem setR_other (nm v o : ByteArray) (ho : foldB o nm = false) : ∀ (l : List S84), allOf (setR nm v false l) o = allOf l o
  | [] => rfl
  | x :: xs => by
    unfold setR
    rw [allOf_cons x xs]
    cases hq : isN nm x with
    | true =>
      have h1 := isN_trans ho hq
      have h2 : isN o ⟨x.f0, v⟩ = false := h1
      simp [allOf_cons, h2, h1, setR_true, allOf_keep_other nm o ho]
    | false => simp only [Bool.false_eq_true, if_false]; rw [allOf_cons, setR_other nm v o ho xs]
theorem isN_self (nm v : ByteArray) : isN nm ⟨nm, v⟩ = true := by simp [isN, foldB]
theorem setF_same (nm v : ByteArray) (l : List S84) : allOf (setF l nm v) nm = [v] := by
  rw [setF_eq]
  by_cases h : l.any (isN nm) = true
  · rw [if_pos h, setR_same nm v l h]
  · rw [if_neg h, allOf_append, allOf_cons, if_pos (isN_self nm v)]
    have : allOf l nm = [] := by
      unfold allOf
      rw [List.map_eq_nil_iff, List.filter_eq_nil_iff]
      intro x hx hh
      exact h (List.any_eq_true.2 ⟨x, hx, hh⟩)
    rw [this]; rfl
theorem setF_other (nm v o : ByteArray) (ho : foldB o nm = false) (l : List S84) : allOf (setF l nm v) o = allOf l o := by
  rw [setF_eq]
  by_cases h : l.any (isN nm) = true
  · rw [if_pos h, setR_other nm v o ho l]
  · have h1 : isN o ⟨nm, v⟩ = false := ho
    rw [if_neg h, allOf_append, allOf_cons, h1]
    simp [allOf]
theorem setR_len (nm v : ByteArray) : ∀ (b : Bool) (l : List S84), (setR nm v b l).length ≤ l.length
  | _, [] => by simp [setR]
  | b, x :: xs => by
    have h1 := setR_len nm v b xs
    have h2 := setR_len nm v true xs
    unfold setR
    split
    · split <;> simp <;> omega
    · simp; omega
theorem setF_len (nm v : ByteArray) (l : List S84) : (setF l nm v).length ≤ l.length + 1 := by
  rw [setF_eq]
  have := setR_len nm v false l
  split
  · omega
  · simp
theorem setR_names (nm v : ByteArray) : ∀ (b : Bool) (l : List S84) (y : S84), y ∈ setR nm v b l → ∃ x ∈ l, y.f0 = x.f0
  | _, [], y, h => by simp [setR] at h
  | b, x :: xs, y, h => by
    unfold setR at h
    split at h
    · split at h
      · obtain ⟨z, hz, e⟩ := setR_names nm v b xs y h
        exact ⟨z, List.mem_cons_of_mem _ hz, e⟩
      · rcases List.mem_cons.1 h with rfl | h
        · exact ⟨x, List.mem_cons_self .., rfl⟩
        · obtain ⟨z, hz, e⟩ := setR_names nm v true xs y h
          exact ⟨z, List.mem_cons_of_mem _ hz, e⟩
    · rcases List.mem_cons.1 h with rfl | h
      · exact ⟨y, List.mem_cons_self .., rfl⟩
      · obtain ⟨z, hz, e⟩ := setR_names nm v b xs y h
        exact ⟨z, List.mem_cons_of_mem _ hz, e⟩
theorem setF_fit {l : List S84} (nm v : ByteArray) (hl : fewF l) (hn : nm.size ≤ 100) : fit (setF l nm v) := by
  refine ⟨by have := setF_len nm v l; have := hl.1; omega, fun y hy => ?_⟩
  rw [setF_eq] at hy
  split at hy
  · obtain ⟨x, hx, e⟩ := setR_names nm v false l y hy
    rw [e]
    have := (hl.2 x hx).1
    omega
  · rcases List.mem_append.1 hy with h | h
    · have := (hl.2 y h).1; omega
    · obtain rfl := List.mem_singleton.1 h
      show nm.size ≤ _; omega
theorem keepF_fit {l : List S84} (p : S84 → Bool) (hl : fit l) : fit (keepF p l) := fit_sub hl List.filter_sublist
end Go.Proofs.Ytacglolggaobdaa.MH
