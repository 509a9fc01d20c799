/- Plain laws: canonical fields stay as they are; two lists of fields whose values of each name are alike have the same canonical fields, in one stable order. -/
import Derived.Test.YtacglolggaobdabMCan
namespace Go.Proofs.Ytacglolggaobdab.MS
open Go.RowKit Go.Sort Go.Proofs.Ytacglolggaobdab.PAll Go.Proofs.Ytacglolggaobdab.Hn Go.Proofs.Ytacglolggaobdab.CF Go.Proofs.Ytacglolggaobdab.St Go.Proofs.Ytacglolggaobdab.MC Go.Proofs.YtacglolggaobdabW.PrintWords Go.Proofs.YtacglolggaobdabW.PrintLast Go.Proofs.YtacglolggaobdabW.PrintMore
set_option linter.unusedVariables false
set_option linter.unusedSimpArgs false

/-! ### names -/
theorem allOf_low {a b : ByteArray} (l : List S83) (h : lowL a = lowL b) : allOf l a = allOf l b := by
  unfold allOf
  congr 1
  refine List.filter_congr fun z _ => ?_
  unfold isN foldB
  rw [h]
theorem single_low {a b : ByteArray} (h : lowL a = lowL b) : singleB a = singleB b := by
  unfold singleB
  congr 1
  funext n
  unfold foldB
  rw [h]
theorem name_iff {a b : ByteArray} (ha : nameOf a = a) (hb : nameOf b = b) : lowL a = lowL b ↔ a = b := ⟨fun h => by rw [← ha, ← hb]; exact nameOf_low h, fun h => by rw [h]⟩

/-- what stands for one name -/
def grp (nm : ByteArray) (vals : List ByteArray) : List S83 := if singleB nm = true then vals.map (fun v => ⟨nm, trimB v⟩) else [⟨nm, trimB ⟨(joinL vals).toArray⟩⟩]
def firsts : List (List UInt8) → List S83 → List ByteArray
  | _, [] => []
  | seen, x :: xs => if lowL x.f0 ∈ seen then firsts seen xs else nameOf x.f0 :: firsts (lowL x.f0 :: seen) xs

theorem emit_grp (l : List S83) (f : S83) : emit l f = grp (nameOf f.f0) (allOf l (nameOf f.f0)) := by
  unfold emit grp
  rw [single_low (low_name f.f0), allOf_low l (low_name f.f0)]
theorem firsts_congr : ∀ (l : List S83) {s t : List (List UInt8)}, (∀ a, a ∈ s ↔ a ∈ t) → firsts s l = firsts t l
  | [], _, _, _ => rfl
  | x :: xs, s, t, h => by
    simp only [firsts]
    by_cases hx : lowL x.f0 ∈ s
    · rw [if_pos hx, if_pos ((h _).1 hx), firsts_congr xs h]
    · rw [if_neg hx, if_neg (fun h' => hx ((h _).2 h')), firsts_congr xs (s := lowL x.f0 :: s) (t := lowL x.f0 :: t) (fun a => by simp [h a])]
theorem had_mem (pre : List S83) (f : S83) : had pre f = true ↔ lowL f.f0 ∈ pre.map fun g => lowL g.f0 := by
  unfold had
  rw [List.any_eq_true]
  constructor
  · rintro ⟨g, hg, h⟩
    exact List.mem_map.2 ⟨g, hg, of_decide_eq_true h⟩
  · intro h
    obtain ⟨g, hg, h⟩ := List.mem_map.1 h
    exact ⟨g, hg, decide_eq_true h⟩
theorem canon_go (l : List S83) : ∀ (d i : Nat), l.length - i = d → i ≤ l.length → cfTo l i ++ (firsts ((l.take i).map fun g => lowL g.f0) (l.drop i)).flatMap (fun nm => grp nm (allOf l nm)) = canonF l
  | 0, i, hd, hi => by
    obtain rfl : i = l.length := by omega
    rw [List.drop_eq_nil_of_le (Nat.le_refl _)]
    simp [firsts, canonF]
  | d + 1, i, hd, hi => by
    have hil : i < l.length := by omega
    rw [← canon_go l d (i + 1) (by omega) (by omega), cfTo_succ l i hil, List.drop_eq_getElem_cons hil]
    simp only [firsts]
    by_cases h : had (l.take i) l[i] = true
    · have hm := (had_mem _ _).1 h
      rw [if_pos hm, if_pos h, List.append_nil]
      congr 2
      refine firsts_congr _ fun a => ?_
      rw [List.take_succ_eq_append_getElem hil, List.map_append, List.mem_append]
      constructor
      · exact Or.inl
      · rintro (ha | ha)
        · exact ha
        · obtain rfl : a = lowL l[i].f0 := by simpa using ha
          exact hm
    · have hm : ¬ _ := fun h' => h ((had_mem _ _).2 h')
      rw [if_neg hm, if_neg h, List.flatMap_cons, ← List.append_assoc, emit_grp]
      congr 2
      refine firsts_congr _ fun a => ?_
      rw [List.take_succ_eq_append_getElem hil, List.map_append, List.mem_append]
      simp [or_comm]
theorem canon_firsts (l : List S83) : canonF l = (firsts [] l).flatMap fun nm => grp nm (allOf l nm) := (canon_go l _ 0 rfl (Nat.zero_le _)).symm.trans (by simp [cfTo])

theorem firsts_mem : ∀ (l : List S83) (seen : List (List UInt8)) (nm : ByteArray), nm ∈ firsts seen l → nameOf nm = nm ∧ lowL nm ∉ seen ∧ ∃ x ∈ l, lowL x.f0 = lowL nm
  | [], _, _, h => by simp [firsts] at h
  | x :: xs, seen, nm, h => by
    simp only [firsts] at h
    by_cases hx : lowL x.f0 ∈ seen
    · rw [if_pos hx] at h
      obtain ⟨h1, h2, y, hy, e⟩ := firsts_mem xs seen nm h
      exact ⟨h1, h2, y, by simp [hy], e⟩
    · rw [if_neg hx] at h
      rcases List.mem_cons.1 h with rfl | h
      · exact ⟨name_name _, by rw [low_name]; exact hx, x, by simp, (low_name _).symm⟩
      · obtain ⟨h1, h2, y, hy, e⟩ := firsts_mem xs _ nm h
        exact ⟨h1, fun h' => h2 (by simp [h']), y, by simp [hy], e⟩
theorem firsts_apart : ∀ (l : List S83) (seen : List (List UInt8)), (firsts seen l).Pairwise fun a b => lowL a ≠ lowL b
  | [], _ => List.Pairwise.nil
  | x :: xs, seen => by
    simp only [firsts]
    by_cases hx : lowL x.f0 ∈ seen
    · rw [if_pos hx]; exact firsts_apart xs seen
    · rw [if_neg hx]
      refine List.pairwise_cons.2 ⟨fun b hb e => ?_, firsts_apart xs _⟩
      have := (firsts_mem xs _ b hb).2.1
      rw [low_name] at e
      exact this (by simp [e])
theorem firsts_all : ∀ (l : List S83) (seen : List (List UInt8)) (x : S83), x ∈ l → lowL x.f0 ∉ seen → nameOf x.f0 ∈ firsts seen l
  | [], _, _, h, _ => by simp at h
  | y :: ys, seen, x, h, hn => by
    simp only [firsts]
    by_cases hy : lowL y.f0 ∈ seen
    · rw [if_pos hy]
      rcases List.mem_cons.1 h with rfl | h
      · exact absurd hy hn
      · exact firsts_all ys seen x h hn
    · rw [if_neg hy]
      by_cases e : lowL x.f0 = lowL y.f0
      · rw [nameOf_low e]; exact List.mem_cons_self ..
      · rcases List.mem_cons.1 h with rfl | h
        · exact absurd rfl e
        · exact List.mem_cons_of_mem _ (firsts_all ys _ x h (by simp [hn, e]))

/-! ### the fields of one name among the canonical ones -/
def grpE (nm : ByteArray) (vals : List ByteArray) : List S83 := if vals = [] then [] else grp nm vals
theorem grp_named {nm : ByteArray} {vals : List ByteArray} {z : S83} (h : z ∈ grp nm vals) : z.f0 = nm := by
  unfold grp at h
  split at h
  · obtain ⟨v, _, rfl⟩ := List.mem_map.1 h; rfl
  · obtain rfl := List.mem_singleton.1 h; rfl
theorem eqv_name (p z : S83) : eqv (ltOf cfF) p z = decide (p.f0 = z.f0) := by
  by_cases h : p.f0 = z.f0
  · rw [decide_eq_true h]
    simp [eqv, ltOf, cfF, h, cb_self]
  · rw [decide_eq_false h]
    cases he : eqv (ltOf cfF) p z with
    | false => rfl
    | true =>
      simp only [eqv, ltOf, cfF, Bool.and_eq_true, Bool.not_eq_true'] at he
      have := cb_eq _ _ (of_decide_eq_false he.1) (of_decide_eq_false he.2)
      exact absurd (ByteArray.ext (Array.toList_inj.1 this)) h
theorem filter_grp (p : S83) (nm : ByteArray) (vals : List ByteArray) : (grp nm vals).filter (eqv (ltOf cfF) p) = if p.f0 = nm then grp nm vals else [] := by
  by_cases h : p.f0 = nm
  · rw [if_pos h]
    refine List.filter_eq_self.2 fun z hz => ?_
    rw [eqv_name, grp_named hz, h]
    exact decide_eq_true rfl
  · rw [if_neg h]
    refine List.filter_eq_nil_iff.2 fun z hz hh => ?_
    rw [eqv_name, grp_named hz] at hh
    exact h (of_decide_eq_true hh)
theorem pick_one (G : ByteArray → List S83) (nm : ByteArray) : ∀ (N : List ByteArray), N.Pairwise (fun a b => lowL a ≠ lowL b) → (nm ∈ N → N.flatMap (fun a => if nm = a then G a else []) = G nm) ∧ (nm ∉ N → N.flatMap (fun a => if nm = a then G a else []) = [])
  | [], _ => ⟨fun h => by simp at h, fun _ => rfl⟩
  | a :: N, h => by
    have hp := List.pairwise_cons.1 h
    have ih := pick_one G nm N hp.2
    rw [List.flatMap_cons]
    by_cases e : nm = a
    · subst e
      rw [if_pos rfl, ih.2 (fun hm => hp.1 _ hm rfl), List.append_nil]
      exact ⟨fun _ => rfl, fun h => absurd (List.mem_cons_self ..) h⟩
    · rw [if_neg e, List.nil_append]
      exact ⟨fun hm => ih.1 ((List.mem_cons.1 hm).resolve_left e), fun hm => ih.2 fun h => hm (List.mem_cons_of_mem _ h)⟩
theorem all_ne (l : List S83) (nm : ByteArray) : allOf l nm ≠ [] ↔ ∃ x ∈ l, lowL x.f0 = lowL nm := by
  unfold allOf
  rw [Ne, List.map_eq_nil_iff, List.filter_eq_nil_iff]
  constructor
  · intro h
    refine Classical.byContradiction fun hn => h fun x hx hi => hn ⟨x, hx, (of_decide_eq_true hi).symm⟩
  · rintro ⟨x, hx, e⟩ h
    exact h x hx (decide_eq_true e.symm)
theorem firsts_iff (l : List S83) (nm : ByteArray) : nm ∈ firsts [] l ↔ nameOf nm = nm ∧ allOf l nm ≠ [] := by
  rw [all_ne]
  constructor
  · intro h
    obtain ⟨h1, _, h2⟩ := firsts_mem l [] nm h
    exact ⟨h1, h2⟩
  · rintro ⟨h1, x, hx, e⟩
    have := firsts_all l [] x hx (by simp)
    rwa [nameOf_low e, h1] at this
theorem filter_canon (l : List S83) (p : S83) : (canonF l).filter (eqv (ltOf cfF) p) = if nameOf p.f0 = p.f0 then grpE p.f0 (allOf l p.f0) else [] := by
  rw [canon_firsts, List.filter_flatMap]
  simp only [filter_grp]
  have pk := pick_one (fun a => grp a (allOf l a)) p.f0 _ (firsts_apart l [])
  unfold grpE
  by_cases h1 : nameOf p.f0 = p.f0
  · rw [if_pos h1]
    by_cases h2 : allOf l p.f0 = []
    · rw [if_pos h2]; exact pk.2 (fun h => ((firsts_iff l _).1 h).2 h2)
    · rw [if_neg h2]; exact pk.1 ((firsts_iff l _).2 ⟨h1, h2⟩)
  · rw [if_neg h1]; exact pk.2 (fun h => h1 ((firsts_iff l _).1 h).1)

theorem isort_same {x y : List S83} (h : ∀ p, x.filter (eqv (ltOf cfF) p) = y.filter (eqv (ltOf cfF) p)) : isort (ltOf cfF) x = isort (ltOf cfF) y :=
  sorted_eq swoF _ _ (isort_sorted swoF _) (isort_sorted swoF _) fun p => by rw [isort_filter swoF, isort_filter swoF, h p]
theorem same_of {l m : List S83} (h : ∀ nm, nameOf nm = nm → grpE nm (allOf l nm) = grpE nm (allOf m nm)) : isort (ltOf cfF) (canonF l) = isort (ltOf cfF) (canonF m) :=
  isort_same fun p => by
    rw [filter_canon, filter_canon]
    by_cases hp : nameOf p.f0 = p.f0
    · rw [if_pos hp, if_pos hp, h _ hp]
    · rw [if_neg hp, if_neg hp]

/-! ### canonical fields stay -/
theorem dropWhile_idem (l : List UInt8) : (l.dropWhile isBl).dropWhile isBl = l.dropWhile isBl := by
  induction l with
  | nil => rfl
  | cons x xs ih =>
    by_cases h : isBl x = true
    · rw [List.dropWhile_cons, if_pos h]; exact ih
    · rw [List.dropWhile_cons, if_neg h, List.dropWhile_cons, if_neg h]
theorem dropWhile_head {l : List UInt8} (h : ∀ x, l.head? = some x → isBl x = false) : l.dropWhile isBl = l := by
  cases l with
  | nil => rfl
  | cons x xs => rw [List.dropWhile_cons, if_neg (by rw [h x rfl]; decide)]
theorem head_drop (l : List UInt8) : ∀ x, (l.dropWhile isBl).head? = some x → isBl x = false := by
  induction l with
  | nil => intro x h; simp at h
  | cons y ys ih =>
    intro x h
    by_cases hy : isBl y = true
    · rw [List.dropWhile_cons, if_pos hy] at h; exact ih x h
    · rw [List.dropWhile_cons, if_neg hy] at h
      simp at h
      subst h
      simpa using hy
theorem trimL_idem (l : List UInt8) : trimL (trimL l) = trimL l := by
  unfold trimL
  obtain ⟨m, hm⟩ : ∃ m, m = l.dropWhile isBl := ⟨_, rfl⟩
  rw [← hm]
  have h1 : ((m.reverse.dropWhile isBl).reverse).dropWhile isBl = (m.reverse.dropWhile isBl).reverse := by
    refine dropWhile_head fun x hx => ?_
    have hs : (m.reverse.dropWhile isBl).reverse <+: m := by
      have := List.reverse_prefix.2 (List.dropWhile_suffix isBl (l := m.reverse))
      rwa [List.reverse_reverse] at this
    obtain ⟨t, ht⟩ := hs
    refine head_drop l x ?_
    rw [← hm, ← ht]
    cases hc : (m.reverse.dropWhile isBl).reverse with
    | nil => rw [hc] at hx; cases hx
    | cons y ys => rw [hc] at hx; simpa using hx
  rw [h1, List.reverse_reverse, dropWhile_idem]
theorem trimB_idem (s : ByteArray) : trimB (trimB s) = trimB s := by
  unfold trimB
  rw [show (⟨(trimL s.data.toList).toArray⟩ : ByteArray).data.toList = trimL s.data.toList by simp, trimL_idem]
theorem join_one (v : ByteArray) : (⟨(joinL [v]).toArray⟩ : ByteArray) = v := by
  show (⟨(v.data.toList ++ []).toArray⟩ : ByteArray) = v
  rw [List.append_nil, mk_data]
theorem grp_idem (nm : ByteArray) (vals : List ByteArray) : grp nm ((grp nm vals).map (·.f1)) = grp nm vals := by
  cases h : singleB nm with
  | true =>
    unfold grp
    simp only [h, if_true, List.map_map]
    refine List.map_congr_left fun v _ => ?_
    show (⟨nm, trimB (trimB v)⟩ : S83) = _
    rw [trimB_idem]
  | false =>
    unfold grp
    simp only [h, Bool.false_eq_true, if_false, List.map_cons, List.map_nil]
    rw [join_one, trimB_idem]
theorem canon_named {l : List S83} {z : S83} (h : z ∈ canonF l) : nameOf z.f0 = z.f0 := by
  rw [canon_firsts] at h
  obtain ⟨nm, hn, hz⟩ := List.mem_flatMap.1 h
  rw [grp_named hz]
  exact ((firsts_iff l nm).1 hn).1
theorem canon_all (l : List S83) {nm : ByteArray} (hn : nameOf nm = nm) : allOf (canonF l) nm = (grpE nm (allOf l nm)).map (·.f1) := by
  have h := filter_canon l ⟨nm, nm⟩
  rw [if_pos hn] at h
  rw [← h]
  unfold allOf
  congr 1
  refine List.filter_congr fun z hz => ?_
  rw [eqv_name]
  exact decide_eq_decide.2 (name_iff hn (canon_named hz))
theorem firsts_grps (V : ByteArray → List ByteArray) : ∀ (N : List ByteArray) (seen : List (List UInt8)), (∀ a ∈ N, nameOf a = a ∧ lowL a ∉ seen ∧ V a ≠ []) → N.Pairwise (fun a b => lowL a ≠ lowL b) → firsts seen (N.flatMap fun a => grp a (V a)) = N
  | [], _, _, _ => rfl
  | a :: N, seen, h, hp => by
    have hp' := List.pairwise_cons.1 hp
    obtain ⟨h1, h2, h3⟩ := h a (by simp)
    rw [List.flatMap_cons]
    have skip : ∀ (g : List S83) (s : List (List UInt8)) (rest : List S83), (∀ z ∈ g, lowL z.f0 ∈ s) → firsts s (g ++ rest) = firsts s rest := by
      intro g
      induction g with
      | nil => intro s rest _; rfl
      | cons z g ih =>
        intro s rest hz
        show firsts s (z :: (g ++ rest)) = _
        simp only [firsts]
        rw [if_pos (hz z (by simp))]
        exact ih s rest fun y hy => hz y (by simp [hy])
    have hne : grp a (V a) ≠ [] := by
      unfold grp
      split
      · simpa using h3
      · simp
    obtain ⟨z, g, hg⟩ : ∃ z g, grp a (V a) = z :: g := by
      cases hc : grp a (V a) with
      | nil => exact absurd hc hne
      | cons z g => exact ⟨z, g, rfl⟩
    have hz : ∀ y ∈ z :: g, y.f0 = a := fun y hy => grp_named (by rw [hg]; exact hy)
    rw [hg, List.cons_append]
    simp only [firsts]
    rw [hz z (by simp), if_neg h2, h1, skip g _ _ (fun y hy => by rw [hz y (by simp [hy])]; simp)]
    rw [firsts_grps V N _ (fun b hb => ⟨(h b (by simp [hb])).1, by
      have := hp'.1 b hb
      have h4 := (h b (by simp [hb])).2.1
      simp [h4, Ne.symm this], (h b (by simp [hb])).2.2⟩) hp'.2]
theorem flat_congr {f g : ByteArray → List S83} : ∀ (N : List ByteArray), (∀ a ∈ N, f a = g a) → N.flatMap f = N.flatMap g
  | [], _ => rfl
  | a :: N, h => by rw [List.flatMap_cons, List.flatMap_cons, h a (by simp), flat_congr N fun b hb => h b (by simp [hb])]
theorem canon_canon (l : List S83) : canonF (canonF l) = canonF l := by
  have hf : firsts [] (canonF l) = firsts [] l := by
    conv => lhs; rw [canon_firsts l]
    exact firsts_grps (allOf l) _ [] (fun a ha => ⟨((firsts_iff l a).1 ha).1, by simp, ((firsts_iff l a).1 ha).2⟩) (firsts_apart l [])
  rw [canon_firsts (canonF l), hf]
  conv => rhs; rw [canon_firsts l]
  have : ∀ a ∈ firsts [] l, grp a (allOf (canonF l) a) = grp a (allOf l a) := fun a ha => by
    have h := (firsts_iff l a).1 ha
    rw [canon_all l h.1, grpE, if_neg h.2, grp_idem]
  exact flat_congr _ this

/-! ### how many, how large -/
theorem count_le : ∀ (N : List ByteArray) (l : List S83), N.Pairwise (fun a b => lowL a ≠ lowL b) → (N.map fun a => (allOf l a).length).sum ≤ l.length
  | N, [], _ => by
    have : ∀ N : List ByteArray, (N.map fun a => (allOf [] a).length).sum = 0 := fun N => by
      induction N with
      | nil => rfl
      | cons a N ih => rw [List.map_cons, List.sum_cons, ih]; rfl
    rw [this]; exact Nat.zero_le _
  | N, x :: xs, h => by
    have ih := count_le N xs h
    have e : ∀ N : List ByteArray, (N.map fun a => (allOf (x :: xs) a).length).sum = (N.map fun a => (allOf xs a).length).sum + N.countP (fun a => isN a x) := by
      intro N
      induction N with
      | nil => rfl
      | cons a N ihN =>
        rw [List.map_cons, List.sum_cons, ihN, List.map_cons, List.sum_cons, List.countP_cons]
        have : (allOf (x :: xs) a).length = (allOf xs a).length + if isN a x = true then 1 else 0 := by
          unfold allOf
          rw [List.filter_cons]
          split <;> simp
        rw [this]
        omega
    have c : ∀ N : List ByteArray, N.Pairwise (fun a b => lowL a ≠ lowL b) → N.countP (fun a => isN a x) ≤ 1 := by
      intro N
      induction N with
      | nil => intro _; simp
      | cons a N ihN =>
        intro hp
        have hp' := List.pairwise_cons.1 hp
        rw [List.countP_cons]
        by_cases ha : isN a x = true
        · rw [if_pos ha]
          have : N.countP (fun a => isN a x) = 0 := List.countP_eq_zero.2 fun b hb hh => hp'.1 b hb ((of_decide_eq_true ha).trans (of_decide_eq_true hh).symm)
          omega
        · rw [if_neg ha]
          exact ihN hp'.2
    rw [e, List.length_cons]
    have := c N h
    omega
theorem grp_len {nm : ByteArray} {vals : List ByteArray} (h : vals ≠ []) : (grp nm vals).length ≤ vals.length := by
  unfold grp
  split
  · rw [List.length_map]; exact Nat.le_refl _
  · exact List.length_pos_iff.2 h
theorem canon_le (l : List S83) : (canonF l).length ≤ l.length := by
  refine Nat.le_trans ?_ (count_le (firsts [] l) l (firsts_apart l []))
  rw [canon_firsts]
  have : ∀ N : List ByteArray, (∀ a ∈ N, allOf l a ≠ []) → (N.flatMap fun a => grp a (allOf l a)).length ≤ (N.map fun a => (allOf l a).length).sum := by
    intro N
    induction N with
    | nil => intro _; simp
    | cons a N ih =>
      intro h
      rw [List.flatMap_cons, List.length_append, List.map_cons, List.sum_cons]
      have h1 := ih fun b hb => h b (by simp [hb])
      have h2 := grp_len (nm := a) (h a (by simp))
      omega
  exact this _ fun a ha => ((firsts_iff l a).1 ha).2
theorem sumL_le (M : Nat) : ∀ (V : List ByteArray), (∀ v ∈ V, v.size ≤ M) → sumL V ≤ V.length * M
  | [], _ => by simp [sumL]
  | v :: V, h => by
    have h1 := h v (by simp)
    have h2 := sumL_le M V fun u hu => h u (by simp [hu])
    show v.size + sumL V ≤ _
    rw [List.length_cons, Nat.succ_mul]
    omega
theorem trimL_len (L : List UInt8) : (trimL L).length ≤ L.length := by
  unfold trimL
  rw [List.length_reverse]
  have h1 := (List.dropWhile_sublist isBl (l := (L.dropWhile isBl).reverse)).length_le
  have h2 := (List.dropWhile_sublist isBl (l := L)).length_le
  rw [List.length_reverse] at h1
  omega
theorem trimB_size (s : ByteArray) : (trimB s).size ≤ s.size := by
  have := trimL_len s.data.toList
  unfold trimB
  rw [mk_size, size_len s]
  exact this
theorem okF_few {l : List S83} (h : fewF l) : okF l := ⟨by have := h.1; omega, fun x hx => by have := h.2 x hx; exact ⟨by have := this.1; omega, by have := this.2; omega⟩⟩
theorem canon_ok {l : List S83} (h : fewF l) : okF (canonF l) := by
  refine ⟨Nat.le_trans (canon_le l) (by have := h.1; omega), fun z hz => ?_⟩
  rw [canon_firsts] at hz
  obtain ⟨nm, hn, hz⟩ := List.mem_flatMap.1 hz
  obtain ⟨x, hx, e⟩ := (all_ne l nm).1 ((firsts_iff l nm).1 hn).2
  have hv : ∀ v ∈ allOf l nm, v.size ≤ 300 := fun v hv => by
    unfold allOf at hv
    obtain ⟨y, hy, rfl⟩ := List.mem_map.1 hv
    exact (h.2 y (List.mem_filter.1 hy).1).2
  have hsum := sumL_le 300 _ hv
  have hjl := joinL_len (allOf l nm)
  have hal := allOf_len l nm
  have hl := h.1
  have hnm : nm.size = x.f0.size := by
    have := congrArg List.length e
    unfold lowL at this
    rw [List.length_map, List.length_map, len_data, len_data] at this
    omega
  refine ⟨by rw [grp_named hz, hnm]; have := (h.2 x hx).1; omega, ?_⟩
  unfold grp at hz
  split at hz
  · obtain ⟨v, hv', rfl⟩ := List.mem_map.1 hz
    have h1 := trimB_size v
    have h2 := hv v hv'
    show (trimB v).size ≤ _
    omega
  · obtain rfl := List.mem_singleton.1 hz
    have h1 := trimB_size ⟨(joinL (allOf l nm)).toArray⟩
    have h3 := mk_size (joinL (allOf l nm))
    have h4 : (allOf l nm).length * 300 ≤ 40 * 300 := Nat.mul_le_mul_right _ (by omega)
    show (trimB _).size ≤ _
    omega

theorem same_comes (a b : List S83) (ha : okF a) (hb : okF b) : Ev (fun n => canon_Same.f n a b) (decide (isort (ltOf cfF) (canonF a) = isort (ltOf cfF) (canonF b))) := by
  have la := canon_le a
  have := ha.1
  unfold canon_Same.f canon_sorted.f
  rw [if_pos ha, if_pos hb]
  exact Ev.congr (f := fun n => (api_Field_76.f n (isort (ltOf cfF) (canonF a)) (isort (ltOf cfF) (canonF b))).bind fun t => some t) (fun n => rfl) (Ev.bind (eq76_comes _ _ (by rw [isort_length]; omega)) (Ev.now _))
theorem same_true {a b : List S83} (ha : okF a) (hb : okF b) (h : isort (ltOf cfF) (canonF a) = isort (ltOf cfF) (canonF b)) : Ev (fun n => canon_Same.f n a b) true := by
  have := same_comes a b ha hb
  rwa [decide_eq_true h] at this

/-! ### the three changes -/
theorem all_append (a b : List S83) (nm : ByteArray) : allOf (a ++ b) nm = allOf a nm ++ allOf b nm := by
  unfold allOf
  rw [List.filter_append, List.map_append]
theorem all_cons (x : S83) (b : List S83) (nm : ByteArray) : allOf (x :: b) nm = (if isN nm x = true then [x.f1] else []) ++ allOf b nm := by
  unfold allOf
  rw [List.filter_cons]
  split <;> simp
theorem turned_same (A B : List S83) (x y : S83) (h : foldB x.f0 y.f0 = false) : isort (ltOf cfF) (canonF (A ++ x :: y :: B)) = isort (ltOf cfF) (canonF (A ++ y :: x :: B)) := by
  refine same_of fun nm _ => ?_
  have : allOf (A ++ x :: y :: B) nm = allOf (A ++ y :: x :: B) nm := by
    rw [all_append, all_append, all_cons, all_cons, all_cons, all_cons]
    congr 1
    by_cases hx : isN nm x = true
    · have hy : ¬ isN nm y = true := fun hy => by
        have := (of_decide_eq_true hx).symm.trans (of_decide_eq_true hy)
        rw [show foldB x.f0 y.f0 = true from decide_eq_true this] at h
        cases h
      rw [if_pos hx, if_neg hy]
      simp
    · rw [if_neg hx]
      simp
  rw [this]
theorem tailJ_app : ∀ (a b : List ByteArray), tailJ (a ++ b) = tailJ a ++ tailJ b
  | [], b => rfl
  | x :: a, b => by
    show [44, 32] ++ x.data.toList ++ tailJ (a ++ b) = [44, 32] ++ x.data.toList ++ tailJ a ++ tailJ b
    rw [tailJ_app a b]
    simp
theorem join_split (A B : List ByteArray) (x v : ByteArray) : joinL (A ++ ((x ++ ⟨#[44, 32]⟩) ++ v) :: B) = joinL (A ++ x :: v :: B) := by
  have hd : ((x ++ ⟨#[44, 32]⟩) ++ v).data.toList = x.data.toList ++ [44, 32] ++ v.data.toList := by
    rw [ByteArray.data_append, ByteArray.data_append]
    simp
  cases A with
  | nil =>
    show ((x ++ ⟨#[44, 32]⟩) ++ v).data.toList ++ tailJ B = x.data.toList ++ tailJ (v :: B)
    rw [hd]
    show _ = x.data.toList ++ ([44, 32] ++ v.data.toList ++ tailJ B)
    simp
  | cons a A =>
    show a.data.toList ++ tailJ (A ++ _) = a.data.toList ++ tailJ (A ++ _)
    rw [tailJ_app, tailJ_app]
    congr 2
    show [44, 32] ++ ((x ++ ⟨#[44, 32]⟩) ++ v).data.toList ++ tailJ B = [44, 32] ++ x.data.toList ++ ([44, 32] ++ v.data.toList ++ tailJ B)
    rw [hd]
    simp
theorem split_same (A B : List S83) (x : S83) (v : ByteArray) (h : singleB x.f0 = false) :
    isort (ltOf cfF) (canonF (A ++ ⟨x.f0, (x.f1 ++ ⟨#[44, 32]⟩) ++ v⟩ :: B)) = isort (ltOf cfF) (canonF (A ++ x :: ⟨x.f0, v⟩ :: B)) := by
  refine same_of fun nm hn => ?_
  rw [all_append, all_append, all_cons, all_cons, all_cons]
  by_cases hx : isN nm x = true
  · have e : ∀ u : ByteArray, isN nm (⟨x.f0, u⟩ : S83) = true := fun u => hx
    rw [if_pos (e _), if_pos hx, if_pos (e _)]
    have hs : singleB nm = false := by rw [single_low (of_decide_eq_true hx)]; exact h
    rw [List.singleton_append, List.singleton_append, List.singleton_append]
    unfold grpE grp
    rw [hs, if_neg (show ¬ allOf A nm ++ ((x.f1 ++ ⟨#[44, 32]⟩) ++ v) :: allOf B nm = [] by simp), if_neg (show ¬ allOf A nm ++ x.f1 :: v :: allOf B nm = [] by simp), if_neg (by decide), join_split]
    rfl
  · have e : ∀ u : ByteArray, ¬ isN nm (⟨x.f0, u⟩ : S83) = true := fun u => hx
    rw [if_neg (e _), if_neg hx, if_neg (e _)]
    rfl
end Go.Proofs.Ytacglolggaobdab.MS
