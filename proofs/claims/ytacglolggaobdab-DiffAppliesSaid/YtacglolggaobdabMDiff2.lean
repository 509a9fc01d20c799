/- Plain laws for DiffApplies and DiffBack: Turn, the reference's Apply and Same, and what rows applied give. -/
import Derived.Test.YtacglolggaobdabMDiff
import Derived.Test.YtacglolggaobdabGdiffApply
import Derived.Test.YtacglolggaobdabPAllx8
import Derived.Test.YtacglolggaobdabPAllx7
import Derived.Test.YtacglolggaobdabPAllx7
namespace Go.Proofs.Ytacglolggaobdab.MDiff
open Go.RowKit Go.Proofs.Ytacglolggaobdab.PAll Go.Proofs.YtacglolggaobdabW.PrintWords Go.Proofs.YtacglolggaobdabW.PrintLast
open Go.Proofs.Ytacglolggaobdab.MTable
set_option linter.unusedVariables false
set_option linter.unusedSimpArgs false

theorem TL_length (l : List ByteArray) : (TL l).length = l.length := by simp [TL]
theorem TL_append (a b : List ByteArray) : TL (a ++ b) = TL a ++ TL b := by simp [TL]
theorem TL_get (l : List ByteArray) (i : Nat) : (TL l)[i]? = (l[i]?).map ByteArray.toList := by simp [TL]

/-! ### Same of two lists of texts -/
theorem same01_l0 (a b : List ByteArray) (hl : a.length = b.length) (hm : a.length ≤ 1000000) : ∀ (d i : Nat), a.length - i = d → i ≤ a.length → (∀ j, j < i → (TL a)[j]? = (TL b)[j]?) →
    Ev (fun n => abutmentref01_Same.l0 n a b (i : Int)) (decide (TL a = TL b)) := by
  intro d
  induction d with
  | zero =>
    intro i hd hi hj
    have : TL a = TL b := by
      refine List.ext_getElem? fun j => ?_
      by_cases hja : j < a.length
      · exact hj j (by omega)
      · rw [List.getElem?_eq_none (by rw [TL_length]; omega), List.getElem?_eq_none (by rw [TL_length]; omega)]
    rw [decide_eq_true this]
    refine Ev.step (f := fun _ => some true) (fun n => ?_) (Ev.now _)
    simp only [abutmentref01_Same.l0]
    rw [if_neg (by omega)]
  | succ d ih =>
    intro i hd hi hj
    have hia : i < a.length := by omega
    have hib : i < b.length := by omega
    have ea : (TL a)[i]? = some (rdOf ByteArray.empty a (i : Int)).toList := by
      rw [TL_get, List.getElem?_eq_getElem hia]; show _ = some (a.getD i ByteArray.empty).toList
      rw [List.getD_eq_getElem?_getD, List.getElem?_eq_getElem hia]; rfl
    have eb : (TL b)[i]? = some (rdOf ByteArray.empty b (i : Int)).toList := by
      rw [TL_get, List.getElem?_eq_getElem hib]; show _ = some (b.getD i ByteArray.empty).toList
      rw [List.getD_eq_getElem?_getD, List.getElem?_eq_getElem hib]; rfl
    by_cases he : (rdOf ByteArray.empty a (i : Int)).toList = (rdOf ByteArray.empty b (i : Int)).toList
    · have h1 := ih (i + 1) (by omega) (by omega) (fun j hj' => by
        by_cases e : j = i
        · subst e; rw [ea, eb, he]
        · exact hj j (by omega))
      refine Ev.step (f := fun n => abutmentref01_Same.l0 n a b ((i + 1 : Nat) : Int)) (fun n => ?_) h1
      simp only [abutmentref01_Same.l0]
      rw [if_pos (by omega), if_pos (by omega), if_pos (by omega), if_pos he, w64 (by omega) (by omega)]; rfl
    · have : ¬ TL a = TL b := fun h => by rw [h, eb] at ea; exact he (Option.some.inj ea).symm
      rw [decide_eq_false this]
      refine Ev.step (f := fun _ => some false) (fun n => ?_) (Ev.now _)
      simp only [abutmentref01_Same.l0]
      rw [if_pos (by omega), if_pos (by omega), if_pos (by omega), if_neg he]

theorem same01_comes (a b : List ByteArray) (hm : a.length ≤ 1000000) : Ev (fun n => abutmentref01_Same.f n a b) (decide (TL a = TL b)) := by
  by_cases hl : a.length = b.length
  · refine Ev.congr (f := fun n => abutmentref01_Same.l0 n a b ((0 : Nat) : Int)) (fun n => ?_) (same01_l0 a b hl hm _ 0 rfl (by omega) (fun j hj => absurd hj (by omega)))
    unfold abutmentref01_Same.f
    rw [if_pos (by omega)]; rfl
  · have : ¬ TL a = TL b := fun h => hl (by rw [← TL_length a, ← TL_length b, h])
    rw [decide_eq_false this]
    refine Ev.congr (f := fun _ => some false) (fun n => ?_) (Ev.now _)
    unfold abutmentref01_Same.f
    rw [if_neg (by omega)]

/-! ### Turn -/
def turnRow (r : S32) : S32 := if r.f0 = 1 then ⟨2, r.f1⟩ else if r.f0 = 2 then ⟨1, r.f1⟩ else ⟨r.f0, r.f1⟩

theorem rd_row (l : List S32) (i : Nat) (h : i < l.length) : rd_T32 l (i : Int) = l[i] := by
  show l.getD i z32 = _
  rw [List.getD_eq_getElem?_getD, List.getElem?_eq_getElem h]; rfl

theorem turn_l0 (l : List S32) (hl : l.length ≤ 100000) : ∀ (d i : Nat), l.length - i = d → i ≤ l.length → ∀ t : List S32, t = (l.take i).map turnRow ++ List.replicate (l.length - i) z32 →
    Ev (fun n => diff_Turn.l0 n t l (l.length : Int) (i : Int)) (l.map turnRow) := by
  intro d
  induction d with
  | zero =>
    intro i hd hi t ht
    obtain rfl : i = l.length := by omega
    rw [List.take_length, Nat.sub_self, List.replicate_zero, List.append_nil] at ht
    subst ht
    refine Ev.step (f := fun _ => some (l.map turnRow)) (fun n => ?_) (Ev.now _)
    simp only [diff_Turn.l0]
    rw [if_neg (by omega)]
  | succ d ih =>
    intro i hd hi t ht
    have hil : i < l.length := by omega
    have htl : t.length = l.length := by rw [ht]; simp; omega
    have hset : t.set i (turnRow l[i]) = (l.take (i + 1)).map turnRow ++ List.replicate (l.length - (i + 1)) z32 := by
      rw [ht, List.take_succ_eq_append_getElem hil, List.map_append, List.append_assoc]
      rw [List.set_append_right _ _ (by simp; omega)]
      congr 1
      rw [show i - ((l.take i).map turnRow).length = 0 from by simp; omega]
      rw [show l.length - i = (l.length - (i + 1)) + 1 from by omega, List.replicate_succ]
      rfl
    have h1 := ih (i + 1) (by omega) (by omega) _ hset
    refine Ev.step (f := fun n => diff_Turn.l0 n (t.set i (turnRow l[i])) l (l.length : Int) ((i + 1 : Nat) : Int)) (fun n => ?_) h1
    simp only [diff_Turn.l0]
    rw [rd_row l i hil, if_pos (by omega), if_pos (by omega), if_pos (by omega), w64 (by omega) (by omega)]
    by_cases h1 : l[i].f0 = 1
    · rw [if_pos h1, if_pos (by omega), show turnRow l[i] = ⟨2, l[i].f1⟩ from by unfold turnRow; rw [if_pos h1]]; rfl
    · rw [if_neg h1]
      by_cases h2 : l[i].f0 = 2
      · rw [if_pos h2, if_pos (by omega), show turnRow l[i] = ⟨1, l[i].f1⟩ from by unfold turnRow; rw [if_neg h1, if_pos h2]]; rfl
      · rw [if_neg h2, if_pos (by omega), show turnRow l[i] = ⟨l[i].f0, l[i].f1⟩ from by unfold turnRow; rw [if_neg h1, if_neg h2]]; rfl

theorem turn_comes (l : List S32) (hl : l.length ≤ 100000) : Ev (fun n => diff_Turn.f n l) (l.map turnRow) := by
  refine Ev.congr (f := fun n => diff_Turn.l0 n (List.replicate l.length z32) l (l.length : Int) ((0 : Nat) : Int)) (fun n => ?_) (turn_l0 l hl _ 0 rfl (by omega) _ (by simp))
  unfold diff_Turn.f
  rw [if_pos (by omega), if_pos (by omega)]; rfl

/-! ### the reference's Apply -/
def finF (a : List ByteArray) : List S32 → List ByteArray → List ByteArray → List ByteArray × Bool
  | [], was, now => if TL was = TL a then (now, true) else ([], false)
  | r :: l, was, now => if r.f0 < 0 ∨ r.f0 > 2 then ([], false) else finF a l (if r.f0 < 2 then was ++ [r.f1] else was) (if r.f0 = 1 then now else now ++ [r.f1])

theorem fin_out (a : List ByteArray) : ∀ (l : List S32) (was now : List ByteArray), ¬ TL was <+: TL a → finF a l was now = ([], false)
  | [], was, now, h => by
    unfold finF
    rw [if_neg]
    intro e
    exact h (e ▸ List.prefix_refl _)
  | r :: l, was, now, h => by
    unfold finF
    split
    · rfl
    · refine fin_out a l _ _ (fun hp => h ?_)
      split at hp
      · rw [TL_append] at hp
        exact (List.prefix_append _ _).trans hp
      · exact hp

theorem fin_apply (a : List ByteArray) : ∀ (l : List S32) (was now : List ByteArray), TL was <+: TL a → finF a l was now = applyF (a.drop was.length) l now
  | [], was, now, h => by
    unfold finF applyF
    have hle : was.length ≤ a.length := by have := h.length_le; rwa [TL_length, TL_length] at this
    by_cases he : was.length = a.length
    · rw [if_pos (h.eq_of_length (by rw [TL_length, TL_length, he])), if_pos (by rw [List.length_drop]; omega)]
    · rw [if_neg (fun e => he (by rw [← TL_length was, ← TL_length a, e])), if_neg (by rw [List.length_drop]; omega)]
  | r :: l, was, now, h => by
    unfold finF applyF
    have hle : was.length ≤ a.length := by have := h.length_le; rwa [TL_length, TL_length] at this
    by_cases hr : r.f0 < 0 ∨ r.f0 > 2
    · rw [if_pos hr, if_pos hr]
    · rw [if_neg hr, if_neg hr]
      by_cases h2 : r.f0 = 2
      · rw [if_pos h2, if_neg (by omega), if_neg (by omega)]
        exact fin_apply a l was _ h
      · rw [if_neg h2, if_pos (by omega)]
        obtain ⟨rest, hrest⟩ := h
        by_cases hl0 : (a.drop was.length).length = 0
        · rw [if_pos hl0]
          refine fin_out a l _ _ (fun hp => ?_)
          have := hp.length_le
          rw [TL_append, List.length_append, TL_length, TL_length] at this
          rw [List.length_drop] at hl0
          simp [TL] at this
          omega
        · rw [if_neg hl0]
          have hlt : was.length < a.length := by rw [List.length_drop] at hl0; omega
          have h0 : (a.drop was.length).getD 0 ByteArray.empty = a[was.length] := by
            rw [List.getD_eq_getElem?_getD, List.getElem?_drop, Nat.add_zero, List.getElem?_eq_getElem hlt]; rfl
          have hget : (TL a)[was.length]? = some a[was.length].toList := by rw [TL_get, List.getElem?_eq_getElem hlt]; rfl
          have hrest0 : rest[0]? = some a[was.length].toList := by
            rw [← hget, ← hrest, List.getElem?_append_right (by rw [TL_length]; omega), TL_length, Nat.sub_self]
          rw [h0]
          by_cases he : a[was.length].toList = r.f1.toList
          · rw [if_pos he]
            have hp : TL (was ++ [r.f1]) <+: TL a := by
              cases rest with
              | nil => simp at hrest0
              | cons x xs =>
                simp at hrest0
                refine ⟨xs, ?_⟩
                rw [TL_append, ← hrest, List.append_assoc]
                congr 1
                show r.f1.toList :: xs = x :: xs
                rw [hrest0, he]
            rw [fin_apply a l _ _ hp, List.drop_drop]
            congr 2
            simp
          · rw [if_neg he]
            refine fin_out a l _ _ (fun hp => he ?_)
            obtain ⟨t, ht⟩ := hp
            have : (TL a)[was.length]? = some r.f1.toList := by
              rw [← ht, TL_append, List.append_assoc, List.getElem?_append_right (by rw [TL_length]; omega), TL_length, Nat.sub_self]; rfl
            rw [hget] at this
            exact Option.some.inj this

theorem rd33_row (l : List S32) (i : Nat) (h : i < l.length) : rd_T33 (l.map to33) (i : Int) = to33 l[i] := by
  show (l.map to33).getD i z33 = _
  rw [List.getD_eq_getElem?_getD, List.getElem?_map, List.getElem?_eq_getElem h]; rfl

theorem refApply_l0 (a : List ByteArray) (l : List S32) (hl : l.length ≤ 100000) : ∀ (d i : Nat), l.length - i = d → i ≤ l.length → ∀ was now : List ByteArray, was.length ≤ i → now.length ≤ i →
    Ev (fun n => abutmentref51_Apply.l0 n a (l.map to33) was now (i : Int)) (finF a (l.drop i) was now) := by
  intro d
  induction d with
  | zero =>
    intro i hd hi was now hw hn
    obtain rfl : i = l.length := by omega
    rw [List.drop_length]
    unfold finF
    refine Ev.step (f := fun n => (abutmentref01_Same.f n was a).bind fun t => if t = true then some (now, true) else some ([], false)) (fun n => ?_) (Ev.bind (same01_comes was a (by omega)) ?_)
    · simp only [abutmentref51_Apply.l0]
      rw [if_neg (by rw [List.length_map]; omega)]
    · by_cases h : TL was = TL a
      · rw [if_pos h, decide_eq_true h]; exact Ev.congr (fun n => by rw [if_pos rfl]) (Ev.now _)
      · rw [if_neg h, decide_eq_false h]; exact Ev.congr (fun n => by rw [if_neg (by simp)]) (Ev.now _)
  | succ d ih =>
    intro i hd hi was now hw hn
    have hil : i < l.length := by omega
    rw [List.drop_eq_getElem_cons hil]
    unfold finF
    have hbad : ∀ b : Bool, b = true → Ev (fun n => abutmentref51_Apply.j1 n a (l.map to33) was now (i : Int) b) ([], false) := by
      intro b hb
      refine Ev.step (f := fun _ => some ([], false)) (fun n => ?_) (Ev.now _)
      simp only [abutmentref51_Apply.j1]
      rw [if_pos hb]
    by_cases hr : l[i].f0 < 0 ∨ l[i].f0 > 2
    · rw [if_pos hr]
      by_cases h0 : l[i].f0 < 0
      · refine Ev.step (f := fun n => abutmentref51_Apply.j1 n a (l.map to33) was now (i : Int) true) (fun n => ?_) (hbad _ rfl)
        simp only [abutmentref51_Apply.l0]
        rw [if_pos (by rw [List.length_map]; omega), if_pos (by omega), rd33_row l i hil, if_pos (show (to33 l[i]).f0 < 0 from h0)]
      · refine Ev.step (f := fun n => abutmentref51_Apply.j1 n a (l.map to33) was now (i : Int) (decide ((to33 l[i]).f0 > 2))) (fun n => ?_) (hbad _ (decide_eq_true (show l[i].f0 > 2 by omega)))
        simp only [abutmentref51_Apply.l0]
        rw [if_pos (by rw [List.length_map]; omega), if_pos (by omega), rd33_row l i hil, if_neg (show ¬ (to33 l[i]).f0 < 0 from h0)]
    · rw [if_neg hr]
      have hj2 : ∀ was' : List ByteArray, was'.length ≤ i + 1 → Ev (fun n => abutmentref51_Apply.j2 n a (l.map to33) was' now (i : Int)) (finF a (l.drop (i + 1)) was' (if l[i].f0 = 1 then now else now ++ [l[i].f1])) := by
        intro was' hw'
        by_cases h1 : l[i].f0 = 1
        · rw [if_pos h1]
          refine Ev.step (f := fun n => abutmentref51_Apply.l0 n a (l.map to33) was' now ((i + 1 : Nat) : Int)) (fun n => ?_) (ih (i + 1) (by omega) (by omega) was' now hw' (by omega))
          simp only [abutmentref51_Apply.j2]
          rw [if_pos (by omega), if_pos (by rw [List.length_map]; omega), rd33_row l i hil, if_pos (show (to33 l[i]).f0 = 1 from h1), w64 (by omega) (by omega)]; rfl
        · rw [if_neg h1]
          refine Ev.step (f := fun n => abutmentref51_Apply.l0 n a (l.map to33) was' (now ++ [l[i].f1]) ((i + 1 : Nat) : Int)) (fun n => ?_) (ih (i + 1) (by omega) (by omega) was' (now ++ [l[i].f1]) hw' (by rw [List.length_append, List.length_singleton]; omega))
          simp only [abutmentref51_Apply.j2]
          rw [if_pos (by omega), if_pos (by rw [List.length_map]; omega), rd33_row l i hil, if_neg (show ¬ (to33 l[i]).f0 = 1 from h1), if_pos (by omega), w64 (by omega) (by omega)]; rfl
      refine Ev.step (f := fun n => abutmentref51_Apply.j1 n a (l.map to33) was now (i : Int) false) (fun n => ?_) ?_
      · simp only [abutmentref51_Apply.l0]
        rw [if_pos (by rw [List.length_map]; omega), if_pos (by omega), rd33_row l i hil, if_neg (show ¬ (to33 l[i]).f0 < 0 from fun h => hr (.inl h)), show decide ((to33 l[i]).f0 > 2) = false from decide_eq_false (fun h => hr (.inr h))]
      by_cases h2 : l[i].f0 < 2
      · rw [if_pos h2]
        refine Ev.step (f := fun n => abutmentref51_Apply.j2 n a (l.map to33) (was ++ [l[i].f1]) now (i : Int)) (fun n => ?_) (hj2 (was ++ [l[i].f1]) (by rw [List.length_append, List.length_singleton]; omega))
        simp only [abutmentref51_Apply.j1]
        rw [if_neg (by simp), if_pos (by omega), if_pos (by rw [List.length_map]; omega), rd33_row l i hil, if_pos (show (to33 l[i]).f0 < 2 from h2), if_pos (by omega)]; rfl
      · rw [if_neg h2]
        refine Ev.step (f := fun n => abutmentref51_Apply.j2 n a (l.map to33) was now (i : Int)) (fun n => ?_) (hj2 _ (by omega))
        simp only [abutmentref51_Apply.j1]
        rw [if_neg (by simp), if_pos (by omega), if_pos (by rw [List.length_map]; omega), rd33_row l i hil, if_neg (show ¬ (to33 l[i]).f0 < 2 from h2)]

theorem refApply_comes (a : List ByteArray) (l : List S32) (hl : l.length ≤ 100000) : Ev (fun n => abutmentref51_Apply.f n a (l.map to33)) (applyF a l []) := by
  have h := refApply_l0 a l hl _ 0 rfl (by omega) [] [] (by simp) (by simp)
  rw [List.drop_zero, fin_apply a l [] [] (by simp [TL]), List.length_nil, List.drop_zero] at h
  exact h

/-! ### rows of two lists, applied -/
theorem turn_of (x : ByteArray) : turnRow ⟨0, x⟩ = ⟨0, x⟩ ∧ turnRow ⟨1, x⟩ = ⟨2, x⟩ ∧ turnRow ⟨2, x⟩ = ⟨1, x⟩ := by
  refine ⟨?_, ?_, ?_⟩ <;> simp [turnRow]

theorem apply_lines : ∀ (d : Nat) (a b : List ByteArray), a.length + b.length ≤ d → ∀ out, ∃ o, applyF a (linesOf a b) out = (out ++ o, true) ∧ TL o = TL b := by
  intro d
  induction d with
  | zero =>
    intro a b hd out
    obtain rfl : a = [] := List.eq_nil_of_length_eq_zero (by omega)
    obtain rfl : b = [] := List.eq_nil_of_length_eq_zero (by omega)
    exact ⟨[], by simp [linesOf_nil, applyF], rfl⟩
  | succ d ih =>
    intro a b hd out
    cases a with
    | nil =>
      cases b with
      | nil => exact ⟨[], by simp [linesOf_nil, applyF], rfl⟩
      | cons y ys =>
        obtain ⟨o, h1, h2⟩ := ih [] ys (by simp only [List.length_cons, List.length_nil] at hd ⊢; omega) (out ++ [y])
        refine ⟨y :: o, ?_, by simp only [TL, List.map_cons] at h2 ⊢; rw [h2]⟩
        rw [linesOf_right, applyF, if_neg (by simp), if_pos rfl, h1]; simp
    | cons x xs =>
      cases b with
      | nil =>
        obtain ⟨o, h1, h2⟩ := ih xs [] (by simp only [List.length_cons, List.length_nil] at hd ⊢; omega) out
        refine ⟨o, ?_, h2⟩
        rw [linesOf_left, applyF, if_neg (by simp), if_neg (by simp), if_neg (by simp), if_pos (by simp), if_pos rfl]
        exact h1
      | cons y ys =>
        simp only [List.length_cons] at hd
        by_cases he : x.toList = y.toList
        · obtain ⟨o, h1, h2⟩ := ih xs ys (by omega) (out ++ [x])
          refine ⟨x :: o, ?_, by simp only [TL, List.map_cons] at h2 ⊢; rw [h2, he]⟩
          rw [linesOf_eq _ _ _ _ he, applyF, if_neg (by simp), if_neg (by simp), if_neg (by simp), if_pos (by simp), if_neg (by simp)]
          exact h1.trans (by simp)
        · by_cases hc : lcs (x :: xs) ys ≤ lcs xs (y :: ys)
          · obtain ⟨o, h1, h2⟩ := ih xs (y :: ys) (by simp only [List.length_cons]; omega) out
            refine ⟨o, ?_, h2⟩
            rw [linesOf_gone _ _ _ _ he hc, applyF, if_neg (by simp), if_neg (by simp), if_neg (by simp), if_pos (by simp), if_pos rfl]
            exact h1
          · obtain ⟨o, h1, h2⟩ := ih (x :: xs) ys (by simp only [List.length_cons]; omega) (out ++ [y])
            refine ⟨y :: o, ?_, by simp only [TL, List.map_cons] at h2 ⊢; rw [h2]⟩
            rw [linesOf_new _ _ _ _ he hc, applyF, if_neg (by simp), if_pos rfl, h1]; simp

theorem apply_turned : ∀ (d : Nat) (a b : List ByteArray), a.length + b.length ≤ d → ∀ out, ∃ o, applyF b ((linesOf a b).map turnRow) out = (out ++ o, true) ∧ TL o = TL a := by
  intro d
  induction d with
  | zero =>
    intro a b hd out
    obtain rfl : a = [] := List.eq_nil_of_length_eq_zero (by omega)
    obtain rfl : b = [] := List.eq_nil_of_length_eq_zero (by omega)
    exact ⟨[], by simp [linesOf_nil, applyF], rfl⟩
  | succ d ih =>
    intro a b hd out
    cases a with
    | nil =>
      cases b with
      | nil => exact ⟨[], by simp [linesOf_nil, applyF], rfl⟩
      | cons y ys =>
        obtain ⟨o, h1, h2⟩ := ih [] ys (by simp only [List.length_cons, List.length_nil] at hd ⊢; omega) out
        refine ⟨o, ?_, h2⟩
        rw [linesOf_right, List.map_cons, (turn_of y).2.2, applyF, if_neg (by simp), if_neg (by simp), if_neg (by simp), if_pos (by simp), if_pos rfl]
        exact h1
    | cons x xs =>
      cases b with
      | nil =>
        obtain ⟨o, h1, h2⟩ := ih xs [] (by simp only [List.length_cons, List.length_nil] at hd ⊢; omega) (out ++ [x])
        refine ⟨x :: o, ?_, by simp only [TL, List.map_cons] at h2 ⊢; rw [h2]⟩
        rw [linesOf_left, List.map_cons, (turn_of x).2.1, applyF, if_neg (by simp), if_pos rfl, h1]; simp
      | cons y ys =>
        simp only [List.length_cons] at hd
        by_cases he : x.toList = y.toList
        · obtain ⟨o, h1, h2⟩ := ih xs ys (by omega) (out ++ [x])
          refine ⟨x :: o, ?_, by simp only [TL, List.map_cons] at h2 ⊢; rw [h2]⟩
          rw [linesOf_eq _ _ _ _ he, List.map_cons, (turn_of x).1, applyF, if_neg (by simp), if_neg (by simp), if_neg (by simp), if_pos (by simpa using he.symm), if_neg (by simp)]
          exact h1.trans (by simp)
        · by_cases hc : lcs (x :: xs) ys ≤ lcs xs (y :: ys)
          · obtain ⟨o, h1, h2⟩ := ih xs (y :: ys) (by simp only [List.length_cons]; omega) (out ++ [x])
            refine ⟨x :: o, ?_, by simp only [TL, List.map_cons] at h2 ⊢; rw [h2]⟩
            rw [linesOf_gone _ _ _ _ he hc, List.map_cons, (turn_of x).2.1, applyF, if_neg (by simp), if_pos rfl, h1]; simp
          · obtain ⟨o, h1, h2⟩ := ih (x :: xs) ys (by simp only [List.length_cons]; omega) out
            refine ⟨o, ?_, h2⟩
            rw [linesOf_new _ _ _ _ he hc, List.map_cons, (turn_of y).2.2, applyF, if_neg (by simp), if_neg (by simp), if_neg (by simp), if_pos (by simp), if_pos rfl]
            exact h1

theorem apply_len : ∀ (l : List S32) (left out : List ByteArray), (applyF left l out).1.length ≤ out.length + l.length
  | [], left, out => by unfold applyF; split <;> simp
  | r :: l, left, out => by
    unfold applyF
    split
    · simp
    · split
      · have := apply_len l left (out ++ [r.f1]); simp at this ⊢; omega
      · split
        · simp
        · split
          · have := apply_len l (left.drop 1) (if r.f0 = 1 then out else out ++ [r.f1])
            have h2 : (if r.f0 = 1 then out else out ++ [r.f1]).length ≤ out.length + 1 := by split <;> simp
            simp only [List.length_cons]; omega
          · simp

theorem lines_self : ∀ (a : List ByteArray), linesOf a a = a.map fun x => ⟨0, x⟩
  | [] => linesOf_nil
  | x :: xs => by rw [linesOf_eq _ _ _ _ rfl, lines_self xs]; rfl
end Go.Proofs.Ytacglolggaobdab.MDiff
