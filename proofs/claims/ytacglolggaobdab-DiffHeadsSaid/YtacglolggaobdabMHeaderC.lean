/- Plain laws for fields: what the references Lower, Is, All, Join, Same and the guard Few come to. -/
import Derived.Test.YtacglolggaobdabGheaderAll
import Derived.Test.YtacglolggaobdabGlistsJoin
import Derived.Test.YtacglolggaobdabPAllx3
import Derived.Test.YtacglolggaobdabPAllx4
import Derived.Test.YtacglolggaobdabPAllx5
import Derived.Test.YtacglolggaobdabPAllx5
import Derived.Test.YtacglolggaobdabPAllx5
import Derived.Test.YtacglolggaobdabPAllx3
namespace Go.Proofs.Ytacglolggaobdab.MH
open Go.RowKit Go.Proofs.Ytacglolggaobdab.PAll Go.Proofs.Ytacglolggaobdab.Hn Go.Proofs.YtacglolggaobdabW.PrintWords Go.Proofs.YtacglolggaobdabW.PrintLast Go.Proofs.YtacglolggaobdabW.PrintMore
set_option linter.unusedVariables false
set_option linter.unusedSimpArgs false

theorem w64 {x : Int} (h0 : -9223372036854775808 ≤ x) (h1 : x ≤ 9223372036854775807) : wrap64 x = x := by unfold wrap64; omega
theorem bt_nat (s : ByteArray) (i : Nat) (h : i < s.data.toList.length) : bt s (i : Int) = ((s.data.toList[i]).toNat : Int) := by
  have hs : i < s.size := by simpa using h
  rw [← bt_at s (i : Int) (by simpa using hs)]
  simp only [Int.toNat_natCast]
  rfl
theorem size_len (s : ByteArray) : s.size = s.data.toList.length := by simp
theorem toList_inj {a b : ByteArray} (h : a.toList = b.toList) : a = b := by
  rw [ByteArray.toList_eq, ByteArray.toList_eq] at h
  exact ByteArray.ext (Array.toList_inj.1 h)
theorem toList_iff {a b : ByteArray} : a.toList = b.toList ↔ a = b := ⟨toList_inj, fun h => by rw [h]⟩

/-! ### Few -/
def Small (x : S83) : Prop := x.f0.size ≤ 100 ∧ x.f1.size ≤ 300
instance (x : S83) : Decidable (Small x) := by unfold Small; infer_instance
def fewF (l : List S83) : Prop := l.length ≤ 40 ∧ ∀ x ∈ l, Small x
instance (l : List S83) : Decidable (fewF l) := by unfold fewF; infer_instance
theorem few10_l0 (l : List S83) (hl : l.length ≤ 40) : ∀ (d i : Nat), l.length - i = d → i ≤ l.length → Ev (fun n => abutmentlaw10_Few.l0 n l (l.length : Int) (i : Int)) (decide (∀ x ∈ l.drop i, Small x)) := by
  intro d
  induction d with
  | zero =>
    intro i hd hi
    rw [List.drop_eq_nil_of_le (by omega), decide_eq_true (by simp)]
    refine Ev.step (f := fun _ => some true) (fun n => ?_) (Ev.now _)
    simp only [abutmentlaw10_Few.l0]
    rw [if_neg (by omega)]
  | succ d ih =>
    intro i hd hi
    have hil : i < l.length := by omega
    have hrd := rd_at l i hil
    rw [List.drop_eq_getElem_cons hil]
    by_cases h0 : l[i].f0.size ≤ 100
    · by_cases h1 : l[i].f1.size ≤ 300
      · rw [decide_eq_decide.2 (show (∀ x ∈ l[i] :: l.drop (i + 1), Small x) ↔ (∀ x ∈ l.drop (i + 1), Small x) from ⟨fun h x hx => h x (List.mem_cons_of_mem _ hx), fun h x hx => by
          rcases List.mem_cons.1 hx with rfl | hx
          · exact ⟨h0, h1⟩
          · exact h x hx⟩)]
        refine Ev.step (f := fun n => abutmentlaw10_Few.l0 n l (l.length : Int) ((i + 1 : Nat) : Int)) (fun n => ?_) (ih (i + 1) (by omega) (by omega))
        simp only [abutmentlaw10_Few.l0]
        rw [if_pos (by omega), if_pos (by omega), if_pos (by omega), hrd, if_neg (by omega), if_neg (by omega), w64 (by omega) (by omega)]; rfl
      · rw [decide_eq_false (fun h => h1 (h _ (List.mem_cons_self ..)).2)]
        refine Ev.step (f := fun _ => some false) (fun n => ?_) (Ev.now _)
        simp only [abutmentlaw10_Few.l0]
        rw [if_pos (by omega), if_pos (by omega), if_pos (by omega), hrd, if_neg (by omega), if_pos (by omega)]
    · rw [decide_eq_false (fun h => h0 (h _ (List.mem_cons_self ..)).1)]
      refine Ev.step (f := fun _ => some false) (fun n => ?_) (Ev.now _)
      simp only [abutmentlaw10_Few.l0]
      rw [if_pos (by omega), if_pos (by omega), if_pos (by omega), hrd, if_pos (by omega)]
theorem few10_comes (l : List S83) : Ev (fun n => abutmentlaw10_Few.f n l) (decide (fewF l)) := by
  unfold abutmentlaw10_Few.f
  by_cases hl : l.length ≤ 40
  · refine Ev.congr (f := fun n => abutmentlaw10_Few.l0 n l (l.length : Int) ((0 : Nat) : Int)) (fun n => by rw [if_neg (by omega)]; rfl) ?_
    have := few10_l0 l hl _ 0 rfl (by omega)
    rw [List.drop_zero] at this
    rwa [show decide (fewF l) = decide (∀ x ∈ l, Small x) from decide_eq_decide.2 (by simp [fewF, hl])]
  · rw [decide_eq_false (fun h => hl h.1)]
    exact Ev.congr (fun n => by rw [if_pos (by omega)]) (Ev.now _)
theorem fewF.fit {l : List S83} (h : fewF l) : fit l := ⟨by have := h.1; omega, fun x hx => by have := (h.2 x hx).1; omega⟩

/-! ### Lower, Is -/
def nums (l : List UInt8) : List Int := l.map fun c => (c.toNat : Int)
theorem strOf_nums (l : List UInt8) : strOfNums (nums l) = ⟨l.toArray⟩ := by
  have e : (l.map fun x => (x.toNat : Int)).map (fun n => UInt8.ofNat n.toNat) = l := by
    rw [List.map_map]
    conv => rhs; rw [← List.map_id l]
    refine List.map_congr_left fun x _ => ?_
    simp
  unfold strOfNums nums
  rw [e]
theorem lower_l0 (s : ByteArray) (hs : s.size ≤ 1000000) : ∀ (d i : Nat), s.size - i = d → i ≤ s.size → Ev (fun n => abutmentref01_Lower.l0 n s (nums ((lowL s).take i)) (i : Int)) ⟨(lowL s).toArray⟩ := by
  intro d
  induction d with
  | zero =>
    intro i hd hi
    rw [List.take_of_length_le (by unfold lowL; rw [List.length_map, ← size_len]; omega)]
    refine Ev.step (f := fun _ => some (strOfNums (nums (lowL s)))) (fun n => ?_) (by rw [strOf_nums]; exact Ev.now _)
    simp only [abutmentref01_Lower.l0]
    rw [if_neg (by omega)]
  | succ d ih =>
    intro i hd hi
    have hil : i < s.data.toList.length := by rw [← size_len]; omega
    obtain ⟨c, hc⟩ : ∃ c, c = s.data.toList[i] := ⟨_, rfl⟩
    have hbt : bt s (i : Int) = (c.toNat : Int) := by rw [bt_nat s i hil, hc]
    have hlen : (nums ((lowL s).take i)).length < 140737488355328 := by unfold nums; rw [List.length_map, List.length_take]; omega
    have htk : nums ((lowL s).take (i + 1)) = nums ((lowL s).take i) ++ [((low c).toNat : Int)] := by
      rw [List.take_succ_eq_append_getElem (show i < (lowL s).length by unfold lowL; rw [List.length_map]; exact hil)]
      unfold nums
      simp [lowL, hc]
    have hln := low_nat c
    have h1 := c.toNat_lt
    have hnext := ih (i + 1) (by omega) (by omega)
    rw [htk] at hnext
    refine Ev.step (f := fun n => abutmentref01_Lower.l0 n s (nums ((lowL s).take i) ++ [((low c).toNat : Int)]) ((i + 1 : Nat) : Int)) (fun n => ?_) hnext
    simp only [abutmentref01_Lower.l0]
    rw [if_pos (by omega), if_pos (by omega), hbt, w64 (by omega) (by omega)]
    by_cases ha : 65 ≤ c.toNat
    · by_cases hb : c.toNat ≤ 90
      · rw [if_pos ⟨ha, hb⟩] at hln
        rw [if_pos (by omega), if_pos (by omega), if_pos hlen, hln, show ((c.toNat : Int) + 32) % 256 = (c.toNat : Int) + 32 by omega]; rfl
      · rw [if_neg (fun h => hb h.2)] at hln
        rw [if_pos (by omega), if_neg (by omega), if_pos hlen, hln]; rfl
    · rw [if_neg (fun h => ha h.1)] at hln
      rw [if_neg (by omega), if_pos hlen, hln]; rfl
theorem lower_comes (s : ByteArray) (hs : s.size ≤ 1000000) : Ev (fun n => abutmentref01_Lower.f n s) ⟨(lowL s).toArray⟩ := by
  have := lower_l0 s hs _ 0 rfl (by omega)
  unfold abutmentref01_Lower.f
  simpa [nums] using this
theorem is_comes (a b : ByteArray) (ha : a.size ≤ 1000000) (hb : b.size ≤ 1000000) : Ev (fun n => abutmentref10_Is.f n a b) (foldB a b) := by
  unfold abutmentref10_Is.f
  refine Ev.bind (lower_comes a ha) (Ev.bind (lower_comes b hb) ?_)
  refine Ev.congr (fun n => ?_) (Ev.now _)
  unfold foldB
  congr 1
  rw [Bool.beq_eq_decide_eq]
  refine decide_eq_decide.2 ?_
  rw [ByteArray.toList_eq, ByteArray.toList_eq]
theorem foldB_comm (a b : ByteArray) : foldB a b = foldB b a := by unfold foldB; exact decide_eq_decide.2 eq_comm

/-! ### All -/
theorem all_l0 (l : List S83) (nm : ByteArray) (hl : l.length ≤ 1000000) (hs : ∀ x ∈ l, x.f0.size ≤ 1000000) (hn : nm.size ≤ 1000000) : ∀ (d i : Nat), l.length - i = d → i ≤ l.length →
    Ev (fun n => abutmentref10_All.l0 n l nm (allOf (l.take i) nm) (i : Int)) (allOf l nm) := by
  intro d
  induction d with
  | zero =>
    intro i hd hi
    rw [List.take_of_length_le (by omega)]
    refine Ev.step (f := fun _ => some (allOf l nm)) (fun n => ?_) (Ev.now _)
    simp only [abutmentref10_All.l0]
    rw [if_neg (by omega)]
  | succ d ih =>
    intro i hd hi
    have hil : i < l.length := by omega
    have hlen := allOf_len (l.take i) nm
    rw [List.length_take] at hlen
    have hnext := ih (i + 1) (by omega) (by omega)
    rw [allOf_take l nm i hil] at hnext
    refine Ev.step (f := fun n => (abutmentref10_Is.f n (l[i].f0) nm).bind fun t => if t = true then abutmentref10_All.l0 n l nm (allOf (l.take i) nm ++ [l[i].f1]) ((i + 1 : Nat) : Int) else abutmentref10_All.l0 n l nm (allOf (l.take i) nm) ((i + 1 : Nat) : Int)) (fun n => ?_) (Ev.bind (is_comes _ _ (hs _ (List.getElem_mem _)) hn) ?_)
    · simp only [abutmentref10_All.l0]
      rw [if_pos (by omega), if_pos (by omega), rd_at l i hil, if_pos (by omega), w64 (by omega) (by omega)]; rfl
    · rw [foldB_comm]
      show Ev _ _
      cases hq : isN nm l[i] with
      | true =>
        rw [if_pos hq] at hnext
        refine Ev.congr (fun n => ?_) hnext
        rw [if_pos (show foldB nm l[i].f0 = true from hq)]
      | false =>
        rw [if_neg (by rw [hq]; decide)] at hnext
        refine Ev.congr (fun n => ?_) hnext
        rw [if_neg (by show ¬ isN nm l[i] = true; rw [hq]; decide)]
theorem all_comes (l : List S83) (nm : ByteArray) (hl : l.length ≤ 1000000) (hs : ∀ x ∈ l, x.f0.size ≤ 1000000) (hn : nm.size ≤ 1000000) : Ev (fun n => abutmentref10_All.f n l nm) (allOf l nm) := by
  have := all_l0 l nm hl hs hn _ 0 rfl (by omega)
  unfold abutmentref10_All.f
  simpa [allOf] using this

/-! ### Join -/
theorem joinL_take (l : List ByteArray) (i : Nat) (h : i < l.length) : joinL (l.take (i + 1)) = (if i = 0 then [] else joinL (l.take i) ++ [44, 32]) ++ (l[i]).data.toList := by
  match l, h with
  | x :: xs, h =>
    match i, h with
    | 0, h => simp [joinL, tailJ]
    | i + 1, h =>
      rw [if_neg (by omega), List.take_succ_cons, List.take_succ_cons, joinL, joinL, List.take_succ_eq_append_getElem (show i < xs.length by simpa using h), tailJ_append]
      simp
theorem joinL_len (l : List ByteArray) : (joinL l).length ≤ 2 * l.length + sumL l := by
  cases l with
  | nil => simp [joinL]
  | cons x xs =>
    rw [joinL, List.length_append, tailJ_len, len_data, sumL, List.length_cons]
    omega
theorem mk_append (a b : List UInt8) : (⟨a.toArray⟩ : ByteArray) ++ ⟨b.toArray⟩ = ⟨(a ++ b).toArray⟩ := ByteArray.ext (by rw [ByteArray.data_append]; simp)
theorem mk_data (s : ByteArray) : (⟨s.data.toList.toArray⟩ : ByteArray) = s := by simp
theorem join_l0 (l : List ByteArray) (hl : l.length ≤ 1000000) (hs : sumL l ≤ 1000000000) : ∀ (d i : Nat), l.length - i = d → i ≤ l.length →
    Ev (fun n => abutmentref07_Join.l0 n l ⟨(joinL (l.take i)).toArray⟩ (i : Int)) ⟨(joinL l).toArray⟩ := by
  intro d
  induction d with
  | zero =>
    intro i hd hi
    rw [List.take_of_length_le (by omega)]
    refine Ev.step (f := fun _ => some ⟨(joinL l).toArray⟩) (fun n => ?_) (Ev.now _)
    simp only [abutmentref07_Join.l0]
    rw [if_neg (by omega)]
  | succ d ih =>
    intro i hd hi
    have hil : i < l.length := by omega
    have h1 := joinL_len (l.take i)
    have h2 := sumL_take_le l i
    have h3 := sumL_take l i hil
    have h4 := sumL_take_le l (i + 1)
    rw [List.length_take] at h1
    have hsz : (⟨(joinL (l.take i)).toArray⟩ : ByteArray).size = (joinL (l.take i)).length := by simp [ByteArray.size]
    have hnext := ih (i + 1) (by omega) (by omega)
    rw [joinL_take l i hil, ← mk_append, mk_data] at hnext
    by_cases h0 : i = 0
    · rw [if_pos h0] at hnext
      subst h0
      refine Ev.step (fun n => ?_) hnext
      simp only [abutmentref07_Join.l0]
      rw [if_pos (by omega), if_neg (by omega), if_pos (by omega), rd_str l 0 hil, if_pos (by rw [hsz]; omega), w64 (by omega) (by omega)]
      rfl
    · rw [if_neg h0, ← mk_append] at hnext
      refine Ev.step (fun n => ?_) hnext
      simp only [abutmentref07_Join.l0]
      rw [if_pos (by omega), if_pos (by omega), if_pos (by rw [hsz]; omega), if_pos (by omega), rd_str l i hil, if_pos (by rw [ByteArray.size_append, hsz]; show _ + 2 + _ ≤ _; omega), w64 (by omega) (by omega)]
      rfl
theorem join_comes (l : List ByteArray) (hl : l.length ≤ 1000000) (hs : sumL l ≤ 1000000000) : Ev (fun n => abutmentref07_Join.f n l) ⟨(joinL l).toArray⟩ := by
  have := join_l0 l hl hs _ 0 rfl (by omega)
  unfold abutmentref07_Join.f
  simpa [joinL] using this

/-! ### Same of two lists of texts, of two lists of fields -/
theorem same01_l0 (a b : List ByteArray) (hl : a.length = b.length) (hm : a.length ≤ 1000000) : ∀ (d i : Nat), a.length - i = d → i ≤ a.length → Ev (fun n => abutmentref01_Same.l0 n a b (i : Int)) (decide (a.drop i = b.drop i)) := by
  intro d
  induction d with
  | zero =>
    intro i hd hi
    rw [List.drop_eq_nil_of_le (by omega), List.drop_eq_nil_of_le (by omega), decide_eq_true rfl]
    refine Ev.step (f := fun _ => some true) (fun n => ?_) (Ev.now _)
    simp only [abutmentref01_Same.l0]
    rw [if_neg (by omega)]
  | succ d ih =>
    intro i hd hi
    have hia : i < a.length := by omega
    have hib : i < b.length := by omega
    rw [List.drop_eq_getElem_cons hia, List.drop_eq_getElem_cons hib]
    by_cases he : a[i] = b[i]
    · have e : decide (a[i] :: a.drop (i + 1) = b[i] :: b.drop (i + 1)) = decide (a.drop (i + 1) = b.drop (i + 1)) := decide_eq_decide.2 ⟨fun h => (List.cons.inj h).2, fun h => by rw [he, h]⟩
      rw [e]
      refine Ev.step (f := fun n => abutmentref01_Same.l0 n a b ((i + 1 : Nat) : Int)) (fun n => ?_) (ih (i + 1) (by omega) (by omega))
      simp only [abutmentref01_Same.l0]
      rw [if_pos (by omega), if_pos (by omega), if_pos (by omega), rd_str a i hia, rd_str b i hib, if_pos (by rw [he]), w64 (by omega) (by omega)]; rfl
    · rw [decide_eq_false (fun h => he (List.cons.inj h).1)]
      refine Ev.step (f := fun _ => some false) (fun n => ?_) (Ev.now _)
      simp only [abutmentref01_Same.l0]
      rw [if_pos (by omega), if_pos (by omega), if_pos (by omega), rd_str a i hia, rd_str b i hib, if_neg (fun h => he (toList_inj h))]
theorem same01_comes (a b : List ByteArray) (hm : a.length ≤ 1000000) : Ev (fun n => abutmentref01_Same.f n a b) (decide (a = b)) := by
  unfold abutmentref01_Same.f
  by_cases hl : a.length = b.length
  · have := same01_l0 a b hl hm _ 0 rfl (by omega)
    rw [List.drop_zero, List.drop_zero] at this
    refine Ev.congr (fun n => ?_) this
    rw [if_pos (by omega)]; rfl
  · rw [decide_eq_false (fun h => hl (by rw [h]))]
    refine Ev.congr (fun n => ?_) (Ev.now _)
    rw [if_neg (by omega)]

end Go.Proofs.Ytacglolggaobdab.MH
