/- Plain laws on fields (out of this session's own texts MHeader, MNames, MTrim, MRef50, those that no reference of chapter 50 takes part in): the guard Few, the references' Same of fields, names, Fold, the order of names; the example of chapter 50. -/
import Derived.Test.YtacglolggaobdabGcanonsorted
import Derived.Test.YtacglolggaobdabPAllx2
import Derived.Test.YtacglolggaobdabPAllx2
import Derived.Test.YtacglolggaobdabPAllx2
import Derived.Test.YtacglolggaobdabPAllx2
import Derived.Test.YtacglolggaobdabPAllx2
namespace Go.Proofs.Ytacglolggaobdab.MC
open Go.RowKit Go.Sort Go.Proofs.Ytacglolggaobdab.PAll Go.Proofs.Ytacglolggaobdab.Hn Go.Proofs.Ytacglolggaobdab.CF Go.Proofs.Ytacglolggaobdab.St Go.Proofs.YtacglolggaobdabW.PrintWords Go.Proofs.YtacglolggaobdabW.PrintLast Go.Proofs.YtacglolggaobdabW.PrintMore
set_option linter.unusedVariables false
set_option linter.unusedSimpArgs false
theorem w64 {x : Int} (h0 : -9223372036854775808 ≤ x) (h1 : x ≤ 9223372036854775807) : wrap64 x = x := by unfold wrap64; omega
theorem bt_nat (s : ByteArray) (i : Nat) (h : i < s.data.toList.length) : bt s (i : Int) = ((s.data.toList[i]).toNat : Int) := by
  have hs : i < s.size := by simpa using h
  rw [← bt_at s (i : Int) (by simpa using hs)]
  simp only [Int.toNat_natCast]
  rfl
theorem size_len (s : ByteArray) : s.size = s.data.toList.length := by simp
theorem toList_inj {a b : ByteArray} (h : a.toList = b.toList) : a = b := by
  rw [ByteArray.toList_eq, ByteArray.toList_eq] at h
  exact ByteArray.ext (Array.toList_inj.1 h)
theorem toList_iff {a b : ByteArray} : a.toList = b.toList ↔ a = b := ⟨toList_inj, fun h => by rw [h]⟩
def Small (x : S83) : Prop := x.f0.size ≤ 100 ∧ x.f1.size ≤ 300
instance (x : S83) : Decidable (Small x) := by unfold Small; infer_instance
def fewF (l : List S83) : Prop := l.length ≤ 40 ∧ ∀ x ∈ l, Small x
instance (l : List S83) : Decidable (fewF l) := by unfold fewF; infer_instance
theorem few10_l0 (l : List S83) (hl : l.length ≤ 40) : ∀ (d i : Nat), l.length - i = d → i ≤ l.length → Ev (fun n => abutmentlaw10_Few.l0 n l (l.length : Int) (i : Int)) (decide (∀ x ∈ l.drop i, Small x)) := by
  intro d
  induction d with
  | zero =>
    intro i hd hi
    rw [List.drop_eq_nil_of_le (by omega), decide_eq_true (by simp)]
    refine Ev.step (f := fun _ => some true) (fun n => ?_) (Ev.now _)
    simp only [abutmentlaw10_Few.l0]
    rw [if_neg (by omega)]
  | succ d ih =>
    intro i hd hi
    have hil : i < l.length := by omega
    have hrd := rd_at l i hil
    rw [List.drop_eq_getElem_cons hil]
    by_cases h0 : l[i].f0.size ≤ 100
    · by_cases h1 : l[i].f1.size ≤ 300
      · rw [decide_eq_decide.2 (show (∀ x ∈ l[i] :: l.drop (i + 1), Small x) ↔ (∀ x ∈ l.drop (i + 1), Small x) from ⟨fun h x hx => h x (List.mem_cons_of_mem _ hx), fun h x hx => by
          rcases List.mem_cons.1 hx with rfl | hx
          · exact ⟨h0, h1⟩
          · exact h x hx⟩)]
        refine Ev.step (f := fun n => abutmentlaw10_Few.l0 n l (l.length : Int) ((i + 1 : Nat) : Int)) (fun n => ?_) (ih (i + 1) (by omega) (by omega))
        simp only [abutmentlaw10_Few.l0]
        rw [if_pos (by omega), if_pos (by omega), if_pos (by omega), hrd, if_neg (by omega), if_neg (by omega), w64 (by omega) (by omega)]; rfl
      · rw [decide_eq_false (fun h => h1 (h _ (List.mem_cons_self ..)).2)]
        refine Ev.step (f := fun _ => some false) (fun n => ?_) (Ev.now _)
        simp only [abutmentlaw10_Few.l0]
        rw [if_pos (by omega), if_pos (by omega), if_pos (by omega), hrd, if_neg (by omega), if_pos (by omega)]
    · rw [decide_eq_false (fun h => h0 (h _ (List.mem_cons_self ..)).1)]
      refine Ev.step (f := fun _ => some false) (fun n => ?_) (Ev.now _)
      simp only [abutmentlaw10_Few.l0]
      rw [if_pos (by omega), if_pos (by omega), if_pos (by omega), hrd, if_pos (by omega)]
theorem few10_comes (l : List S83) : Ev (fun n => abutmentlaw10_Few.f n l) (decide (fewF l)) := by
  unfold abutmentlaw10_Few.f
  by_cases hl : l.length ≤ 40
  · refine Ev.congr (f := fun n => abutmentlaw10_Few.l0 n l (l.length : Int) ((0 : Nat) : Int)) (fun n => by rw [if_neg (by omega)]; rfl) ?_
    have := few10_l0 l hl _ 0 rfl (by omega)
    rw [List.drop_zero] at this
    rwa [show decide (fewF l) = decide (∀ x ∈ l, Small x) from decide_eq_decide.2 (by simp [fewF, hl])]
  · rw [decide_eq_false (fun h => hl h.1)]
    exact Ev.congr (fun n => by rw [if_pos (by omega)]) (Ev.now _)
theorem joinL_take (l : List ByteArray) (i : Nat) (h : i < l.length) : joinL (l.take (i + 1)) = (if i = 0 then [] else joinL (l.take i) ++ [44, 32]) ++ (l[i]).data.toList := by
  match l, h with
  | x :: xs, h =>
    match i, h with
    | 0, h => simp [joinL, tailJ]
    | i + 1, h =>
      rw [if_neg (by omega), List.take_succ_cons, List.take_succ_cons, joinL, joinL, List.take_succ_eq_append_getElem (show i < xs.length by simpa using h), tailJ_append]
      simp
theorem joinL_len (l : List ByteArray) : (joinL l).length ≤ 2 * l.length + sumL l := by
  cases l with
  | nil => simp [joinL]
  | cons x xs =>
    rw [joinL, List.length_append, tailJ_len, len_data, sumL, List.length_cons]
    omega
theorem mk_append (a b : List UInt8) : (⟨a.toArray⟩ : ByteArray) ++ ⟨b.toArray⟩ = ⟨(a ++ b).toArray⟩ := ByteArray.ext (by rw [ByteArray.data_append]; simp)
theorem mk_data (s : ByteArray) : (⟨s.data.toList.toArray⟩ : ByteArray) = s := by simp
def pr (x : S83) : ByteArray × ByteArray := (x.f0, x.f1)
theorem pr_inj {x y : S83} (h : pr x = pr y) : x = y := by
  cases x; cases y
  obtain ⟨h1, h2⟩ := Prod.mk.inj h
  simp_all
instance : DecidableEq (S83) := fun x y => if h : pr x = pr y then .isTrue (pr_inj h) else .isFalse (fun e => h (by rw [e]))
theorem ne_field (x y : S83) : ((!(x.f0.toList == y.f0.toList)) || (!(x.f1.toList == y.f1.toList))) = !decide (x = y) := by
  by_cases h : x = y
  · subst h; simp
  · rw [decide_eq_false h]
    simp only [Bool.not_false, Bool.or_eq_true, Bool.not_eq_true', beq_eq_false_iff_ne]
    by_cases h0 : x.f0 = y.f0
    · right
      intro h1
      exact h (pr_inj (by unfold pr; rw [h0, toList_inj h1]))
    · exact Or.inl (fun h1 => h0 (toList_inj h1))
theorem same09_l0 (a b : List S83) (hl : a.length = b.length) (hm : a.length ≤ 1000000) : ∀ (d i : Nat), a.length - i = d → i ≤ a.length → Ev (fun n => abutmentref09_Same.l0 n a b (i : Int)) (decide (a.drop i = b.drop i)) := by
  intro d
  induction d with
  | zero =>
    intro i hd hi
    rw [List.drop_eq_nil_of_le (by omega), List.drop_eq_nil_of_le (by omega), decide_eq_true rfl]
    refine Ev.step (f := fun _ => some true) (fun n => ?_) (Ev.now _)
    simp only [abutmentref09_Same.l0]
    rw [if_neg (by omega)]
  | succ d ih =>
    intro i hd hi
    have hia : i < a.length := by omega
    have hib : i < b.length := by omega
    rw [List.drop_eq_getElem_cons hia, List.drop_eq_getElem_cons hib]
    by_cases he : a[i] = b[i]
    · have e : decide (a[i] :: a.drop (i + 1) = b[i] :: b.drop (i + 1)) = decide (a.drop (i + 1) = b.drop (i + 1)) := decide_eq_decide.2 ⟨fun h => (List.cons.inj h).2, fun h => by rw [he, h]⟩
      rw [e]
      refine Ev.step (f := fun n => abutmentref09_Same.l0 n a b ((i + 1 : Nat) : Int)) (fun n => ?_) (ih (i + 1) (by omega) (by omega))
      simp only [abutmentref09_Same.l0]
      rw [if_pos (by omega), if_pos (by omega), if_pos (by omega), rd_at a i hia, rd_at b i hib, ne_field, decide_eq_true he, if_neg (by decide), w64 (by omega) (by omega)]; rfl
    · rw [decide_eq_false (fun h => he (List.cons.inj h).1)]
      refine Ev.step (f := fun _ => some false) (fun n => ?_) (Ev.now _)
      simp only [abutmentref09_Same.l0]
      rw [if_pos (by omega), if_pos (by omega), if_pos (by omega), rd_at a i hia, rd_at b i hib, ne_field, decide_eq_false he, if_pos (by decide)]
theorem same09_comes (a b : List S83) (hm : a.length ≤ 1000000) : Ev (fun n => abutmentref09_Same.f n a b) (decide (a = b)) := by
  unfold abutmentref09_Same.f
  by_cases hl : a.length = b.length
  · have := same09_l0 a b hl hm _ 0 rfl (by omega)
    rw [List.drop_zero, List.drop_zero] at this
    refine Ev.congr (fun n => ?_) this
    rw [if_pos (by omega)]; rfl
  · rw [decide_eq_false (fun h => hl (by rw [h]))]
    refine Ev.congr (fun n => ?_) (Ev.now _)
    rw [if_neg (by omega)]
theorem nameOf_low {s t : ByteArray} (h : lowL s = lowL t) : nameOf s = nameOf t := by
  have e : ∀ n : ByteArray, foldB n s = foldB n t := fun n => by unfold foldB; rw [h]
  unfold nameOf
  rw [h]
  simp only [e]
theorem low_up (b : Bool) (c : UInt8) : low (PAll.up b (low c)) = low c := by
  have : ∀ n : Fin 256, low (PAll.up true (low (UInt8.ofNat n.1))) = low (UInt8.ofNat n.1) ∧ low (PAll.up false (low (UInt8.ofNat n.1))) = low (UInt8.ofNat n.1) := by decide +kernel
  have h := this ⟨c.toNat, c.toNat_lt⟩
  simp only [UInt8.ofNat_toNat] at h
  cases b
  · exact h.2
  · exact h.1
theorem map_cap : ∀ (l : List UInt8) (b : Bool), (capL b (l.map low)).map low = l.map low
  | [], b => rfl
  | c :: cs, b => by rw [List.map_cons, capL, List.map_cons, low_up, map_cap cs]
theorem low_name (s : ByteArray) : lowL (nameOf s) = lowL s := by
  unfold nameOf
  cases h : specials.find? (fun n => foldB n s) with
  | some n =>
    have := List.find?_some h
    exact of_decide_eq_true this
  | none => exact map_cap s.data.toList true
theorem name_name (s : ByteArray) : nameOf (nameOf s) = nameOf s := nameOf_low (low_name s)
theorem cap_size (s : ByteArray) : (nameOf s).size = s.size := by
  have h := congrArg List.length (low_name s)
  unfold lowL at h
  rw [List.length_map, List.length_map] at h
  rw [size_len, size_len, h]
theorem lower_is (c : UInt8) : octet_lower.f (c.toNat : Int) = some ((low c).toNat : Int) := by
  have : ∀ n : Fin 256, octet_lower.f (n.1 : Int) = some ((low (UInt8.ofNat n.1)).toNat : Int) := by decide +kernel
  have h := this ⟨c.toNat, c.toNat_lt⟩
  simpa using h
theorem fold_l0 (a b : ByteArray) (hl : a.size = b.size) (hs : a.size ≤ 1000000) : ∀ (d i : Nat), a.size - i = d → i ≤ a.size → Ev (fun n => octet_Fold.l0 n a b (a.size : Int) (i : Int)) (decide ((lowL a).drop i = (lowL b).drop i)) := by
  have hla : (lowL a).length = a.size := by unfold lowL; rw [List.length_map, len_data]
  have hlb : (lowL b).length = b.size := by unfold lowL; rw [List.length_map, len_data]
  intro d
  induction d with
  | zero =>
    intro i hd hi
    rw [List.drop_eq_nil_of_le (by omega), List.drop_eq_nil_of_le (by omega), decide_eq_true rfl]
    refine Ev.step (f := fun _ => some true) (fun n => ?_) (Ev.now _)
    simp only [octet_Fold.l0]
    rw [if_neg (by omega)]
  | succ d ih =>
    intro i hd hi
    have hia : i < a.data.toList.length := by rw [len_data]; omega
    have hib : i < b.data.toList.length := by rw [len_data]; omega
    have ha : (lowL a)[i]'(by omega) = low (a.data.toList[i]) := by simp [lowL]
    have hb : (lowL b)[i]'(by omega) = low (b.data.toList[i]) := by simp [lowL]
    rw [List.drop_eq_getElem_cons (show i < (lowL a).length by omega), List.drop_eq_getElem_cons (show i < (lowL b).length by omega), ha, hb]
    by_cases he : low (a.data.toList[i]) = low (b.data.toList[i])
    · rw [show decide (low (a.data.toList[i]) :: (lowL a).drop (i + 1) = low (b.data.toList[i]) :: (lowL b).drop (i + 1)) = decide ((lowL a).drop (i + 1) = (lowL b).drop (i + 1)) from decide_eq_decide.2 ⟨fun h => (List.cons.inj h).2, fun h => by rw [he, h]⟩]
      refine Ev.step (f := fun n => octet_Fold.l0 n a b (a.size : Int) ((i + 1 : Nat) : Int)) (fun n => ?_) (ih (i + 1) (by omega) (by omega))
      simp only [octet_Fold.l0]
      rw [if_pos (by omega), if_pos (by omega), if_pos (by omega), bt_nat a i hia, lower_is, Option.bind_some, if_pos (by omega), bt_nat b i hib, lower_is, Option.bind_some, if_pos (by rw [he]), w64 (by omega) (by omega)]
      rfl
    · rw [decide_eq_false (fun h => he (List.cons.inj h).1)]
      refine Ev.step (f := fun _ => some false) (fun n => ?_) (Ev.now _)
      simp only [octet_Fold.l0]
      rw [if_pos (by omega), if_pos (by omega), if_pos (by omega), bt_nat a i hia, lower_is, Option.bind_some, if_pos (by omega), bt_nat b i hib, lower_is, Option.bind_some, if_neg (fun h => he (UInt8.toNat_inj.1 (Int.ofNat_inj.1 h)))]
theorem fold_comes (a b : ByteArray) (hs : a.size ≤ 1000000) : Ev (fun n => octet_Fold.f n a b) (foldB a b) := by
  unfold octet_Fold.f foldB
  by_cases hl : a.size = b.size
  · have := fold_l0 a b hl hs _ 0 rfl (by omega)
    rw [List.drop_zero, List.drop_zero] at this
    refine Ev.congr (fun n => ?_) this
    rw [if_pos (by omega)]; rfl
  · rw [decide_eq_false (fun h => hl (by
      have := congrArg List.length h
      unfold lowL at this
      rwa [List.length_map, List.length_map, len_data, len_data] at this))]
    refine Ev.congr (fun n => ?_) (Ev.now _)
    rw [if_neg (by omega)]
theorem clives_comes : Ev (fun n => abutmentlaw50_lives.f n) true := by
  have e1 : canon_Fields.f [⟨⟨#[97]⟩, ⟨#[49]⟩⟩, ⟨⟨#[66]⟩, ⟨#[50]⟩⟩, ⟨⟨#[65]⟩, ⟨#[51]⟩⟩] = some [⟨⟨#[65]⟩, ⟨#[49, 44, 32, 51]⟩⟩, ⟨⟨#[66]⟩, ⟨#[50]⟩⟩] := by decide +kernel
  have e2 : canon_Name.f ⟨#[99, 111, 110, 116, 101, 110, 116, 45, 108, 101, 110, 103, 116, 104]⟩ = some ⟨#[67, 111, 110, 116, 101, 110, 116, 45, 76, 101, 110, 103, 116, 104]⟩ := by decide +kernel
  unfold abutmentlaw50_lives.f
  rw [e1]
  simp only [Option.bind_some]
  rw [e2]
  simp only [Option.bind_some]
  refine Ev.congr (fun n => ?_) (Ev.bind (same09_comes [⟨⟨#[65]⟩, ⟨#[49, 44, 32, 51]⟩⟩, ⟨⟨#[66]⟩, ⟨#[50]⟩⟩] [⟨⟨#[65]⟩, ⟨#[49, 44, 32, 51]⟩⟩, ⟨⟨#[66]⟩, ⟨#[50]⟩⟩] (by decide)) (by rw [decide_eq_true rfl]; exact Ev.now _))
  rw [if_pos (by decide +kernel)]
theorem mk_size (L : List UInt8) : (⟨L.toArray⟩ : ByteArray).size = L.length := by simp [ByteArray.size]
theorem eq76_l0 (a b : List S83) (hl : a.length = b.length) (hm : a.length ≤ 1640) : ∀ (d i : Nat), a.length - i = d → i ≤ a.length → Ev (fun n => api_Field_76.l0 n a b (a.length : Int) (i : Int)) (decide (a.drop i = b.drop i)) := by
  intro d
  induction d with
  | zero =>
    intro i hd hi
    rw [List.drop_eq_nil_of_le (by omega), List.drop_eq_nil_of_le (by omega), decide_eq_true rfl]
    refine Ev.step (f := fun _ => some true) (fun n => ?_) (Ev.now _)
    simp only [api_Field_76.l0]
    rw [if_neg (by omega)]
  | succ d ih =>
    intro i hd hi
    have hia : i < a.length := by omega
    have hib : i < b.length := by omega
    have hnext := ih (i + 1) (by omega) (by omega)
    rw [List.drop_eq_getElem_cons hia, List.drop_eq_getElem_cons hib]
    by_cases he : a[i] = b[i]
    · rw [show decide (a[i] :: a.drop (i + 1) = b[i] :: b.drop (i + 1)) = decide (a.drop (i + 1) = b.drop (i + 1)) from decide_eq_decide.2 ⟨fun h => (List.cons.inj h).2, fun h => by rw [he, h]⟩]
      refine Ev.step (f := fun n => api_Field_76.l0 n a b (a.length : Int) ((i + 1 : Nat) : Int)) (fun n => ?_) hnext
      simp only [api_Field_76.l0]
      rw [if_pos (by omega), if_pos (by omega), if_pos (by omega), if_pos (by omega), rd_at a i hia, rd_at b i hib, ne_field, decide_eq_true he, if_neg (by decide), w64 (by omega) (by omega)]; rfl
    · rw [decide_eq_false (fun h => he (List.cons.inj h).1)]
      refine Ev.step (f := fun _ => some false) (fun n => ?_) (Ev.now _)
      simp only [api_Field_76.l0]
      rw [if_pos (by omega), if_pos (by omega), if_pos (by omega), if_pos (by omega), rd_at a i hia, rd_at b i hib, ne_field, decide_eq_false he, if_pos (by decide)]
theorem eq76_comes (a b : List S83) (hm : a.length ≤ 1640) : Ev (fun n => api_Field_76.f n a b) (decide (a = b)) := by
  unfold api_Field_76.f
  by_cases hl : a.length = b.length
  · have := eq76_l0 a b hl hm _ 0 rfl (by omega)
    rw [List.drop_zero, List.drop_zero] at this
    refine Ev.congr (fun n => ?_) this
    rw [if_pos (by omega)]; rfl
  · rw [decide_eq_false (fun h => hl (by rw [h]))]
    refine Ev.congr (fun n => ?_) (Ev.now _)
    rw [if_neg (by omega)]
end Go.Proofs.Ytacglolggaobdab.MC
