/- Plain laws for fields: slices.Equal, the law's own examples, the reference's Get and Combined. -/
import Derived.Test.YtacglolggaobdaaMHeader
import Derived.Test.YtacglolggaobdaaGheaderWith
import Derived.Test.YtacglolggaobdaaGheaderGet
import Derived.Test.YtacglolggaobdaaPAllx4
import Derived.Test.YtacglolggaobdaaPAllx4
import Derived.Test.YtacglolggaobdaaPAllx4
import Derived.Test.YtacglolggaobdaaPAllx5
import Derived.Test.YtacglolggaobdaaPAllx5
namespace Go.Proofs.Ytacglolggaobdaa.MH
open Go.RowKit Go.Proofs.Ytacglolggaobdaa.PAll Go.Proofs.Ytacglolggaobdaa.Hn Go.Proofs.YtacglolggaobdaaW.PrintWords Go.Proofs.YtacglolggaobdaaW.PrintLast Go.Proofs.YtacglolggaobdaaW.PrintMore
set_option linter.unusedVariables false
set_option linter.unusedSimpArgs false

theorem eq_l0 (a b : List S84) (hl : a.length = b.length) (hm : a.length ≤ 1000000) : ∀ (d i : Nat), a.length - i = d → i ≤ a.length → Ev (fun n => api_Field_97.l0 n a b (a.length : Int) (i : Int)) (decide (a.drop i = b.drop i)) := by
  intro d
  induction d with
  | zero =>
    intro i hd hi
    rw [List.drop_eq_nil_of_le (by omega), List.drop_eq_nil_of_le (by omega), decide_eq_true rfl]
    refine Ev.step (f := fun _ => some true) (fun n => ?_) (Ev.now _)
    simp only [api_Field_97.l0]
    rw [if_neg (by omega)]
  | succ d ih =>
    intro i hd hi
    have hia : i < a.length := by omega
    have hib : i < b.length := by omega
    rw [List.drop_eq_getElem_cons hia, List.drop_eq_getElem_cons hib]
    by_cases he : a[i] = b[i]
    · have e : decide (a[i] :: a.drop (i + 1) = b[i] :: b.drop (i + 1)) = decide (a.drop (i + 1) = b.drop (i + 1)) := decide_eq_decide.2 ⟨fun h => (List.cons.inj h).2, fun h => by rw [he, h]⟩
      rw [e]
      refine Ev.step (f := fun n => api_Field_97.l0 n a b (a.length : Int) ((i + 1 : Nat) : Int)) (fun n => ?_) (ih (i + 1) (by omega) (by omega))
      simp only [api_Field_97.l0]
      rw [if_pos (by omega), if_pos (by omega), if_pos (by omega), if_pos (by omega), rd_at a i hia, rd_at b i hib, ne_field, decide_eq_true he, if_neg (by decide), w64 (by omega) (by omega)]; rfl
    · rw [decide_eq_false (fun h => he (List.cons.inj h).1)]
      refine Ev.step (f := fun _ => some false) (fun n => ?_) (Ev.now _)
      simp only [api_Field_97.l0]
      rw [if_pos (by omega), if_pos (by omega), if_pos (by omega), if_pos (by omega), rd_at a i hia, rd_at b i hib, ne_field, decide_eq_false he, if_pos (by decide)]
theorem eq_comes (a b : List S84) (hm : a.length ≤ 1000000) : Ev (fun n => api_Field_97.f n a b) (decide (a = b)) := by
  unfold api_Field_97.f
  by_cases hl : a.length = b.length
  · have := eq_l0 a b hl hm _ 0 rfl (by omega)
    rw [List.drop_zero, List.drop_zero] at this
    refine Ev.congr (fun n => ?_) this
    rw [if_pos (by omega)]; rfl
  · rw [decide_eq_false (fun h => hl (by rw [h]))]
    refine Ev.congr (fun n => ?_) (Ev.now _)
    rw [if_neg (by omega)]
theorem hsame_comes (a b : List S84) (hm : a.length ≤ 1000000) : Ev (fun n => header_Same.f n a b) (decide (a = b)) := by
  unfold header_Same.f
  exact Ev.bind (eq_comes a b hm) (Ev.now _)
theorem hlives_comes : Ev (fun n => abutmentlaw10_lives.f n) true := by
  have e1 : header_All.f [⟨⟨#[65]⟩, ⟨#[49]⟩⟩, ⟨⟨#[66]⟩, ⟨#[50]⟩⟩, ⟨⟨#[97]⟩, ⟨#[51]⟩⟩] ⟨#[97]⟩ = some [⟨#[49]⟩, ⟨#[51]⟩] := by decide +kernel
  have e2 : lists_Join.f [⟨#[49]⟩, ⟨#[51]⟩] = some ⟨#[49, 44, 32, 51]⟩ := by decide +kernel
  have e3 : header_With.f [] ⟨#[65]⟩ ⟨#[49]⟩ = some [⟨⟨#[65]⟩, ⟨#[49]⟩⟩] := by decide +kernel
  unfold abutmentlaw10_lives.f header_Combined.f
  rw [e1]
  simp only [Option.bind_some]
  rw [e2]
  simp only [Option.bind_some]
  refine Ev.congr (f := fun n => (header_Same.f n [⟨⟨#[65]⟩, ⟨#[49]⟩⟩] [⟨⟨#[65]⟩, ⟨#[49]⟩⟩]).bind fun t => some t) (fun n => ?_) (Ev.bind (hsame_comes _ _ (by decide)) (by rw [decide_eq_true rfl]; exact Ev.now _))
  rw [if_pos (by decide +kernel), if_pos (by decide +kernel), e3]
  rfl

/-! ### Get, Combined -/
theorem find_all (l : List S84) (nm : ByteArray) : getOf l nm = match allOf l nm with | [] => (⟨#[]⟩, false) | v :: _ => (v, true) := by
  unfold getOf allOf
  induction l with
  | nil => rfl
  | cons x xs ih =>
    cases hq : isN nm x with
    | true => simp [List.find?_cons, hq]
    | false => simp only [List.find?_cons, hq, List.filter_cons, Bool.false_eq_true, if_false]; exact ih
theorem rget_comes (l : List S84) (nm : ByteArray) (hl : fewF l) (hn : nm.size ≤ 100) : Ev (fun n => abutmentref10_Get.f n l nm) (getOf l nm) := by
  unfold abutmentref10_Get.f
  refine Ev.bind (all_comes l nm (by have := hl.1; omega) (fun x hx => by have := (hl.2 x hx).1; omega) (by omega)) ?_
  rw [find_all]
  cases h : allOf l nm with
  | nil => exact Ev.congr (fun n => by rw [if_pos (by simp)]) (Ev.now _)
  | cons v vs =>
    refine Ev.congr (fun n => ?_) (Ev.now _)
    rw [if_neg (by simp; omega), if_pos (by simp)]
    rfl
theorem sum_all (l : List S84) (nm : ByteArray) (h : ∀ x ∈ l, x.f1.size ≤ 300) : sumL (allOf l nm) ≤ 300 * l.length := by
  unfold allOf
  induction l with
  | nil => simp [sumL]
  | cons x xs ih =>
    have := ih (fun y hy => h y (List.mem_cons_of_mem _ hy))
    have hx := h x (List.mem_cons_self ..)
    rw [List.filter_cons]
    split
    · rw [List.map_cons, sumL, List.length_cons]; omega
    · rw [List.length_cons]; omega
def combOf (l : List S84) (nm : ByteArray) : ByteArray × Bool := (⟨(joinL (allOf l nm)).toArray⟩, decide (((allOf l nm).length : Int) > 0))
theorem all_small (l : List S84) (nm : ByteArray) (hl : fewF l) : (allOf l nm).length ≤ 40 ∧ sumL (allOf l nm) ≤ 12000 := by
  have h1 := allOf_len l nm
  have h2 := sum_all l nm (fun x hx => (hl.2 x hx).2)
  have := hl.1
  constructor <;> omega
theorem rcomb_comes (l : List S84) (nm : ByteArray) (hl : fewF l) (hn : nm.size ≤ 100) : Ev (fun n => abutmentref10_Combined.f n l nm) (combOf l nm) := by
  unfold abutmentref10_Combined.f
  have hs := all_small l nm hl
  refine Ev.bind (all_comes l nm (by have := hl.1; omega) (fun x hx => by have := (hl.2 x hx).1; omega) (by omega)) ?_
  refine Ev.bind (join_comes _ (by omega) (by omega)) ?_
  exact Ev.now _
theorem all_is (l : List S84) (nm : ByteArray) (hl : fewF l) (hn : nm.size ≤ 100) : header_All.f l nm = some (allOf l nm) := by
  unfold header_All.f
  rw [if_pos ⟨hl.fit, by omega⟩]
theorem get_is (l : List S84) (nm : ByteArray) (hl : fewF l) (hn : nm.size ≤ 100) : header_Get.f l nm = some (getOf l nm) := by
  unfold header_Get.f
  rw [if_pos ⟨hl.fit, by omega⟩]
theorem comb_is (l : List S84) (nm : ByteArray) (hl : fewF l) (hn : nm.size ≤ 100) : header_Combined.f l nm = some (combOf l nm) := by
  have hs := all_small l nm hl
  unfold header_Combined.f lists_Join.f
  rw [all_is l nm hl hn]
  simp only [Option.bind_some]
  rw [if_pos ⟨by omega, by omega⟩]
  rfl
end Go.Proofs.Ytacglolggaobdaa.MH
