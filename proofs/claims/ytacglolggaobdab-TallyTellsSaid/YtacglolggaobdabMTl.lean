/- Plain laws for the Tally statements: what the guard Few and the reference's Lower come to. Picked by wip/mkmtl.py out of MHeaderC. -/
import Derived.Test.YtacglolggaobdabTlHist
import Derived.Test.YtacglolggaobdabHpred
import Derived.Test.YtacglolggaobdabPAllx2
import Derived.Test.YtacglolggaobdabPAllx3
namespace Go.Proofs.Ytacglolggaobdab.MT
open Go.RowKit Go.Proofs.Ytacglolggaobdab.PAll Go.Proofs.Ytacglolggaobdab.Hn Go.Proofs.YtacglolggaobdabW.PrintWords Go.Proofs.YtacglolggaobdabW.PrintLast Go.Proofs.YtacglolggaobdabW.PrintMore
set_option linter.unusedVariables false
set_option linter.unusedSimpArgs false

theorem rd_at (l : List S83) (i : Nat) (h : i < l.length) : rd_T83 l (i : Int) = l[i] := by
  unfold rd_T83
  rw [Int.toNat_natCast, List.getD_eq_getElem?_getD, List.getElem?_eq_getElem h]; rfl
theorem rd49 (l : List S49) (i : Nat) (h : i < l.length) : rd_T49 l (i : Int) = l[i] := by
  unfold rd_T49
  rw [Int.toNat_natCast, List.getD_eq_getElem?_getD, List.getElem?_eq_getElem h]; rfl
theorem w64 {x : Int} (h0 : -9223372036854775808 ≤ x) (h1 : x ≤ 9223372036854775807) : wrap64 x = x := by unfold wrap64; omega
theorem bt_nat (s : ByteArray) (i : Nat) (h : i < s.data.toList.length) : bt s (i : Int) = ((s.data.toList[i]).toNat : Int) := by
  have hs : i < s.size := by simpa using h
  rw [← bt_at s (i : Int) (by simpa using hs)]
  simp only [Int.toNat_natCast]
  rfl
theorem size_len (s : ByteArray) : s.size = s.data.toList.length := by simp
theorem toList_inj {a b : ByteArray} (h : a.toList = b.toList) : a = b := by
  rw [ByteArray.toList_eq, ByteArray.toList_eq] at h
  exact ByteArray.ext (Array.toList_inj.1 h)
theorem toList_iff {a b : ByteArray} : a.toList = b.toList ↔ a = b := ⟨toList_inj, fun h => by rw [h]⟩

/-! ### Few -/
def Small (x : S83) : Prop := x.f0.size ≤ 100 ∧ x.f1.size ≤ 300
instance (x : S83) : Decidable (Small x) := by unfold Small; infer_instance
def fewF (l : List S83) : Prop := l.length ≤ 40 ∧ ∀ x ∈ l, Small x
instance (l : List S83) : Decidable (fewF l) := by unfold fewF; infer_instance
theorem few10_l0 (l : List S83) (hl : l.length ≤ 40) : ∀ (d i : Nat), l.length - i = d → i ≤ l.length → Ev (fun n => abutmentlaw10_Few.l0 n l (l.length : Int) (i : Int)) (decide (∀ x ∈ l.drop i, Small x)) := by
  intro d
  induction d with
  | zero =>
    intro i hd hi
    rw [List.drop_eq_nil_of_le (by omega), decide_eq_true (by simp)]
    refine Ev.step (f := fun _ => some true) (fun n => ?_) (Ev.now _)
    simp only [abutmentlaw10_Few.l0]
    rw [if_neg (by omega)]
  | succ d ih =>
    intro i hd hi
    have hil : i < l.length := by omega
    have hrd := rd_at l i hil
    rw [List.drop_eq_getElem_cons hil]
    by_cases h0 : l[i].f0.size ≤ 100
    · by_cases h1 : l[i].f1.size ≤ 300
      · rw [decide_eq_decide.2 (show (∀ x ∈ l[i] :: l.drop (i + 1), Small x) ↔ (∀ x ∈ l.drop (i + 1), Small x) from ⟨fun h x hx => h x (List.mem_cons_of_mem _ hx), fun h x hx => by
          rcases List.mem_cons.1 hx with rfl | hx
          · exact ⟨h0, h1⟩
          · exact h x hx⟩)]
        refine Ev.step (f := fun n => abutmentlaw10_Few.l0 n l (l.length : Int) ((i + 1 : Nat) : Int)) (fun n => ?_) (ih (i + 1) (by omega) (by omega))
        simp only [abutmentlaw10_Few.l0]
        rw [if_pos (by omega), if_pos (by omega), if_pos (by omega), hrd, if_neg (by omega), if_neg (by omega), w64 (by omega) (by omega)]; rfl
      · rw [decide_eq_false (fun h => h1 (h _ (List.mem_cons_self ..)).2)]
        refine Ev.step (f := fun _ => some false) (fun n => ?_) (Ev.now _)
        simp only [abutmentlaw10_Few.l0]
        rw [if_pos (by omega), if_pos (by omega), if_pos (by omega), hrd, if_neg (by omega), if_pos (by omega)]
    · rw [decide_eq_false (fun h => h0 (h _ (List.mem_cons_self ..)).1)]
      refine Ev.step (f := fun _ => some false) (fun n => ?_) (Ev.now _)
      simp only [abutmentlaw10_Few.l0]
      rw [if_pos (by omega), if_pos (by omega), if_pos (by omega), hrd, if_pos (by omega)]
theorem few10_comes (l : List S83) : Ev (fun n => abutmentlaw10_Few.f n l) (decide (fewF l)) := by
  unfold abutmentlaw10_Few.f
  by_cases hl : l.length ≤ 40
  · refine Ev.congr (f := fun n => abutmentlaw10_Few.l0 n l (l.length : Int) ((0 : Nat) : Int)) (fun n => by rw [if_neg (by omega)]; rfl) ?_
    have := few10_l0 l hl _ 0 rfl (by omega)
    rw [List.drop_zero] at this
    rwa [show decide (fewF l) = decide (∀ x ∈ l, Small x) from decide_eq_decide.2 (by simp [fewF, hl])]
  · rw [decide_eq_false (fun h => hl h.1)]
    exact Ev.congr (fun n => by rw [if_pos (by omega)]) (Ev.now _)
/-! ### Lower, Is -/
def nums (l : List UInt8) : List Int := l.map fun c => (c.toNat : Int)
theorem strOf_nums (l : List UInt8) : strOfNums (nums l) = ⟨l.toArray⟩ := by
  have e : (l.map fun x => (x.toNat : Int)).map (fun n => UInt8.ofNat n.toNat) = l := by
    rw [List.map_map]
    conv => rhs; rw [← List.map_id l]
    refine List.map_congr_left fun x _ => ?_
    simp
  unfold strOfNums nums
  rw [e]
theorem lower_l0 (s : ByteArray) (hs : s.size ≤ 1000000) : ∀ (d i : Nat), s.size - i = d → i ≤ s.size → Ev (fun n => abutmentref01_Lower.l0 n s (nums ((lowL s).take i)) (i : Int)) ⟨(lowL s).toArray⟩ := by
  intro d
  induction d with
  | zero =>
    intro i hd hi
    rw [List.take_of_length_le (by unfold lowL; rw [List.length_map, ← size_len]; omega)]
    refine Ev.step (f := fun _ => some (strOfNums (nums (lowL s)))) (fun n => ?_) (by rw [strOf_nums]; exact Ev.now _)
    simp only [abutmentref01_Lower.l0]
    rw [if_neg (by omega)]
  | succ d ih =>
    intro i hd hi
    have hil : i < s.data.toList.length := by rw [← size_len]; omega
    obtain ⟨c, hc⟩ : ∃ c, c = s.data.toList[i] := ⟨_, rfl⟩
    have hbt : bt s (i : Int) = (c.toNat : Int) := by rw [bt_nat s i hil, hc]
    have hlen : (nums ((lowL s).take i)).length < 140737488355328 := by unfold nums; rw [List.length_map, List.length_take]; omega
    have htk : nums ((lowL s).take (i + 1)) = nums ((lowL s).take i) ++ [((low c).toNat : Int)] := by
      rw [List.take_succ_eq_append_getElem (show i < (lowL s).length by unfold lowL; rw [List.length_map]; exact hil)]
      unfold nums
      simp [lowL, hc]
    have hln := low_nat c
    have h1 := c.toNat_lt
    have hnext := ih (i + 1) (by omega) (by omega)
    rw [htk] at hnext
    refine Ev.step (f := fun n => abutmentref01_Lower.l0 n s (nums ((lowL s).take i) ++ [((low c).toNat : Int)]) ((i + 1 : Nat) : Int)) (fun n => ?_) hnext
    simp only [abutmentref01_Lower.l0]
    rw [if_pos (by omega), if_pos (by omega), hbt, w64 (by omega) (by omega)]
    by_cases ha : 65 ≤ c.toNat
    · by_cases hb : c.toNat ≤ 90
      · rw [if_pos ⟨ha, hb⟩] at hln
        rw [if_pos (by omega), if_pos (by omega), if_pos hlen, hln, show ((c.toNat : Int) + 32) % 256 = (c.toNat : Int) + 32 by omega]; rfl
      · rw [if_neg (fun h => hb h.2)] at hln
        rw [if_pos (by omega), if_neg (by omega), if_pos hlen, hln]; rfl
    · rw [if_neg (fun h => ha h.1)] at hln
      rw [if_neg (by omega), if_pos hlen, hln]; rfl
theorem lower_comes (s : ByteArray) (hs : s.size ≤ 1000000) : Ev (fun n => abutmentref01_Lower.f n s) ⟨(lowL s).toArray⟩ := by
  have := lower_l0 s hs _ 0 rfl (by omega)
  unfold abutmentref01_Lower.f
  simpa [nums] using this
end Go.Proofs.Ytacglolggaobdab.MT
