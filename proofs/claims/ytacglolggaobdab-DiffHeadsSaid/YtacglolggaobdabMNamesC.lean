/- Plain laws for names: what the reference's Name and Single come to; Fold; the law's own example. -/
import Derived.Test.YtacglolggaobdabMHeaderC
import Derived.Test.YtacglolggaobdabGcanonFields
import Derived.Test.YtacglolggaobdabPAllx5
import Derived.Test.YtacglolggaobdabPAllx5
namespace Go.Proofs.Ytacglolggaobdab.MN
open Go.RowKit Go.Proofs.Ytacglolggaobdab.PAll Go.Proofs.Ytacglolggaobdab.Hn Go.Proofs.Ytacglolggaobdab.CF Go.Proofs.Ytacglolggaobdab.MH Go.Proofs.YtacglolggaobdabW.PrintWords Go.Proofs.YtacglolggaobdabW.PrintLast Go.Proofs.YtacglolggaobdabW.PrintMore
set_option linter.unusedVariables false
set_option linter.unusedSimpArgs false

/-! ### a name's form hangs on its small letters alone -/
theorem nameOf_low {s t : ByteArray} (h : lowL s = lowL t) : nameOf s = nameOf t := by
  have e : ∀ n : ByteArray, foldB n s = foldB n t := fun n => by unfold foldB; rw [h]
  unfold nameOf
  rw [h]
  simp only [e]
theorem low_up (b : Bool) (c : UInt8) : low (PAll.up b (low c)) = low c := by
  have : ∀ n : Fin 256, low (PAll.up true (low (UInt8.ofNat n.1))) = low (UInt8.ofNat n.1) ∧ low (PAll.up false (low (UInt8.ofNat n.1))) = low (UInt8.ofNat n.1) := by decide +kernel
  have h := this ⟨c.toNat, c.toNat_lt⟩
  simp only [UInt8.ofNat_toNat] at h
  cases b
  · exact h.2
  · exact h.1
theorem map_cap : ∀ (l : List UInt8) (b : Bool), (capL b (l.map low)).map low = l.map low
  | [], b => rfl
  | c :: cs, b => by rw [List.map_cons, capL, List.map_cons, low_up, map_cap cs]
theorem low_name (s : ByteArray) : lowL (nameOf s) = lowL s := by
  unfold nameOf
  cases h : specials.find? (fun n => foldB n s) with
  | some n =>
    have := List.find?_some h
    exact of_decide_eq_true this
  | none => exact map_cap s.data.toList true
theorem name_name (s : ByteArray) : nameOf (nameOf s) = nameOf s := nameOf_low (low_name s)
theorem fold_name (s : ByteArray) : foldB (nameOf s) s = true := decide_eq_true (low_name s)
theorem cap_size (s : ByteArray) : (nameOf s).size = s.size := by
  have h := congrArg List.length (low_name s)
  unfold lowL at h
  rw [List.length_map, List.length_map] at h
  rw [size_len, size_len, h]

/-! ### the reference's Name -/
theorem up_nat (b : Bool) (c : UInt8) : ((PAll.up b c).toNat : Int) = if b = true ∧ 97 ≤ c.toNat ∧ c.toNat ≤ 122 then (c.toNat : Int) - 32 else (c.toNat : Int) := by
  unfold PAll.up
  have hc := c.toNat_lt
  by_cases h : b = true ∧ 97 ≤ c.toNat ∧ c.toNat ≤ 122
  · rw [if_pos h, if_pos h, UInt8.toNat_sub]
    simp
    omega
  · rw [if_neg h, if_neg h]
theorem rname_l0 (L : List UInt8) (hL : L.length ≤ 1000000) : ∀ (d i : Nat), L.length - i = d → i ≤ L.length →
    Ev (fun n => abutmentref50_Name.l0 n ⟨L.toArray⟩ (MH.nums ((capL true L).take i)) (i : Int)) ⟨(capL true L).toArray⟩ := by
  have hsz : (⟨L.toArray⟩ : ByteArray).size = L.length := by simp [ByteArray.size]
  intro d
  induction d with
  | zero =>
    intro i hd hi
    rw [List.take_of_length_le (by rw [capL_len]; omega)]
    refine Ev.step (f := fun _ => some (strOfNums (MH.nums (capL true L)))) (fun n => ?_) (by rw [strOf_nums]; exact Ev.now _)
    simp only [abutmentref50_Name.l0]
    rw [if_neg (by omega)]
  | succ d ih =>
    intro i hd hi
    have hil : i < L.length := by omega
    obtain ⟨c, hc⟩ : ∃ c, c = L[i] := ⟨_, rfl⟩
    have hbt : bt (⟨L.toArray⟩ : ByteArray) (i : Int) = (c.toNat : Int) := by rw [bt_nat _ i (by simpa using hil), hc]
    have hlen : (MH.nums ((capL true L).take i)).length < 140737488355328 := by unfold MH.nums; rw [List.length_map, List.length_take]; omega
    have hg := capL_get true L i hil
    rw [← hc] at hg
    have htk : MH.nums ((capL true L).take (i + 1)) = MH.nums ((capL true L).take i) ++ [((PAll.up (flagAt L true i) c).toNat : Int)] := by
      rw [List.take_succ_eq_append_getElem (show i < (capL true L).length by rw [capL_len]; exact hil)]
      rw [List.getElem?_eq_getElem (by rw [capL_len]; exact hil)] at hg
      unfold MH.nums
      rw [List.map_append, Option.some.inj hg]
      rfl
    have hnext := ih (i + 1) (by omega) (by omega)
    rw [htk, up_nat] at hnext
    have hcb := c.toNat_lt
    have hj : ∀ b : Bool, b = decide (flagAt L true i = true ∧ 97 ≤ c.toNat ∧ c.toNat ≤ 122) → Ev (fun n => abutmentref50_Name.j1 n ⟨L.toArray⟩ (MH.nums ((capL true L).take i)) (i : Int) (c.toNat : Int) b) ⟨(capL true L).toArray⟩ := by
      intro b hb
      refine Ev.step (fun n => ?_) hnext
      simp only [abutmentref50_Name.j1]
      rw [w64 (by omega) (by omega), if_pos hlen, if_pos hlen]
      by_cases hx : flagAt L true i = true ∧ 97 ≤ c.toNat ∧ c.toNat ≤ 122
      · rw [hb, decide_eq_true hx, if_pos rfl, if_pos hx, show ((c.toNat : Int) - 32) % 256 = (c.toNat : Int) - 32 by omega]
        rfl
      · rw [hb, decide_eq_false hx, if_neg (by decide), if_neg hx]
        rfl
    by_cases h97 : (c.toNat : Int) ≥ 97
    · by_cases h122 : (c.toNat : Int) ≤ 122
      · by_cases h0 : i = 0
        · refine Ev.step (fun n => ?_) (hj true ?_)
          · simp only [abutmentref50_Name.l0]
            rw [if_pos (by omega), if_pos (by omega), hbt, if_pos h97, if_pos h122, if_pos (by omega)]
          · subst h0
            rw [decide_eq_true]
            exact ⟨rfl, by omega, by omega⟩
        · have hi1 : i - 1 < L.length := by omega
          have hbt1 : bt (⟨L.toArray⟩ : ByteArray) ((i - 1 : Nat) : Int) = (L[i - 1].toNat : Int) := by rw [bt_nat _ (i - 1) (by simpa using hi1)]
          refine Ev.step (fun n => ?_) (hj ((L[i - 1].toNat : Int) == 45) ?_)
          · simp only [abutmentref50_Name.l0]
            rw [if_pos (by omega), if_pos (by omega), hbt, if_pos h97, if_pos h122, if_neg (by omega), w64 (by omega) (by omega), show (i : Int) - 1 = ((i - 1 : Nat) : Int) by omega, if_pos (by omega), if_pos (by omega), hbt1]
          · rw [beq_int]
            refine decide_eq_decide.2 ?_
            obtain ⟨j, rfl⟩ : ∃ j, i = j + 1 := ⟨i - 1, by omega⟩
            have hf : flagAt L true (j + 1) = decide (L[j]? = some 45) := rfl
            rw [hf, List.getElem?_eq_getElem (by omega)]
            simp only [decide_eq_true_eq, Option.some.injEq, Nat.add_sub_cancel]
            constructor
            · intro h
              refine ⟨UInt8.toNat_inj.1 ?_, by omega, by omega⟩
              have : L[j].toNat = 45 := by omega
              exact this
            · rintro ⟨h, _⟩
              rw [h]; rfl
      · refine Ev.step (fun n => ?_) (hj false ?_)
        · simp only [abutmentref50_Name.l0]
          rw [if_pos (by omega), if_pos (by omega), hbt, if_pos h97, if_neg h122]
        · rw [decide_eq_false]
          rintro ⟨_, _, h⟩
          omega
    · refine Ev.step (fun n => ?_) (hj false ?_)
      · simp only [abutmentref50_Name.l0]
        rw [if_pos (by omega), if_pos (by omega), hbt, if_neg h97]
      · rw [decide_eq_false]
        rintro ⟨_, h, _⟩
        omega
theorem toList_mk (L : List UInt8) : (⟨L.toArray⟩ : ByteArray).toList = L := by rw [ByteArray.toList_eq]
theorem rname_comes (s : ByteArray) (hs : s.size ≤ 1000000) : Ev (fun n => abutmentref50_Name.f n s) (nameOf s) := by
  unfold abutmentref50_Name.f
  refine Ev.bind (lower_comes s hs) ?_
  simp only [toList_mk]
  have q0 : foldB ⟨#[69, 84, 97, 103]⟩ s = decide ([101, 116, 97, 103] = lowL s) := rfl
  have q1 : foldB ⟨#[84, 69]⟩ s = decide ([116, 101] = lowL s) := rfl
  have q2 : foldB ⟨#[87, 87, 87, 45, 65, 117, 116, 104, 101, 110, 116, 105, 99, 97, 116, 101]⟩ s = decide ([119, 119, 119, 45, 97, 117, 116, 104, 101, 110, 116, 105, 99, 97, 116, 101] = lowL s) := by unfold foldB; congr 1
  have q3 : foldB ⟨#[68, 78, 84]⟩ s = decide ([100, 110, 116] = lowL s) := rfl
  unfold nameOf
  simp only [specials, List.find?_cons, q0, q1, q2, q3, List.find?_nil]
  by_cases e0 : lowL s = [101, 116, 97, 103]
  · rw [decide_eq_true e0.symm]
    exact Ev.congr (fun n => by rw [if_pos e0]) (Ev.now _)
  · rw [decide_eq_false (fun h => e0 h.symm)]
    by_cases e1 : lowL s = [116, 101]
    · rw [decide_eq_true e1.symm]
      exact Ev.congr (fun n => by rw [if_neg e0, if_pos e1]) (Ev.now _)
    · rw [decide_eq_false (fun h => e1 h.symm)]
      by_cases e2 : lowL s = [119, 119, 119, 45, 97, 117, 116, 104, 101, 110, 116, 105, 99, 97, 116, 101]
      · rw [decide_eq_true e2.symm]
        exact Ev.congr (fun n => by rw [if_neg e0, if_neg e1, if_pos e2]) (Ev.now _)
      · rw [decide_eq_false (fun h => e2 h.symm)]
        by_cases e3 : lowL s = [100, 110, 116]
        · rw [decide_eq_true e3.symm]
          exact Ev.congr (fun n => by rw [if_neg e0, if_neg e1, if_neg e2, if_pos e3]) (Ev.now _)
        · rw [decide_eq_false (fun h => e3 h.symm)]
          have := rname_l0 (lowL s) (by unfold lowL; rw [List.length_map, len_data]; omega) _ 0 rfl (by omega)
          refine Ev.congr (fun n => ?_) this
          rw [if_neg e0, if_neg e1, if_neg e2, if_neg e3]
          rfl
theorem rsingle_comes (s : ByteArray) (hs : s.size ≤ 1000000) : Ev (fun n => abutmentref50_Single.f n s) (singleB s) := by
  unfold abutmentref50_Single.f
  refine Ev.bind (lower_comes s hs) ?_
  simp only [toList_mk]
  have q0 : foldB ⟨#[83, 101, 116, 45, 67, 111, 111, 107, 105, 101]⟩ s = decide ([115, 101, 116, 45, 99, 111, 111, 107, 105, 101] = lowL s) := by unfold foldB; congr 1
  have q1 : foldB ⟨#[87, 87, 87, 45, 65, 117, 116, 104, 101, 110, 116, 105, 99, 97, 116, 101]⟩ s = decide ([119, 119, 119, 45, 97, 117, 116, 104, 101, 110, 116, 105, 99, 97, 116, 101] = lowL s) := by unfold foldB; congr 1
  have q2 : foldB ⟨#[80, 114, 111, 120, 121, 45, 65, 117, 116, 104, 101, 110, 116, 105, 99, 97, 116, 101]⟩ s = decide ([112, 114, 111, 120, 121, 45, 97, 117, 116, 104, 101, 110, 116, 105, 99, 97, 116, 101] = lowL s) := by unfold foldB; congr 1
  unfold singleB
  simp only [singles, List.any_cons, List.any_nil, q0, q1, q2, Bool.or_false]
  by_cases e0 : lowL s = [115, 101, 116, 45, 99, 111, 111, 107, 105, 101]
  · rw [decide_eq_true e0.symm]
    exact Ev.congr (fun n => by rw [if_pos e0]; rfl) (Ev.now _)
  · rw [decide_eq_false (fun h => e0 h.symm)]
    by_cases e1 : lowL s = [119, 119, 119, 45, 97, 117, 116, 104, 101, 110, 116, 105, 99, 97, 116, 101]
    · rw [decide_eq_true e1.symm]
      exact Ev.congr (fun n => by rw [if_neg e0, if_pos e1]; rfl) (Ev.now _)
    · rw [decide_eq_false (fun h => e1 h.symm)]
      refine Ev.congr (fun n => ?_) (Ev.now _)
      rw [if_neg e0, if_neg e1]
      congr 1
      rw [Bool.false_or, Bool.false_or, Bool.eq_iff_iff, beq_iff_eq, decide_eq_true_eq]
      exact eq_comm

end Go.Proofs.Ytacglolggaobdab.MN
