/- Plain law: what the reference's Trim comes to. -/
import Derived.Test.YtacglolggaobdabMHeaderC
import Derived.Test.YtacglolggaobdabGcanonFields
import Derived.Test.YtacglolggaobdabPAllx6
namespace Go.Proofs.Ytacglolggaobdab.MF
open Go.RowKit Go.Proofs.Ytacglolggaobdab.PAll Go.Proofs.Ytacglolggaobdab.Hn Go.Proofs.Ytacglolggaobdab.CF Go.Proofs.Ytacglolggaobdab.MH Go.Proofs.YtacglolggaobdabW.PrintWords Go.Proofs.YtacglolggaobdabW.PrintLast Go.Proofs.YtacglolggaobdabW.PrintMore
set_option linter.unusedVariables false
set_option linter.unusedSimpArgs false

theorem mk_size (L : List UInt8) : (⟨L.toArray⟩ : ByteArray).size = L.length := by simp [ByteArray.size]
theorem mk_bt (L : List UInt8) (i : Nat) (h : i < L.length) : bt ⟨L.toArray⟩ (i : Int) = ((L[i]).toNat : Int) := by
  rw [bt_nat ⟨L.toArray⟩ i (by simpa using h)]
theorem mk_take (L : List UInt8) (k : Nat) : (⟨L.toArray⟩ : ByteArray).extract 0 k = ⟨(L.take k).toArray⟩ := by
  refine ByteArray.ext (Array.toList_inj.1 ?_)
  rw [ByteArray.data_extract]
  simp
theorem mk_drop (L : List UInt8) (k n : Nat) (h : L.length ≤ n) : (⟨L.toArray⟩ : ByteArray).extract k n = ⟨(L.drop k).toArray⟩ := by
  refine ByteArray.ext (Array.toList_inj.1 ?_)
  rw [ByteArray.data_extract]
  simp
  rw [List.take_of_length_le (by rw [List.length_drop]; omega)]
theorem isBl_int (c : UInt8) : isBl c = (decide ((c.toNat : Int) = 32) || ((c.toNat : Int) == 9)) := by
  unfold isBl
  congr 1
  · exact decide_eq_decide.2 (by omega)
  · rw [show ((c.toNat : Int) == 9) = decide ((c.toNat : Int) = 9) from rfl]
    exact decide_eq_decide.2 (by omega)

theorem rtrim_l1 : ∀ (m : Nat) (L : List UInt8), L.length = m → L.length ≤ 1000000000 → Ev (fun n => abutmentref01_Trim.l1 n ⟨L.toArray⟩) ⟨((L.reverse.dropWhile isBl).reverse).toArray⟩ := by
  intro m
  induction m with
  | zero =>
    intro L hm _
    obtain rfl : L = [] := List.length_eq_zero_iff.1 hm
    refine Ev.step (f := fun n => abutmentref01_Trim.j3 n ⟨#[]⟩ false) (fun n => ?_) ?_
    · simp only [abutmentref01_Trim.l1]
      rw [if_neg (by rw [mk_size]; simp)]
    · refine Ev.step (f := fun _ => some ⟨#[]⟩) (fun n => ?_) (Ev.now _)
      simp only [abutmentref01_Trim.j3]
      rw [if_neg (by decide)]
  | succ m ih =>
    intro L hm hL
    obtain ⟨I, c, rfl⟩ : ∃ I c, L = I ++ [c] := by
      rcases List.eq_nil_or_concat L with rfl | ⟨I, c, h⟩
      · simp at hm
      · exact ⟨I, c, by rw [h, List.concat_eq_append]⟩
    have hI : I.length = m := by simp at hm; omega
    have hIl : I.length ≤ 1000000000 := by omega
    have hsz : (⟨(I ++ [c]).toArray⟩ : ByteArray).size = I.length + 1 := by rw [mk_size]; simp
    have hbt : bt ⟨(I ++ [c]).toArray⟩ (I.length : Int) = (c.toNat : Int) := by
      rw [mk_bt _ I.length (by simp)]
      simp
    have hw : wrap64 (((⟨(I ++ [c]).toArray⟩ : ByteArray).size : Int) - 1) = (I.length : Int) := by rw [hsz, w64 (by omega) (by omega)]; omega
    refine Ev.step (f := fun n => abutmentref01_Trim.j3 n ⟨(I ++ [c]).toArray⟩ (isBl c)) (fun n => ?_) ?_
    · simp only [abutmentref01_Trim.l1]
      rw [if_pos (by rw [hsz]; omega), hw, if_pos (by omega), if_pos (by rw [hsz]; omega), hbt, isBl_int]
      by_cases h : (c.toNat : Int) = 32
      · rw [if_pos h, decide_eq_true h, Bool.true_or]
      · rw [if_neg h, decide_eq_false h, Bool.false_or]
    · rw [List.reverse_append, List.reverse_singleton, List.singleton_append, List.dropWhile_cons]
      cases hb : isBl c with
      | true =>
        rw [if_pos rfl]
        refine Ev.step (f := fun n => abutmentref01_Trim.l1 n ⟨I.toArray⟩) (fun n => ?_) (ih I hI hIl)
        simp only [abutmentref01_Trim.j3]
        rw [if_pos trivial, hw, if_pos (by omega), if_pos (by rw [hsz]; omega), Int.toNat_natCast, mk_take, List.take_left' rfl]
      | false =>
        rw [if_neg (by decide)]
        refine Ev.step (f := fun _ => some ⟨(I ++ [c]).toArray⟩) (fun n => ?_) ?_
        · simp only [abutmentref01_Trim.j3]
          rw [if_neg (by decide)]
        · rw [List.reverse_cons, List.reverse_reverse]
          exact Ev.now _
theorem rtrim_l0 : ∀ (L : List UInt8), L.length ≤ 1000000000 → Ev (fun n => abutmentref01_Trim.l0 n ⟨L.toArray⟩) ⟨(trimL L).toArray⟩ := by
  intro L
  induction L with
  | nil =>
    intro h
    refine Ev.step (f := fun n => abutmentref01_Trim.j1 n ⟨#[]⟩ false) (fun n => ?_) ?_
    · simp only [abutmentref01_Trim.l0]
      rw [if_neg (by rw [mk_size]; simp)]
    · refine Ev.step (f := fun n => abutmentref01_Trim.l1 n ⟨([] : List UInt8).toArray⟩) (fun n => ?_) (rtrim_l1 _ [] rfl (by simp))
      simp only [abutmentref01_Trim.j1]
      rw [if_neg (by decide)]
  | cons c R ih =>
    intro hL
    have hR : R.length ≤ 1000000000 := by simp at hL; omega
    have hsz : (⟨(c :: R).toArray⟩ : ByteArray).size = R.length + 1 := by rw [mk_size]; simp
    have hbt : bt ⟨(c :: R).toArray⟩ 0 = (c.toNat : Int) := by
      have := mk_bt (c :: R) 0 (by simp)
      simpa using this
    refine Ev.step (f := fun n => abutmentref01_Trim.j1 n ⟨(c :: R).toArray⟩ (isBl c)) (fun n => ?_) ?_
    · simp only [abutmentref01_Trim.l0]
      rw [if_pos (by rw [hsz]; omega), if_pos (by rw [hsz]; omega), hbt, isBl_int]
      by_cases h : (c.toNat : Int) = 32
      · rw [if_pos h, decide_eq_true h, Bool.true_or]
      · rw [if_neg h, decide_eq_false h, Bool.false_or]
    · cases hb : isBl c with
      | true =>
        refine Ev.step (f := fun n => abutmentref01_Trim.l0 n ⟨R.toArray⟩) (fun n => ?_) ?_
        · simp only [abutmentref01_Trim.j1]
          rw [if_pos trivial, if_pos (by rw [hsz]; omega), mk_drop _ _ _ (by rw [hsz]; simp)]; rfl
        · have := ih hR
          unfold trimL at this ⊢
          rw [List.dropWhile_cons, if_pos hb]
          exact this
      | false =>
        refine Ev.step (f := fun n => abutmentref01_Trim.l1 n ⟨(c :: R).toArray⟩) (fun n => ?_) ?_
        · simp only [abutmentref01_Trim.j1]
          rw [if_neg (by decide)]
        · have := rtrim_l1 _ (c :: R) rfl hL
          unfold trimL
          rw [List.dropWhile_cons, if_neg (by rw [hb]; decide)]
          exact this
theorem rtrim_comes (s : ByteArray) (hs : s.size ≤ 1000000000) : Ev (fun n => abutmentref01_Trim.f n s) (trimB s) := by
  have := rtrim_l0 s.data.toList (by rw [← size_len]; exact hs)
  rw [mk_data] at this
  exact this
end Go.Proofs.Ytacglolggaobdab.MF
