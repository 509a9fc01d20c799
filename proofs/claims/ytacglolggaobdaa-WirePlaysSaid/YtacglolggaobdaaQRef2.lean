/- The reference's Peek and Take. -/
import Derived.Test.YtacglolggaobdaaQRef
namespace Go.Proofs.Ytacglolggaobdaa.Qu
open Go.RowKit Go.Proofs.YtacglolggaobdaaW.PrintWords Go.Proofs.YtacglolggaobdaaW.PrintLast Go.Proofs.YtacglolggaobdaaW.PrintMore
attribute [local go_sem] max2_int min2_int max_two min_two max_three min_three max_four min_four
set_option linter.unusedVariables false
set_option linter.unusedSimpArgs false

theorem ext_take (q : List UInt8) (k : Nat) : (⟨q.toArray⟩ : ByteArray).extract 0 k = ⟨(q.take k).toArray⟩ := by
  refine ByteArray.ext ?_
  rw [ByteArray.data_extract]
  refine Array.toList_inj.1 ?_
  simp
theorem ext_drop (q : List UInt8) (k n : Nat) (h : q.length ≤ n) : (⟨q.toArray⟩ : ByteArray).extract k n = ⟨(q.drop k).toArray⟩ := by
  refine ByteArray.ext ?_
  rw [ByteArray.data_extract]
  refine Array.toList_inj.1 ?_
  simp only [Array.toList_extract, List.extract_eq_take_drop]
  rw [List.take_of_length_le (by rw [List.length_drop]; show q.length - k ≤ _; omega)]
set_option maxHeartbeats 4000000 in
theorem refpeek (w : World) (b : Nat) (q : List UInt8) (m : Nat) (n : Int) (h : RefQ w b q m) (hq : q.length ≤ 1000000) :
    Calls Try.prog 21 #[.pointer (some ⟨b, 0, none⟩), .int .i64 n] w fun e w' => e = .returned (.string ⟨(q.take n.toNat).toArray⟩) ∧ w = w' := by
  have c0 := h.c0
  have hzs := str_size q
  have he := ext_take q n.toNat
  obtain ⟨z, hz⟩ : ∃ z, z = (⟨q.toArray⟩ : ByteArray) := ⟨_, rfl⟩
  rw [← hz] at c0 hzs he
  have HE := Aside0.mk he
  have HZ := Aside0.mk hz
  clear h he hz
  by_cases h0 : n < 1
  · clear c0 hzs
    go_enter Try.func21, Try.ntmps21
    go_wp2
    go_ret
    exact ⟨by rw [show n.toNat = 0 by omega, List.take_zero]; rfl, rfl⟩
  · by_cases h1 : n > (z.size : Int)
    · have h1' : ¬ n ≤ (z.size : Int) := by omega
      have hzz : z.size = q.length := hzs
      clear hzs
      go_enter Try.func21, Try.ntmps21
      go_wp2
      go_ret
      refine ⟨?_, rfl⟩
      rw [List.take_of_length_le (by omega), ← HZ.out]
      rfl
    · have hzz : z.size ≤ 1000000 := by omega
      clear hzs
      go_enter Try.func21, Try.ntmps21
      go_wp2
      go_ret
      refine ⟨?_, rfl⟩
      rw [← HE.out]
      rfl
set_option maxHeartbeats 4000000 in
theorem reftake (w : World) (b : Nat) (q : List UInt8) (m : Nat) (n : Int) (h : RefQ w b q m) (hq : q.length ≤ 1000000) :
    Calls Try.prog 19 #[.pointer (some ⟨b, 0, none⟩), .int .i64 n] w fun e w' => e = .returned (.string ⟨(q.take n.toNat).toArray⟩) ∧ RefQ w' b (q.drop n.toNat) m ∧ Only w w' (fun x => x = b) := by
  have HP := Aside0.mk (refpeek w b q m n h hq)
  have c0 := h.c0
  have f0 := blk_frozen h 0
  have hzs := str_size q
  have hss := str_size (q.take n.toNat)
  obtain ⟨z, hz⟩ : ∃ z, z = (⟨q.toArray⟩ : ByteArray) := ⟨_, rfl⟩
  obtain ⟨s, hs⟩ : ∃ s, s = (⟨(q.take n.toNat).toArray⟩ : ByteArray) := ⟨_, rfl⟩
  rw [List.length_take] at hss
  have hcut : ∀ W, (Instr.slice 9 (.string z) (some (.int .i64 (s.size : Int))) none none).run Try.prog W = .ok (.string ⟨(q.drop n.toNat).toArray⟩) W := fun W => by
    rw [run_slice_string_l W 9 z Try.underlying9 .i64 _ (by omega) (by rw [hs, hz, hss, hzs]; omega)]
    rw [hz, ext_drop q _ _ (by rw [hzs]; exact Nat.le_refl _), hs, hss, Int.toNat_natCast]
    rcases Nat.le_total n.toNat q.length with h1 | h1
    · rw [Nat.min_eq_left h1]
    · rw [Nat.min_eq_right h1, List.drop_eq_nil_of_le h1, List.drop_eq_nil_of_le (Nat.le_refl _)]
  rw [← hz] at c0
  rw [← hs] at HP ⊢
  have H := Aside0.mk h
  clear h hz hzs hs hss
  go_enter Try.func19, Try.ntmps19
  go_wp2_with (go_at_call 21; refine HP.out.mono ?_; rintro e w' ⟨rfl, rfl⟩)
  go_ret
  refine ⟨rfl, ?_, ?_⟩
  · have := blk_set H.out 0 (.string ⟨(q.drop n.toNat).toArray⟩)
    exact this
  · exact Only.setCell (S := fun x => x = b) (Only.refl w _) (p := ⟨b, 0, none⟩) rfl _
end Go.Proofs.Ytacglolggaobdaa.Qu
