/- queue.New; the reference's Put. -/
import Derived.Test.YtacglolggaobdaaQPeek
import Derived.Laws.MakeOwn
import Derived.Deep.OwnRows
namespace Go.Proofs.Ytacglolggaobdaa.Qu
open Go.RowKit Go.Proofs.YtacglolggaobdaaW.PrintWords Go.Proofs.YtacglolggaobdaaW.PrintLast Go.Proofs.YtacglolggaobdaaW.PrintMore
attribute [local go_sem] max2_int min2_int max_two min_two max_three min_three max_four min_four
set_option linter.unusedVariables false
set_option linter.unusedSimpArgs false

set_option maxHeartbeats 4000000 in
theorem new_bad (w : World) (n : Int) (h : n < 0 ∨ 65536 < n) : Calls Try.prog 14 #[.int .i64 n] w fun e w' => e = .returned (.pointer none) ∧ w = w' := by
  rcases h with h | h
  · go_enter Try.func14, Try.ntmps14
    go_wp2
    go_ret
    exact ⟨rfl, rfl⟩
  · have h0 : ¬ n < 0 := by omega
    go_enter Try.func14, Try.ntmps14
    go_wp2
    go_ret
    exact ⟨rfl, rfl⟩

theorem make_octets (W : World) (n : Nat) (hn : n ≤ 65536) : (Instr.makeSlice 35 (.int .i64 (n : Int)) (.int .i64 (n : Int))).run Try.prog W = .ok (.slice (some ⟨W.heap.size, 0, none⟩) n n) (W.alloc (.cells (bv (List.replicate n 0)).toArray 5)) := by
  obtain ⟨i0, hi, hz0, hz1, hz2⟩ := info_parts info5
  have hr := run_make (P := Try.prog) W 35 5 i0 _ Try.underlying35 hi hz0 .i64 .i64 (n : Int) (n : Int) (by omega) (by omega) (by rw [hz2]; omega) (by omega)
  rw [hr, Int.toNat_natCast, hz1]
  have e : madeCells (.int .u8 0 : Value).cells (n * 1) = (bv (List.replicate n 0)).toArray := by
    refine Array.toList_inj.1 ?_
    rw [Nat.mul_one]
    refine List.ext_getElem ?_ ?_
    · simp [size_madeCells, bv]
    · intro i h1 h2
      simp [madeCells, bv, Value.cells, Nat.mod_one]
  rw [← e]
def NewQ (w : World) (n : Nat) (e : Ending) (w' : World) : Prop := ∃ g r, e = .returned (.pointer (some ⟨g, 0, none⟩)) ∧ w.heap.size ≤ g ∧ w.heap.size ≤ r ∧ IsQ w' g r n [] ∧ Below w.heap.size w w'
set_option maxHeartbeats 4000000 in
theorem new_ok (w : World) (n : Nat) (h : n ≤ 65536) : Calls Try.prog 14 #[.int .i64 (n : Int)] w (NewQ w n) := by
  have h0 : ¬ (n : Int) < 0 := by omega
  have h1 : ¬ (n : Int) > 65536 := by omega
  have hmk : (Instr.makeSlice 35 (.int .i64 (n : Int)) (.int .i64 (n : Int))).run Try.prog w = .ok (.slice (some ⟨w.heap.size, 0, none⟩) n n) (w.alloc (.cells (bv (List.replicate n 0)).toArray 5)) := make_octets w n h
  obtain ⟨w1, hw1⟩ : ∃ w1, w1 = w.alloc (.cells (bv (List.replicate n 0)).toArray 5) := ⟨_, rfl⟩
  rw [← hw1] at hmk
  have HW := Aside0.mk hw1
  clear hw1
  go_enter Try.func14, Try.ntmps14
  go_wp2
  go_ret
  have hb1 : Below w.heap.size w w1 := by rw [HW.out]; exact (Below.refl _ _).alloc (Nat.le_refl _) _
  have hs1 : w1.heap.size = w.heap.size + 1 := by rw [HW.out]; simp [World.size_alloc]
  have hrow : Row w1 w.heap.size (List.replicate n 0) := by rw [HW.out]; exact heap_alloc_new w _
  refine ⟨w1.heap.size, w.heap.size, rfl, by omega, Nat.le_refl _, ⟨List.replicate n 0, 0, List.length_replicate, ?_, ?_, ?_, ?_, ?_, ?_, Ring.nil _ _⟩, hb1.alloc (by omega) _⟩
  · rw [List.length_replicate]
    exact heap_alloc_new w1 _
  · exact (Below.heap_alloc _ _ _ (by omega)).trans hrow
  · simp
  · omega
  · intro h; exact h
  · simpa using h

/-- the reference's queue -/
def RefQ (w : World) (b : Nat) (q : List UInt8) (m : Nat) : Prop := w.heap[b]? = some (.cells #[.string ⟨q.toArray⟩, .int .i64 (m : Int)] 28 (0, 0))
theorem RefQ.c0 {w : World} {b : Nat} {q : List UInt8} {m : Nat} (h : RefQ w b q m) : w.cell? ⟨b, 0, none⟩ = some (.string ⟨q.toArray⟩) := (blk_cell h 0).trans rfl
theorem RefQ.c1 {w : World} {b : Nat} {q : List UInt8} {m : Nat} (h : RefQ w b q m) : w.cell? ⟨b, 1, none⟩ = some (.int .i64 (m : Int)) := (blk_cell h 1).trans rfl

set_option maxHeartbeats 8000000 in
set_option maxRecDepth 100000 in
theorem refput (w : World) (b : Nat) (q : List UInt8) (m k : Nat) (s : ByteArray) (h : RefQ w b q m) (hs : s.size ≤ 1000000) (hq : q.length ≤ 1000000) (hm : m ≤ 1000000) (hk : k = min s.size (m - q.length)) :
    Calls Try.prog 17 #[.pointer (some ⟨b, 0, none⟩), .string s] w fun e w' => e = .returned (.int .i64 (k : Int)) ∧ RefQ w' b (q ++ s.data.toList.take k) m ∧ Only w w' (fun x => x = b) := by
  have HR := Aside0.mk h
  have HK := Aside0.mk hk
  have hk1 : k ≤ s.size := by omega
  have hk2 : k + q.length ≤ m ∨ k = 0 := by omega
  have hk3 : k < s.size → m ≤ q.length + k := by omega
  clear h hk
  go_enter Try.func17, Try.ntmps17
  go_wp2
  go_loopw [5] (fun v5 wr => ∃ i : Nat, v5 = .int .i64 (i : Int) ∧ Aside0 (i ≤ k ∧ RefQ wr b (q ++ s.data.toList.take i) m ∧ Only w wr (fun x => x = b))) (fun v5 _ => k - (intOf v5).toNat)
  case atStart => exact ⟨0, rfl, ⟨by omega, by simpa using HR.out, Only.refl _ _⟩⟩
  case round =>
    obtain ⟨i, rfl, HA⟩ := hrel
    obtain ⟨hi, hr, ho⟩ := HA.out
    clear HA
    have c0 := hr.c0
    have c1 := hr.c1
    have f0 := blk_frozen hr 0
    obtain ⟨z, hz⟩ : ∃ z, z = (⟨(q ++ s.data.toList.take i).toArray⟩ : ByteArray) := ⟨_, rfl⟩
    have hzs : z.size = q.length + i := by rw [hz, str_size, List.length_append, List.length_take, data_length]; omega
    rw [← hz] at c0
    have HZ := Aside0.mk hz
    have HR1 := Aside0.mk hr
    have HO := Aside0.mk ho
    clear hz hr ho
    by_cases hlt : i < k
    · have hs1 : i < s.size := by omega
      have hs2 : z.size < m := by omega
      go_wp2_with fail
      have hext : z ++ s.extract i (i + 1) = ⟨(q ++ s.data.toList.take (i + 1)).toArray⟩ := by
        rw [HZ.out, List.take_succ_eq_append_getElem (by rw [data_length]; omega)]
        refine ByteArray.ext ?_
        rw [ByteArray.data_append, ByteArray.data_extract]
        refine Array.toList_inj.1 ?_
        simp only [Array.toList_append, Array.toList_extract, List.extract_eq_take_drop, ← List.append_assoc]
        rw [show i + 1 - i = 1 by omega, List.drop_eq_getElem_cons (by rw [data_length]; omega)]
        rfl
      obtain ⟨e1, he1⟩ : ∃ e1, e1 = s.extract i (i + 1) := ⟨_, rfl⟩
      have hsl : ∀ W, (Instr.slice 9 (.string s) (some (.int .i64 (i : Int))) (some (.int .i64 ((i : Int) + 1))) none).run Try.prog W = .ok (.string e1) W := fun W => by
        rw [run_slice_string W 9 s .i64 .i64 (i : Int) ((i : Int) + 1) Try.underlying9 (by omega) (by omega) (by omega), he1]
        rfl
      have hes : e1.size = 1 := by rw [he1, ByteArray.size_extract]; omega
      have hz : z.size + e1.size ≤ 2000001 := by omega
      rw [← he1] at hext
      have hcat : ∀ W, (Op.stringOp .add z e1).run Try.prog W = .ok (.string (z ++ e1)) W := fun W => run_string_add_sum W z e1 (by omega)
      have HX := Aside0.mk hext
      clear hext hes hzs he1
      go_wp2_with fail
      go_quiet (fail)
      go_wp2_with fail
      generalize hw2 : wr.drewN nq = w2
      have hr2 : RefQ w2 b (q ++ s.data.toList.take i) m := by rw [← hw2]; exact HR1.out
      have ho2 : Only w w2 (fun x => x = b) := by rw [← hw2]; exact HO.out.drewN nq
      have c02 := hr2.c0
      rw [← HZ.out] at c02
      have f02 := blk_frozen hr2 0
      have HR2 := Aside0.mk hr2
      have HO2 := Aside0.mk ho2
      clear hr2 ho2 hw2 c0 c1 f0
      have hwi : IntKind.i64.wrap ((i : Int) + 1) = (i : Int) + 1 := IntWalk.i64_in _ (by omega)
      go_still_tail 13, (by kernel_rfl)
      clear hwi
      go_wp2
      go_roundw
      case rel =>
        refine ⟨i + 1, by go_num, ⟨by omega, ?_, ?_⟩⟩
        · have := blk_set HR2.out 0 (.string (z ++ e1))
          rw [HX.out] at this ⊢
          exact this
        · exact Only.drew (HO2.out.setCell (p := ⟨b, 0, none⟩) rfl _)
      case measure => simp [intOf]; omega
    · obtain rfl : i = k := by omega
      go_wp2_with fail
      by_cases hs1 : i < s.size
      · have hs2 : ¬ z.size < m := by omega
        go_quiet (fail)
        go_wp2
        go_ret
        exact ⟨rfl, HR1.out, HO.out.drewN _⟩
      · go_quiet (fail)
        go_wp2
        go_ret
        exact ⟨rfl, HR1.out, HO.out.drewN _⟩
end Go.Proofs.Ytacglolggaobdaa.Qu
