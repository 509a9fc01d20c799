/- The reference's link in the midst of a desk (its cells 6 to 10): Give, Use, Write, Take. -/
import Derived.Test.YtacglolggaobdaaLRef
namespace Go.Proofs.Ytacglolggaobdaa.Qu
open Go.RowKit Go.Proofs.YtacglolggaobdaaW.PrintWords Go.Proofs.YtacglolggaobdaaW.PrintLast Go.Proofs.YtacglolggaobdaaW.PrintMore
attribute [local go_sem] max2_int min2_int max_two min_two max_three min_three max_four min_four
set_option linter.unusedVariables false
set_option linter.unusedSimpArgs false

/-- what stands ahead of it in the desk -/
structure Pre where
  x0 : Value
  x1 : Value
  x2 : Value
  x3 : Value
  x4 : Value
  x5 : Value
def RefD (w : World) (b : Nat) (a : Pre) (v : LV) : Prop := w.heap[b]? = some (.cells #[a.x0, a.x1, a.x2, a.x3, a.x4, a.x5, .string (st v.I), .string (st v.Out), .int .i64 (v.m : Int), .bool v.e, .bool v.s] 62 (0, 0))
theorem RefD.c0 {w : World} {b : Nat} {a : Pre} {v : LV} (h : RefD w b a v) : w.cell? ⟨b, 6, none⟩ = some (.string (st v.I)) := (blk_cell h 6).trans rfl
theorem RefD.c1 {w : World} {b : Nat} {a : Pre} {v : LV} (h : RefD w b a v) : w.cell? ⟨b, 7, none⟩ = some (.string (st v.Out)) := (blk_cell h 7).trans rfl
theorem RefD.c2 {w : World} {b : Nat} {a : Pre} {v : LV} (h : RefD w b a v) : w.cell? ⟨b, 8, none⟩ = some (.int .i64 (v.m : Int)) := (blk_cell h 8).trans rfl
theorem RefD.c3 {w : World} {b : Nat} {a : Pre} {v : LV} (h : RefD w b a v) : w.cell? ⟨b, 9, none⟩ = some (.bool v.e) := (blk_cell h 9).trans rfl
theorem RefD.c4 {w : World} {b : Nat} {a : Pre} {v : LV} (h : RefD w b a v) : w.cell? ⟨b, 10, none⟩ = some (.bool v.s) := (blk_cell h 10).trans rfl
theorem RefD.setI {w : World} {b : Nat} {a : Pre} {v : LV} (h : RefD w b a v) (I : List UInt8) : RefD (w.setCell ⟨b, 6, none⟩ (.string (st I))) b a { v with I := I } := blk_set h 6 _
theorem RefD.setOut {w : World} {b : Nat} {a : Pre} {v : LV} (h : RefD w b a v) (I : List UInt8) : RefD (w.setCell ⟨b, 7, none⟩ (.string (st I))) b a { v with Out := I } := blk_set h 7 _
theorem RefD.setE {w : World} {b : Nat} {a : Pre} {v : LV} (h : RefD w b a v) (x : Bool) : RefD (w.setCell ⟨b, 9, none⟩ (.bool x)) b a { v with e := x } := blk_set h 9 _
theorem RefD.setS {w : World} {b : Nat} {a : Pre} {v : LV} (h : RefD w b a v) (x : Bool) : RefD (w.setCell ⟨b, 10, none⟩ (.bool x)) b a { v with s := x } := blk_set h 10 _
set_option maxHeartbeats 4000000 in
set_option maxRecDepth 100000 in
theorem dgive {w : World} {b : Nat} {a : Pre} {v : LV} (h : RefD w b a v) (t : ByteArray) (ht : t.size ≤ 1000000) (hI : v.I.length ≤ v.m) (hm : v.m ≤ 65536) : Calls Try.prog 73 #[.pointer (some ⟨b, 6, none⟩), .string t] w fun x w' => x = .returned (.int .i64 (v.give t : Int)) ∧ RefD w' b a { v with I := v.I ++ t.data.toList.take (v.give t) } ∧ Only w w' (fun x => x = b) := by
  obtain ⟨m, I, Out, e, s⟩ := v
  have c3 := h.c3
  have c4 := h.c4
  simp only at hI hm c3 c4
  by_cases hes : e = true ∨ s = true
  · have hg : LV.give ⟨m, I, Out, e, s⟩ t = 0 := by unfold LV.give; rw [if_pos (by simpa using hes)]
    rw [hg, List.take_zero, List.append_nil]
    have H := Aside0.mk h
    clear h hg
    cases e with
    | true =>
      clear hes
      go_enter Try.func73, Try.ntmps73
      go_wp2
      go_ret
      exact ⟨rfl, H.out, Only.refl _ _⟩
    | false =>
      obtain rfl : s = true := by simpa using hes
      clear hes
      go_enter Try.func73, Try.ntmps73
      go_wp2
      go_ret
      exact ⟨rfl, H.out, Only.refl _ _⟩
  · have he : e = false ∧ s = false := by
      constructor
      · cases e with
        | true => exact absurd (Or.inl rfl) hes
        | false => rfl
      · cases s with
        | true => exact absurd (Or.inr rfl) hes
        | false => rfl
    obtain ⟨rfl, rfl⟩ := he
    clear hes
    obtain ⟨k, hk⟩ : ∃ k, k = min t.size (m - I.length) := ⟨_, rfl⟩
    have hg : LV.give ⟨m, I, Out, false, false⟩ t = k := by unfold LV.give; rw [if_neg (by simp), hk]
    rw [hg]
    have c0 := h.c0
    have c2 := h.c2
    simp only at c0 c2
    have f0 := blk_frozen h 6
    have hsI := st_size I
    have hkt : k ≤ t.size := by omega
    have hmin : (if (m : Int) - (I.length : Int) < (t.size : Int) then (m : Int) - (I.length : Int) else (t.size : Int)) = (k : Int) := by split <;> omega
    have hwr : IntKind.i64.wrap ((m : Int) - (I.length : Int)) = (m : Int) - (I.length : Int) := IntWalk.i64_in _ (by omega)
    obtain ⟨e1, he1⟩ : ∃ e, e = st (t.data.toList.take k) := ⟨_, rfl⟩
    have hcut : ∀ W, (Instr.slice 9 (.string t) none (some (.int .i64 (k : Int))) none).run Try.prog W = .ok (.string e1) W := fun W => by
      rw [run_slice_string_h W 9 t Try.underlying9 .i64 _ (by omega) (by omega), Int.toNat_natCast, st_take, he1]
    have hes : e1.size = k := by rw [he1, st_size, List.length_take, data_length]; omega
    obtain ⟨zI, hzI⟩ : ∃ z, z = st I := ⟨_, rfl⟩
    obtain ⟨zN, hzN⟩ : ∃ z, z = st (I ++ t.data.toList.take k) := ⟨_, rfl⟩
    have hcat : ∀ W, (Op.stringOp .add zI e1).run Try.prog W = .ok (.string zN) W := fun W => by
      rw [run_string_add_sum W zI e1 (by rw [hes, hzI, hsI]; omega), hzI, he1, st_append, hzN]
    rw [← hzI] at c0 hsI
    have H := Aside0.mk h
    have HN := Aside0.mk hzN
    clear h hg hk he1 hes hzI hzN
    go_enter Try.func73, Try.ntmps73
    go_wp2_with fail
    go_still_tail 13, (by kernel_rfl)
    go_wp2_with fail
    generalize hW : ({ heap := w.heap, tape := w.tape, drawn := w.drawn + 1, os := w.os, output := w.output } : World) = W at *
    have hR : RefD W b a ⟨m, I, Out, false, false⟩ := by rw [← hW]; exact H.out
    have hc0 : W.cell? ⟨b, 6, none⟩ = some (.string zI) := by rw [← hW]; exact c0
    have hf0 := blk_frozen hR 6
    have hO : Only w W (fun x => x = b) := by rw [← hW]; exact (Only.refl w _).drew
    have HR := Aside0.mk hR
    have HO := Aside0.mk hO
    clear hR hO hW c0 f0
    go_still_tail 11, (by kernel_rfl)
    go_wp2
    go_ret
    refine ⟨rfl, ?_, (HO.out.trans (only_set b 6 (.string zN))).drew⟩
    rw [HN.out]
    exact HR.out.setI _

set_option maxHeartbeats 4000000 in
set_option maxRecDepth 100000 in
theorem duse {w : World} {b : Nat} {a : Pre} {v : LV} (h : RefD w b a v) (n : Int) (hI : v.I.length ≤ 1000000) : Calls Try.prog 74 #[.pointer (some ⟨b, 6, none⟩), .int .i64 n] w fun x w' => x = .returned (.tuple #[]) ∧ RefD w' b a { v with I := v.I.drop n.toNat } ∧ Only w w' (fun x => x = b) := by
  obtain ⟨m, I, Out, e, s⟩ := v
  simp only at hI
  have c0 := h.c0
  simp only at c0
  have f0 := blk_frozen h 6
  have hsI := st_size I
  obtain ⟨k, hk⟩ : ∃ k, k = min n.toNat I.length := ⟨_, rfl⟩
  have hcut := cut_st I k (by omega)
  have hdp : I.drop n.toNat = I.drop k := by
    rw [hk]
    rcases Nat.le_total n.toNat I.length with ha | ha
    · rw [Nat.min_eq_left ha]
    · rw [Nat.min_eq_right ha, List.drop_eq_nil_of_le ha, List.drop_eq_nil_of_le (Nat.le_refl _)]
  obtain ⟨zI, hzI⟩ : ∃ z, z = st I := ⟨_, rfl⟩
  obtain ⟨zN, hzN⟩ : ∃ z, z = st (I.drop k) := ⟨_, rfl⟩
  rw [← hzI] at c0 hsI hcut
  rw [← hzN] at hcut
  have H := Aside0.mk h
  have HN := Aside0.mk (And.intro hzN hdp)
  by_cases hn : n < 0
  · have hmin : (if (I.length : Int) < 0 then (I.length : Int) else 0) = (0 : Int) := by split <;> omega
    have hk0 : (k : Int) = 0 := by omega
    have hcut0 : ∀ W, (Instr.slice 9 (.string zI) (some (.int .i64 0)) none none).run Try.prog W = .ok (.string zN) W := by rw [← hk0]; exact hcut
    clear h hk hzI hzN hdp hk0 hcut
    go_enter Try.func74, Try.ntmps74
    go_still_tail 16, (by kernel_rfl)
    go_wp2
    go_end0
    refine ⟨rfl, ?_, ((Only.refl w _).trans (only_set b 6 (.string zN))).drew⟩
    show RefD _ b a ⟨m, I.drop n.toNat, Out, e, s⟩
    rw [HN.out.2, HN.out.1]
    exact H.out.setI _
  · have hmin : (if (I.length : Int) < n then (I.length : Int) else n) = (k : Int) := by split <;> omega
    clear h hk hzI hzN hdp
    go_enter Try.func74, Try.ntmps74
    go_still_tail 16, (by kernel_rfl)
    go_wp2
    go_end0
    refine ⟨rfl, ?_, ((Only.refl w _).trans (only_set b 6 (.string zN))).drew⟩
    show RefD _ b a ⟨m, I.drop n.toNat, Out, e, s⟩
    rw [HN.out.2, HN.out.1]
    exact H.out.setI _

set_option maxHeartbeats 4000000 in
set_option maxRecDepth 100000 in
theorem dwrite {w : World} {b : Nat} {a : Pre} {v : LV} (h : RefD w b a v) (t : ByteArray) (ht : v.Out.length + t.size ≤ 1000000) : Calls Try.prog 75 #[.pointer (some ⟨b, 6, none⟩), .string t] w fun x w' => x = .returned (.tuple #[]) ∧ RefD w' b a { v with Out := if v.s then v.Out else v.Out ++ t.data.toList } ∧ Only w w' (fun x => x = b) := by
  obtain ⟨m, I, Out, e, s⟩ := v
  simp only at ht
  have c1 := h.c1
  have c4 := h.c4
  simp only at c1 c4
  have f1 := blk_frozen h 7
  have hsO := st_size Out
  cases s with
  | true =>
    have H := Aside0.mk h
    clear h
    go_enter Try.func75, Try.ntmps75
    go_wp2
    go_end0
    exact ⟨rfl, H.out, Only.refl _ _⟩
  | false =>
    have hcat : st Out ++ t = st (Out ++ t.data.toList) := by rw [← st_append, st_data]
    obtain ⟨zO, hzO⟩ : ∃ z, z = st Out := ⟨_, rfl⟩
    obtain ⟨zN, hzN⟩ : ∃ z, z = st (Out ++ t.data.toList) := ⟨_, rfl⟩
    rw [← hzO] at c1 hsO hcat
    rw [← hzN] at hcat
    have hz : zO.size + t.size ≤ 1000000 := by omega
    have H := Aside0.mk h
    have HN := Aside0.mk hzN
    clear h hsO hzO hzN ht
    go_enter Try.func75, Try.ntmps75
    go_wp2
    go_end0
    refine ⟨rfl, ?_, only_set b 7 _⟩
    rw [HN.out]
    exact H.out.setOut _

set_option maxHeartbeats 4000000 in
set_option maxRecDepth 100000 in
theorem dtake {w : World} {b : Nat} {a : Pre} {v : LV} (h : RefD w b a v) (n : Int) (hO : v.Out.length ≤ 1000000) : Calls Try.prog 76 #[.pointer (some ⟨b, 6, none⟩), .int .i64 n] w fun x w' => x = .returned (.string (st (v.Out.take n.toNat))) ∧ RefD w' b a { v with Out := v.Out.drop n.toNat } ∧ Only w w' (fun x => x = b) := by
  obtain ⟨m, I, Out, e, s⟩ := v
  simp only at hO
  have c1 := h.c1
  simp only at c1
  have f1 := blk_frozen h 7
  have hsO := st_size Out
  obtain ⟨k, hk⟩ : ∃ k, k = min n.toNat Out.length := ⟨_, rfl⟩
  have hcut := cut_st Out k (by omega)
  have hcut2 := cut_st0 Out k (by omega)
  have hdp : Out.drop n.toNat = Out.drop k ∧ Out.take n.toNat = Out.take k := by
    rw [hk]
    rcases Nat.le_total n.toNat Out.length with ha | ha
    · rw [Nat.min_eq_left ha]; exact ⟨rfl, rfl⟩
    · rw [Nat.min_eq_right ha, List.drop_eq_nil_of_le ha, List.drop_eq_nil_of_le (Nat.le_refl _), List.take_of_length_le ha, List.take_of_length_le (Nat.le_refl _)]; exact ⟨rfl, rfl⟩
  show Calls Try.prog 76 _ w fun x w' => x = .returned (.string (st (Out.take n.toNat))) ∧ RefD w' b a ⟨m, I, Out.drop n.toNat, e, s⟩ ∧ Only w w' (fun x => x = b)
  rw [hdp.1, hdp.2]
  obtain ⟨zO, hzO⟩ : ∃ z, z = st Out := ⟨_, rfl⟩
  obtain ⟨zN, hzN⟩ : ∃ z, z = st (Out.drop k) := ⟨_, rfl⟩
  obtain ⟨zT, hzT⟩ : ∃ z, z = st (Out.take k) := ⟨_, rfl⟩
  rw [← hzO] at c1 hsO hcut hcut2
  rw [← hzN] at hcut
  rw [← hzT] at hcut2 ⊢
  have H := Aside0.mk h
  have HN := Aside0.mk hzN
  by_cases hn : n < 0
  · have hmin : (if (Out.length : Int) < 0 then (Out.length : Int) else 0) = (0 : Int) := by split <;> omega
    have hk0 : (k : Int) = 0 := by omega
    have hcut0 : ∀ W, (Instr.slice 9 (.string zO) (some (.int .i64 0)) none none).run Try.prog W = .ok (.string zN) W := by rw [← hk0]; exact hcut
    have hcut00 : ∀ W, (Instr.slice 9 (.string zO) none (some (.int .i64 0)) none).run Try.prog W = .ok (.string zT) W := by rw [← hk0]; exact hcut2
    clear h hk hzO hzN hzT hdp hk0 hcut hcut2
    go_enter Try.func76, Try.ntmps76
    go_wp2
    go_ret
    refine ⟨rfl, ?_, only_set b 7 _⟩
    rw [HN.out]
    exact H.out.setOut _
  · have hmin : (if (Out.length : Int) < n then (Out.length : Int) else n) = (k : Int) := by split <;> omega
    clear h hk hzO hzN hzT hdp
    go_enter Try.func76, Try.ntmps76
    go_wp2
    go_ret
    refine ⟨rfl, ?_, only_set b 7 _⟩
    rw [HN.out]
    exact H.out.setOut _
end Go.Proofs.Ytacglolggaobdaa.Qu
