/- tally.Methods comes to what tally_Methods.f says. Written by wip/mkmeth.py. -/
import Derived.Test.YtacglolggaobdabTlHist
namespace Go.Proofs.Ytacglolggaobdab.PAll
open Go.RowKit Go.Proofs.YtacglolggaobdabW.PrintWords Go.Proofs.YtacglolggaobdabW.PrintLast Go.Proofs.YtacglolggaobdabW.PrintMore Go.Proofs.Ytacglolggaobdab.TL
set_option linter.unusedVariables false
set_option linter.unusedSimpArgs false

/-! ### tally_Methods: function 30 -/
def methKeys (l : List S56) : List (List UInt8) := (l.filter (fun x => decide (x.f0.f0.size ≠ 0))).map (fun x => x.f0.f0.data.toList)
def tally_Methods.f (l0 : List (S56)) : Option ((List (S49))) := if l0.length ≤ 100000 ∧ (∀ x ∈ l0, x.f0.f0.size ≤ 1000000) then some (hist (methKeys l0)) else none
set_option maxHeartbeats 8000000 in
set_option maxRecDepth 100000 in
theorem tally_Methods.calls (A0 : Option Addr) (c0 : Nat) (l0 : List (S56)) (r : List (S49)) (w : World) (hr0 : Kd.C k56 w A0 l0.length l0) (hc0 : l0.length ≤ c0) (h : tally_Methods.f l0 = some r) :
    Calls Try.prog 30 #[.slice A0 l0.length c0] w fun e w' => ∃ v0_ : Value, e = .returned (v0_) ∧ Kd.R k49 49 w' w.heap.size (fun _ => True) v0_ r ∧ Below w.heap.size w w' := by
  unfold tally_Methods.f at h
  by_cases hb : l0.length ≤ 100000 ∧ (∀ x ∈ l0, x.f0.f0.size ≤ 1000000)
  · rw [if_pos hb] at h
    obtain rfl := Option.some.inj h
    clear h
    have hlen := hb.1
    have HR := Aside0.mk hr0
    have HB := Aside0.mk hb.2
    clear hr0 hb
    go_enter Try.func30, Try.ntmps30
    go_wp2
    go_loopw [8] (fun v8 wr => ∃ (i : Nat), v8 = .int .i64 (i : Int) ∧ Aside0 (i ≤ l0.length ∧ TKl wr w.heap.size w.heap.size (methKeys (l0.take i)) ∧ Below w.heap.size w wr)) (fun v8 _ => l0.length - (intOf v8).toNat)
    case atStart => exact ⟨0, rfl, ⟨by omega, TKl.new w, (Below.refl _ _).alloc (Nat.le_refl _) _⟩⟩
    case round =>
      obtain ⟨i, rfl, HA⟩ := hrel
      obtain ⟨hi, hK, hB⟩ := HA.out
      clear HA
      by_cases hlt : i < l0.length
      · have hC := Kd.C_below HR.out hB
        obtain ⟨ad, A5, c5, A9, c9, A10, c10, e, hx0, hx1, hx2, hx3, hx4, hx5, hx6, hx7, hx8, hx9, hx10, -, -, -, -, -, -⟩ := at_T56 hC (i : Int) (by omega) (by omega)
        cases e
        rw [show rd_T56 l0 (i : Int) = l0[i] by unfold rd_T56; rw [Int.toNat_natCast, List.getD_eq_getElem?_getD, List.getElem?_eq_getElem hlt]; rfl, Int.toNat_natCast] at hx0 hx1 hx2 hx3 hx4 hx5 hx6 hx7 hx8 hx9 hx10
        have hkl : (methKeys (l0.take i)).length ≤ 1000000 := by
          unfold methKeys
          rw [List.length_map]
          refine Nat.le_trans (List.length_filter_le _ _) ?_
          rw [List.length_take]; omega
        have hsn := List.take_succ_eq_append_getElem hlt
        obtain ⟨x, hxe⟩ : ∃ x, x = l0[i] := ⟨_, rfl⟩
        rw [← hxe] at hx0 hx1 hx2 hx3 hx4 hx5 hx6 hx7 hx8 hx9 hx10 hsn
        have hxs := HB.out x (by rw [hxe]; exact List.getElem_mem _)
        clear hxe hC
        obtain ⟨wa, hwa⟩ : ∃ wa, wa = wr.alloc (.cells #[.string x.f0.f0, .string x.f0.f1, .int .i64 x.f0.f2, .int .i64 x.f0.f3, .string x.f0.f4, .slice A5 x.f0.f5.length c5, .int .i64 x.f1.f0, .int .i64 x.f1.f1, .string x.f2, .slice A9 x.f3.length c9, .slice A10 x.f4.length c10] 56) := ⟨_, rfl⟩
        have hbwa : Below wr.heap.size wr wa := by rw [hwa]; exact (Below.refl _ _).alloc (Nat.le_refl _) _
        have HWA := Aside0.mk hwa
        have HK := Aside0.mk (hK.below (Nat.le_refl _) hbwa)
        have HB2 := Aside0.mk (hB.trans (hbwa.mono hB.size))
        have HKL := Aside0.mk hkl
        have HSN := Aside0.mk hsn
        have HXS := Aside0.mk hxs
        clear hwa hbwa hK hB hkl hsn hxs
        by_cases hz : x.f0.f0.size = 0
        · have he : x.f0.f0 = ⟨#[]⟩ := by
            cases hq : x.f0.f0 with | mk d => rw [hq] at hz; exact congrArg ByteArray.mk (Array.eq_empty_of_size_eq_zero hz)
          have htk : methKeys (l0.take (i + 1)) = methKeys (l0.take i) := by
            rw [HSN.out]; unfold methKeys; rw [List.filter_append, List.filter_cons_of_neg (by rw [decide_eq_true_eq]; omega), List.filter_nil, List.append_nil]
          have HTK := Aside0.mk htk
          rw [he] at hx0
          have q0 := HWA.out
          rw [he] at q0
          have HWA := Aside0.mk q0
          clear q0
          clear htk
          go_wp2
          rw [← HWA.out]
          go_roundw
          case rel => exact ⟨i + 1, by go_num, ⟨by omega, by rw [HTK.out]; exact HK.out, HB2.out⟩⟩
          case measure => simp [intOf]; omega
        · have htk : methKeys (l0.take (i + 1)) = methKeys (l0.take i) ++ [x.f0.f0.data.toList] := by
            rw [HSN.out]; unfold methKeys; rw [List.filter_append, List.map_append, List.filter_cons_of_pos (p := fun x : S56 => decide (x.f0.f0.size ≠ 0)) (decide_eq_true hz)]; rfl
          have HTK := Aside0.mk htk
          have hne : x.f0.f0.toList.isEmpty = false := by
            rw [ByteArray.toList_eq]
            cases hq : x.f0.f0.data.toList with
            | nil => exact absurd (by rw [show x.f0.f0.size = x.f0.f0.data.toList.length from Array.length_toList.symm, hq]; rfl) hz
            | cons a b => rfl
          clear htk
          go_wp2_with (go_at_call 57; rw [← HWA.out]; refine (HK.out.add x.f0.f0 HKL.out (Nat.le_trans HXS.out (by decide))).mono ?_; rintro e wc ⟨⟨q, rfl⟩, hK4, hb4⟩; have HK4 := Aside0.mk hK4; have HB4 := Aside0.mk (HB2.out.trans hb4); clear hK4 hb4)
          go_roundw
          case rel => exact ⟨i + 1, by go_num, ⟨by omega, by rw [HTK.out]; exact HK4.out, HB4.out⟩⟩
          case measure => simp [intOf]; omega
      · obtain rfl : i = l0.length := by omega
        rw [List.take_of_length_le (Nat.le_refl _)] at hK
        have hkl : (methKeys l0).length ≤ 1000000 := by
          unfold methKeys
          rw [List.length_map]
          refine Nat.le_trans (List.length_filter_le _ _) ?_
          omega
        have h2 := hK.rows hkl
        have HB2 := Aside0.mk hB
        clear hK hB
        go_wp2_with (go_at_call 59; refine h2.mono ?_; rintro e wb ⟨v, rfl, hR, hb1⟩)
        go_ret
        exact ⟨_, rfl, Kd.R_lower hR HB2.out.size, HB2.out.trans (hb1.mono HB2.out.size)⟩
  · rw [if_neg hb] at h
    cases h
end Go.Proofs.Ytacglolggaobdab.PAll
