/- tally.Fields comes to what tally_Fields.f says: the names, in lower case, counted. -/
import Derived.Test.YtacglolggaobdabTlHist
import Derived.Test.YtacglolggaobdabGoctetLower
import Derived.Test.YtacglolggaobdabOct
namespace Go.Proofs.Ytacglolggaobdab.PAll
open Go.RowKit Go.Proofs.YtacglolggaobdabW.PrintWords Go.Proofs.YtacglolggaobdabW.PrintLast Go.Proofs.YtacglolggaobdabW.PrintMore Go.Proofs.Ytacglolggaobdab.Oct Go.Proofs.Ytacglolggaobdab.TL Go.Proofs.Ytacglolggaobdab.Hn
set_option linter.unusedVariables false
set_option linter.unusedSimpArgs false

/-! ### tally_Fields: function 27 -/
def okT (l : List S83) : Prop := l.length ≤ 100000 ∧ ∀ x ∈ l, x.f0.size ≤ 1000000
instance (l : List S83) : Decidable (okT l) := by unfold okT; infer_instance
def lowKeys (l : List S83) : List (List UInt8) := l.map (fun x => lowL x.f0)
def tally_Fields.f (l0 : List (S83)) : Option ((List (S49))) := if okT l0 then some (hist (lowKeys l0)) else none
set_option maxHeartbeats 8000000 in
set_option maxRecDepth 100000 in
theorem tally_Fields.calls (A0 : Option Addr) (c0 : Nat) (l0 : List (S83)) (r : List (S49)) (w : World) (hr0 : Kd.C k83 w A0 l0.length l0) (hc0 : l0.length ≤ c0) (h : tally_Fields.f l0 = some r) :
    Calls Try.prog 27 #[.slice A0 l0.length c0] w fun e w' => ∃ v0_ : Value, e = .returned (v0_) ∧ Kd.R k49 49 w' w.heap.size (fun _ => True) v0_ r ∧ Below w.heap.size w w' := by
  unfold tally_Fields.f at h
  by_cases hb : okT l0
  · rw [if_pos hb] at h
    obtain rfl := Option.some.inj h
    clear h
    have hlen := hb.1
    have HR := Aside0.mk hr0
    have HB := Aside0.mk hb.2
    clear hr0 hb
    go_enter Try.func27, Try.ntmps27
    go_wp2
    go_loopw [8] (fun v8 wr => ∃ (i : Nat), v8 = .int .i64 (i : Int) ∧ Aside0 (i ≤ l0.length ∧ TKl wr w.heap.size w.heap.size (lowKeys (l0.take i)) ∧ Below w.heap.size w wr)) (fun v8 _ => l0.length - (intOf v8).toNat)
    case atStart => exact ⟨0, rfl, ⟨by omega, TKl.new w, (Below.refl _ _).alloc (Nat.le_refl _) _⟩⟩
    case round =>
      obtain ⟨i, rfl, HA⟩ := hrel
      obtain ⟨hi, hK, hB⟩ := HA.out
      clear HA
      by_cases hlt : i < l0.length
      · have hC := Kd.C_below HR.out hB
        obtain ⟨ad, e, hx0, hx1⟩ := at_T83 hC (i : Int) (by omega) (by omega)
        cases e
        rw [show rd_T83 l0 (i : Int) = l0[i] by unfold rd_T83; rw [Int.toNat_natCast, List.getD_eq_getElem?_getD, List.getElem?_eq_getElem hlt]; rfl, Int.toNat_natCast] at hx0 hx1
        have htk : lowKeys (l0.take (i + 1)) = lowKeys (l0.take i) ++ [lowL l0[i].f0] := by
          unfold lowKeys; rw [List.take_succ_eq_append_getElem hlt, List.map_append]; rfl
        have hkl : (lowKeys (l0.take i)).length ≤ 1000000 := by unfold lowKeys; rw [List.length_map, List.length_take]; omega
        obtain ⟨x, hxe⟩ : ∃ x, x = l0[i] := ⟨_, rfl⟩
        rw [← hxe] at hx0 hx1 htk
        have hxs := HB.out x (by rw [hxe]; exact List.getElem_mem _)
        have hll : (lowL x.f0).length ≤ 1000000000 := by
          have : (lowL x.f0).length = x.f0.size := by unfold lowL; rw [List.length_map]; exact Array.length_toList
          omega
        clear hxe hC
        have HLL := Aside0.mk (show octet_Lower.f x.f0 = some ⟨(lowL x.f0).toArray⟩ by unfold octet_Lower.f; rw [if_pos (by omega)])
        obtain ⟨wa, hwa⟩ : ∃ wa, wa = wr.alloc (.cells #[.string x.f0, .string x.f1] 83) := ⟨_, rfl⟩
        have hbwa : Below wr.heap.size wr wa := by rw [hwa]; exact (Below.refl _ _).alloc (Nat.le_refl _) _
        have HWA := Aside0.mk hwa
        have HK := Aside0.mk (hK.below (Nat.le_refl _) hbwa)
        have HB2 := Aside0.mk (hB.trans (hbwa.mono hB.size))
        have HKL := Aside0.mk hkl
        have HLS := Aside0.mk hll
        have HTK := Aside0.mk htk
        clear hwa hbwa hK hB hkl hll htk
        go_wp2_with (first
          | (go_at_call 58; rw [← HWA.out]; refine (octet_Lower.calls x.f0 _ _ HLL.out).mono ?_; rintro e wb ⟨rfl, hb1⟩; have hK3 := HK.out.below (Nat.le_refl _) hb1; have HB3 := Aside0.mk (HB2.out.trans (hb1.mono HB2.out.size)); have HK3 := Aside0.mk hK3; clear hK3 hb1)
          | (go_at_call 57; refine (HK3.out.add ⟨(lowL x.f0).toArray⟩ HKL.out (by show (lowL x.f0).toArray.size ≤ _; rw [List.size_toArray]; exact HLS.out)).mono ?_; rintro e wc ⟨⟨q, rfl⟩, hK4, hb4⟩; have HK4 := Aside0.mk hK4; have HB4 := Aside0.mk (HB3.out.trans hb4); clear hK4 hb4))
        go_roundw
        case rel => exact ⟨i + 1, by go_num, ⟨by omega, by rw [HTK.out]; exact HK4.out, HB4.out⟩⟩
        case measure => simp [intOf]; omega
      · obtain rfl : i = l0.length := by omega
        rw [List.take_of_length_le (Nat.le_refl _)] at hK
        have hkl : (lowKeys l0).length ≤ 1000000 := by unfold lowKeys; rw [List.length_map]; omega
        have h2 := hK.rows hkl
        have HB2 := Aside0.mk hB
        clear hK hB
        go_wp2_with (go_at_call 59; refine h2.mono ?_; rintro e wb ⟨v, rfl, hR, hb1⟩)
        go_ret
        exact ⟨_, rfl, Kd.R_lower hR HB2.out.size, HB2.out.trans (hb1.mono HB2.out.size)⟩
  · rw [if_neg hb] at h
    cases h
end Go.Proofs.Ytacglolggaobdab.PAll
