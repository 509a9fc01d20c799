/- slices.ContainsFunc over names with canon.Single's predicate. -/
import Derived.Test.YtacglolggaobdabHpred
namespace Go.Proofs.Ytacglolggaobdab.Hn
open Go.RowKit Go.Proofs.YtacglolggaobdabW.PrintWords Go.Proofs.YtacglolggaobdabW.PrintLast Go.Proofs.YtacglolggaobdabW.PrintMore Go.Proofs.Ytacglolggaobdab.PAll
set_option linter.unusedVariables false
set_option linter.unusedSimpArgs false

set_option maxHeartbeats 1000000 in
set_option maxRecDepth 100000 in
theorem indexS_single (A : Option Addr) (c : Nat) (l : List ByteArray) (F : Nat) (p : ByteArray → Bool) (w : World)
    (hr : Kd.C Kd.string w A l.length l) (hlen : l.length ≤ 1000000) (hp : Pred 70 F Value.string p l w) :
    Calls Try.prog 94 #[.slice A l.length c, .func (.func 70) #[] #[.pointer (some ⟨F, 0, none⟩)]] w fun e w' => e = .returned (.int .i64 (idx p l)) ∧ Below w.heap.size w w' := by
  have HR := Aside0.mk hr
  have HP := Aside0.mk hp
  clear hr hp
  go_enter Try.func94, Try.ntmps94
  go_wp2
  go_loopw [8] (fun v8 wr => ∃ i : Nat, v8 = .int .i64 (i : Int) ∧ Aside0 (i ≤ l.length ∧ (∀ j (hj : j < l.length), j < i → p l[j] = false) ∧ Below w.heap.size w wr)) (fun v8 _ => l.length - (intOf v8).toNat)
  case atStart => exact ⟨0, rfl, ⟨by omega, fun j hj h => absurd h (by omega), Below.refl _ _⟩⟩
  case round =>
    obtain ⟨i, rfl, HA⟩ := hrel
    obtain ⟨hi, hno, hbel⟩ := HA.out
    clear HA
    have HN := Aside0.mk hno
    clear hno
    by_cases hlt : i < l.length
    · obtain ⟨ad, rfl, hx⟩ := Kd.at_string (Kd.C_below HR.out hbel) (i : Int) (by omega) (by omega)
      have hget : rdOf ByteArray.empty l (i : Int) = l[i] := by
        unfold rdOf; rw [Int.toNat_natCast, List.getD_eq_getElem?_getD, List.getElem?_eq_getElem hlt]; rfl
      rw [hget, Int.toNat_natCast] at hx
      obtain ⟨x, hxe⟩ : ∃ x, x = l[i] := ⟨_, rfl⟩
      have HX := Aside0.mk hxe
      have HL := Aside0.mk hbel
      rw [← hxe] at hx
      have hcall := HP.out wr x (by rw [hxe]; exact List.getElem_mem _) hbel
      clear hxe hbel hget
      cases hq : p x with
      | true =>
        have HQ := Aside0.mk hq
        rw [hq] at hcall
        clear hq
        go_wp2_with (go_at_call 70; refine hcall.mono ?_; rintro e w' ⟨rfl, hb'⟩; have HB := Aside0.mk hb'; clear hb')
        go_ret
        refine ⟨?_, below_step HL.out HB.out⟩
        rw [idx_hit p l i hlt (by rw [← HX.out]; exact HQ.out) (fun j hj => HN.out j (by omega) hj)]
        rfl
      | false =>
        have HQ := Aside0.mk hq
        rw [hq] at hcall
        clear hq
        go_wp2_with (go_at_call 70; refine hcall.mono ?_; rintro e w' ⟨rfl, hb'⟩; have HB := Aside0.mk hb'; clear hb')
        go_roundw
        case rel =>
          refine ⟨i + 1, by go_num, ⟨by omega, fun j hj h => ?_, below_step HL.out HB.out⟩⟩
          by_cases e : j = i
          · subst e; rw [← HX.out]; exact HQ.out
          · exact HN.out j hj (by omega)
        case measure => simp [intOf]; omega
    · have HL := Aside0.mk hbel
      clear hbel
      go_wp2
      go_ret
      refine ⟨?_, HL.out⟩
      rw [idx_miss p l (fun j hj => HN.out j hj (by omega))]
      rfl

set_option maxHeartbeats 1000000 in
set_option maxRecDepth 100000 in
theorem containsS_single (A : Option Addr) (c : Nat) (l : List ByteArray) (F : Nat) (p : ByteArray → Bool) (w : World)
    (hr : Kd.C Kd.string w A l.length l) (hlen : l.length ≤ 1000000) (hp : Pred 70 F Value.string p l w) :
    Calls Try.prog 69 #[.slice A l.length c, .func (.func 70) #[] #[.pointer (some ⟨F, 0, none⟩)]] w fun e w' => e = .returned (.bool (l.any p)) ∧ Below w.heap.size w w' := by
  rw [← idx_any]
  have HR := Aside0.mk hr
  have HP := Aside0.mk hp
  clear hr hp
  go_enter Try.func69, Try.ntmps69
  go_wp2_with (go_at_call 94; refine (indexS_single A c l F p _ HR.out hlen HP.out).mono ?_; rintro e w' ⟨rfl, hb'⟩; have HB := Aside0.mk hb'; clear hb')
  go_ret
  exact ⟨rfl, HB.out⟩
end Go.Proofs.Ytacglolggaobdab.Hn
