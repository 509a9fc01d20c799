/- slices.IndexFunc over fields with the predicate of header.named; header.Get. -/
import Derived.Test.YtacglolggaobdaaGheaderAll
namespace Go.Proofs.Ytacglolggaobdaa.Hn
open Go.RowKit Go.Proofs.YtacglolggaobdaaW.PrintWords Go.Proofs.YtacglolggaobdaaW.PrintLast Go.Proofs.YtacglolggaobdaaW.PrintMore Go.Proofs.Ytacglolggaobdaa.PAll
set_option linter.unusedVariables false
set_option linter.unusedSimpArgs false

def isAny (names : List ByteArray) (x : S84) : Bool := names.any fun n => foldB n x.f0
theorem isAny_one (nm : ByteArray) : isAny [nm] = isN nm := by funext x; simp [isAny, isN]

/-- the predicate that header.named made of names stands in block B -/
structure IsNamed (w : World) (B : Nat) (names : List ByteArray) : Prop where
  ex : ∃ A c, w.heap[B]? = some (.cells #[.slice A names.length c] 77 (0, 0)) ∧ Kd.C Kd.string w A names.length names
  sz : sizes names
theorem IsNamed.below {w w1 : World} {B : Nat} {names : List ByteArray} (h : IsNamed w B names) (hb : Below w.heap.size w w1) : IsNamed w1 B names := by
  obtain ⟨⟨A, c, h1, h2⟩, h3⟩ := h
  exact ⟨⟨A, c, (hb.block B (blk_lt h1)).trans h1, Kd.C_below h2 hb⟩, h3⟩
theorem IsNamed.call {w : World} {B : Nat} {names : List ByteArray} (h : IsNamed w B names) (x : S84) (hx : x.f0.size ≤ 9223372036854775807) :
    Calls Try.prog 109 #[.agg #[.string x.f0, .string x.f1], .pointer (some ⟨B, 0, none⟩)] w fun e w' => e = .returned (.bool (isAny names x)) ∧ Below w.heap.size w w' := by
  obtain ⟨⟨A, c, h1, h2⟩, h3⟩ := h
  exact outer_any B A c names x w h1 h2 h3 hx

set_option maxHeartbeats 1000000 in
set_option maxRecDepth 100000 in
theorem indexF_any (A : Option Addr) (c : Nat) (l : List S84) (B : Nat) (names : List ByteArray) (w : World) (hr : Kd.C k84 w A l.length l) (hlen : fit l) (hN : IsNamed w B names) :
    Calls Try.prog 93 #[.slice A l.length c, .func (.func 109) #[] #[.pointer (some ⟨B, 0, none⟩)]] w fun e w' => e = .returned (.int .i64 (idx (isAny names) l)) ∧ Below w.heap.size w w' := by
  have HR := Aside0.mk hr
  have HN := Aside0.mk hN
  have HF := Aside0.mk hlen.2
  have hlen := hlen.1
  clear hr hN
  go_enter Try.func93, Try.ntmps93
  go_wp2
  go_loopw [8] (fun v8 wr => ∃ i : Nat, v8 = .int .i64 (i : Int) ∧ Aside0 (i ≤ l.length ∧ (∀ j (hj : j < l.length), j < i → isAny names l[j] = false) ∧ Below w.heap.size w wr)) (fun v8 _ => l.length - (intOf v8).toNat)
  case atStart => exact ⟨0, rfl, ⟨by omega, fun j hj h => absurd h (by omega), Below.refl _ _⟩⟩
  case round =>
    obtain ⟨i, rfl, HA⟩ := hrel
    obtain ⟨hi, hno, hbel⟩ := HA.out
    clear HA
    have HO := Aside0.mk hno
    clear hno
    by_cases hlt : i < l.length
    · obtain ⟨ad, e, hx0, hx1⟩ := at_T84 (Kd.C_below HR.out hbel) (i : Int) (by omega) (by omega)
      cases e
      rw [rd_at l i hlt, Int.toNat_natCast] at hx0 hx1
      obtain ⟨x, hxe⟩ : ∃ x, x = l[i] := ⟨_, rfl⟩
      have hxs := HF.out x (by rw [hxe]; exact List.getElem_mem _)
      have hcall := (HN.out.below hbel).call x hxs
      have HX := Aside0.mk hxe
      have HL := Aside0.mk hbel
      rw [← hxe] at hx0 hx1
      obtain ⟨q, hq⟩ : ∃ q, q = isAny names x := ⟨_, rfl⟩
      rw [← hq] at hcall
      have HQ := Aside0.mk hq
      clear hxe hbel hq
      cases q with
      | true =>
        go_wp2_with (go_at_call 109; refine hcall.mono ?_; rintro e w' ⟨rfl, hb'⟩; have HB := Aside0.mk hb'; clear hb')
        go_ret
        refine ⟨?_, below_step HL.out HB.out⟩
        rw [idx_hit (isAny names) l i hlt (by rw [← HX.out]; exact HQ.out.symm) (fun j hj => HO.out j (by omega) hj)]
        rfl
      | false =>
        go_wp2_with (go_at_call 109; refine hcall.mono ?_; rintro e w' ⟨rfl, hb'⟩; have HB := Aside0.mk hb'; clear hb')
        go_roundw
        case rel =>
          refine ⟨i + 1, by go_num, ⟨by omega, fun j hj h => ?_, below_step HL.out HB.out⟩⟩
          by_cases e : j = i
          · subst e; rw [← HX.out]; exact HQ.out.symm
          · exact HO.out j hj (by omega)
        case measure => simp [intOf]; omega
    · have HL := Aside0.mk hbel
      clear hbel
      go_wp2
      go_ret
      refine ⟨?_, HL.out⟩
      rw [idx_miss (isAny names) l (fun j hj => HO.out j hj (by omega))]
      rfl
end Go.Proofs.Ytacglolggaobdaa.Hn
