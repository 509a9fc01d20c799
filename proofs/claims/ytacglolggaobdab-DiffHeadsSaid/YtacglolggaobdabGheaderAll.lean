/- header.All comes to what header_All.f says: the values of the fields so named. -/
import Derived.Test.YtacglolggaobdabHpred
namespace Go.Proofs.Ytacglolggaobdab.PAll
open Go.RowKit Go.Proofs.YtacglolggaobdabW.PrintWords Go.Proofs.YtacglolggaobdabW.PrintLast Go.Proofs.YtacglolggaobdabW.PrintMore Go.Proofs.Ytacglolggaobdab.Hn
set_option linter.unusedVariables false
set_option linter.unusedSimpArgs false

def fit (l : List S83) : Prop := l.length ≤ 1000000 ∧ ∀ x ∈ l, x.f0.size ≤ 9223372036854775807
instance (l : List S83) : Decidable (fit l) := by unfold fit; infer_instance
def isN (nm : ByteArray) (x : S83) : Bool := foldB nm x.f0
def allOf (l : List S83) (nm : ByteArray) : List ByteArray := (l.filter (isN nm)).map (·.f1)
def header_All.f (l0 : List (S83)) (a1 : ByteArray) : Option (List ByteArray) := if fit l0 ∧ a1.size ≤ 9223372036854775807 then some (allOf l0 a1) else none

theorem info9' : (Try.prog.info? 9).map (fun i => (i.zero, i.size, i.bytes)) = some (some (.string ⟨#[]⟩), 1, 16) := by kernel_rfl
theorem allOf_take (l : List S83) (nm : ByteArray) (i : Nat) (h : i < l.length) : allOf (l.take (i + 1)) nm = if isN nm l[i] = true then allOf (l.take i) nm ++ [l[i].f1] else allOf (l.take i) nm := by
  unfold allOf
  rw [List.take_succ_eq_append_getElem h, List.filter_append]
  cases hq : isN nm l[i] with
  | true => simp [hq]
  | false => simp [hq]
theorem allOf_len (l : List S83) (nm : ByteArray) : (allOf l nm).length ≤ l.length := by
  unfold allOf
  rw [List.length_map]
  exact List.length_filter_le _ _
theorem rd_at (l : List S83) (i : Nat) (h : i < l.length) : rd_T83 l (i : Int) = l[i] := by
  unfold rd_T83
  rw [Int.toNat_natCast, List.getD_eq_getElem?_getD, List.getElem?_eq_getElem h]; rfl

set_option maxHeartbeats 1000000 in
set_option maxRecDepth 100000 in
theorem header_All.calls (A0 : Option Addr) (c0 : Nat) (l0 : List (S83)) (a1 : ByteArray) (r : List ByteArray) (w : World) (hr0 : Kd.C k83 w A0 l0.length l0) (hc0 : l0.length ≤ c0) (h : header_All.f l0 a1 = some r) :
    Calls Try.prog 74 #[.slice A0 l0.length c0, .string a1] w fun e w' => ∃ v0_ : Value, e = .returned (v0_) ∧ Kd.R Kd.string 9 w' w.heap.size (fun _ => True) v0_ r ∧ Below w.heap.size w w' := by
  unfold header_All.f at h
  by_cases hb : fit l0 ∧ a1.size ≤ 9223372036854775807
  · rw [if_pos hb] at h
    obtain rfl := Option.some.inj h
    clear h
    obtain ⟨⟨hlen, hfit⟩, hnm⟩ := hb
    have HR := Aside0.mk hr0
    have HF := Aside0.mk hfit
    clear hr0 hfit
    go_enter Try.func74, Try.ntmps74
    go_wp2_with (go_at_call 96; refine (named_any _ _ _ _).mono ?_; rintro e w0 ⟨rfl, hw0⟩; have HW := Aside0.mk hw0; clear hw0)
    have hsz : w0.heap.size = w.heap.size + 2 := by rw [HW.out]; simp [World.size_alloc]
    have hbox0 : w0.heap[w.heap.size + 1]? = some (.cells #[.slice (some ⟨w.heap.size, 0, none⟩) 1 1] 22 (0, 0)) := by
      rw [HW.out]
      have := heap_alloc_new (w.alloc (.cells #[.string a1] 9)) (.cells #[.slice (some ⟨w.heap.size, 0, none⟩) 1 1] 22)
      simpa [World.size_alloc] using this
    have harr0 : w0.heap[w.heap.size]? = some (.cells #[.string a1] 9 (0, 0)) := by
      rw [HW.out, Below.heap_alloc _ _ _ (by simp [World.size_alloc])]
      exact heap_alloc_new w _
    have hbel0 : Below w.heap.size w w0 := by rw [HW.out]; exact ((Below.refl _ _).alloc (Nat.le_refl _) _).alloc (by simp [World.size_alloc]) _
    have B0 := Aside0.mk hbox0
    have R0 := Aside0.mk harr0
    have L0 := Aside0.mk hbel0
    clear hbox0 harr0 hbel0
    go_loopw [6, 14] (fun v6 v14 wr => ∃ (i : Nat), v14 = .int .i64 (i : Int) ∧ Aside0 (i ≤ l0.length ∧ Kd.R Kd.string 9 wr w0.heap.size (fun _ => True) v6 (allOf (l0.take i) a1) ∧ Below w0.heap.size w0 wr)) (fun _ v14 _ => l0.length - (intOf v14).toNat)
    case atStart => exact ⟨0, rfl, ⟨by omega, Kd.R_nil _ _ _ _ _, Below.refl _ _⟩⟩
    case round =>
      obtain ⟨i, rfl, HA⟩ := hrel
      obtain ⟨hi, hown, hbel⟩ := HA.out
      clear HA
      have hbw := below_step L0.out hbel
      by_cases hlt : i < l0.length
      · obtain ⟨ad, e, hx0, hx1⟩ := at_T83 (Kd.C_below HR.out hbw) (i : Int) (by omega) (by omega)
        cases e
        rw [rd_at l0 i hlt, Int.toNat_natCast] at hx0 hx1
        obtain ⟨x, hxe⟩ : ∃ x, x = l0[i] := ⟨_, rfl⟩
        have hxs : x.f0.size ≤ 9223372036854775807 := HF.out x (by rw [hxe]; exact List.getElem_mem _)
        rw [← hxe] at hx0 hx1
        have hbx := (hbel.block _ (blk_lt B0.out)).trans B0.out
        have hns := one_name wr w.heap.size a1 9 ((hbel.block _ (blk_lt R0.out)).trans R0.out)
        have htk := allOf_take l0 a1 i hlt
        rw [← hxe] at htk
        have hll := allOf_len (l0.take i) a1
        rw [List.length_take] at hll
        have hcall := outer_any (w.heap.size + 1) (some ⟨w.heap.size, 0, none⟩) 1 [a1] x
        have hany : ([a1].any fun n => foldB n x.f0) = isN a1 x := by simp [isN]
        rw [hany] at hcall
        have HC := Aside0.mk hcall
        have HX := Aside0.mk hxe
        have HO := Aside0.mk hown
        have HL := Aside0.mk hbel
        have HBX := Aside0.mk hbx
        have HNS := Aside0.mk hns
        have HT := Aside0.mk htk
        have hal : Below wr.heap.size wr (wr.alloc (.cells #[.string x.f0, .string x.f1] 83)) := (Below.refl _ _).alloc (Nat.le_refl _) _
        have HAL := Aside0.mk hal
        clear hcall hany hxe hown hbel hbx hns htk hbw hal
        obtain ⟨q, hq⟩ : ∃ q, q = isN a1 x := ⟨_, rfl⟩
        have HQ := Aside0.mk hq
        clear hq
        cases q with
        | true =>
          go_wp2_with (first | (go_at_call 114; refine (HC.out _ ((HAL.out.block _ (blk_lt HBX.out)).trans HBX.out) (Kd.C_below HNS.out HAL.out) ⟨by simp, by simpa using hnm⟩ hxs).mono ?_; rw [← HQ.out]; rintro e w1 ⟨rfl, hb1⟩; have HB1 := Aside0.mk hb1; have HN := Aside0.mk (below_step HAL.out hb1); have hv0 : w1.cell? ⟨wr.heap.size, 1, none⟩ = some (.string x.f1) := (blk_cell ((hb1.block _ (by simp [World.size_alloc])).trans (heap_alloc_new wr _)) 1).trans rfl; clear hb1) | (at_builtin; refine Kd.R_append Kd.string (w0 := w0) w0.heap.size rfl (.tmp 21) (.tmp 24) 22 9 (.string ⟨#[]⟩) 16 rfl Try.underlying22 info9' rfl (by decide) (by omega) u6 (allOf (l0.take i) a1) x.f1 [.string x.f1] (fun _ => True) (fun _ => False) rfl rfl ?aP (fun _ hk => hk.elim) ?aF ?aO ?aB ?aS ?aL ?_; (case aP => exact rfl); (case aF => exact (fun _ _ => trivial)); (case aO => exact (by (with_reducible repeat (first | apply Kd.R_alloc)); exact Kd.R_below HO.out HN.out)); (case aB => exact (by repeat (first | (with_reducible first | exact below_step HL.out HN.out | apply below_alloc))));  (case aS => exact (below_size (by repeat (first | (with_reducible first | exact below_step HL.out HN.out | apply below_alloc))))); (case aL => omega); intro v2 w2 ho hb hg hat; have HO2 := Aside0.mk ho; have HL2 := Aside0.mk hb; clear ho hb hg hat))
          go_roundw
          case rel => exact ⟨i + 1, by go_num, ⟨by omega, by rw [HT.out, if_pos HQ.out.symm]; exact HO2.out, HL2.out⟩⟩
          case measure => simp [intOf]; omega
        | false =>
          go_wp2_with (go_at_call 114; refine (HC.out _ ((HAL.out.block _ (blk_lt HBX.out)).trans HBX.out) (Kd.C_below HNS.out HAL.out) ⟨by simp, by simpa using hnm⟩ hxs).mono ?_; rw [← HQ.out]; rintro e w1 ⟨rfl, hb1⟩; have HB1 := Aside0.mk hb1; have HN := Aside0.mk (below_step HAL.out hb1); have hv0 : w1.cell? ⟨wr.heap.size, 1, none⟩ = some (.string x.f1) := (blk_cell ((hb1.block _ (by simp [World.size_alloc])).trans (heap_alloc_new wr _)) 1).trans rfl; clear hb1)
          go_roundw
          case rel => exact ⟨i + 1, by go_num, ⟨by omega, by rw [HT.out, if_neg (by rw [← HQ.out]; decide)]; exact Kd.R_below HO.out HN.out, below_step HL.out HN.out⟩⟩
          case measure => simp [intOf]; omega
      · rw [List.take_of_length_le (show l0.length ≤ i by omega)] at hown
        have HO := Aside0.mk hown
        have HL := Aside0.mk hbel
        have HS := Aside0.mk hbw
        clear hown hbel hbw
        go_wp2
        go_ret
        exact ⟨_, rfl, Kd.R_lower HO.out (by omega), HS.out⟩
  · rw [if_neg hb] at h
    exact absurd h (by simp)
end Go.Proofs.Ytacglolggaobdab.PAll
