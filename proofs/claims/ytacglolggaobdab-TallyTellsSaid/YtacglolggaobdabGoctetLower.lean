/- octet.Lower comes to what octet_Lower.f says: the octets, A to Z in small letters. -/
import Derived.Test.YtacglolggaobdabHpred
namespace Go.Proofs.Ytacglolggaobdab.PAll
open Go.RowKit Go.Proofs.YtacglolggaobdabW.PrintWords Go.Proofs.YtacglolggaobdabW.PrintLast Go.Proofs.YtacglolggaobdabW.PrintMore Go.Proofs.Ytacglolggaobdab.Hn Go.Proofs.Ytacglolggaobdab.Oct
set_option linter.unusedVariables false
set_option linter.unusedSimpArgs false

def octet_Lower.f (a0 : ByteArray) : Option (ByteArray) := if a0.size ≤ 9223372036854775807 then some ⟨(lowL a0).toArray⟩ else none

/-- block g begins with the octets xs -/
def BRow (w : World) (g : Nat) (xs : List UInt8) : Prop := ∃ tl m, xs.length ≤ m ∧ w.heap[g]? = some (.cells (obv xs ++ tl).toArray 5 (m, m + 1))
theorem BRow.cell {w : World} {g : Nat} {xs : List UInt8} (h : BRow w g xs) (i : Nat) (hi : i < xs.length) : w.cell? ⟨g, i, none⟩ = some (.int .u8 (xs[i].toNat : Int)) := by
  obtain ⟨tl, m, hm, hg⟩ := h
  rw [cell_of_row w g i _ 5 _ hg, List.getElem?_toArray, List.getElem?_append_left (by rw [obv_length]; exact hi)]
  simp [obv, hi]
theorem BRow.fz {w : World} {g : Nat} {xs : List UInt8} (h : BRow w g xs) (i : Nat) (hi : i < xs.length) : w.frozen? ⟨g, i, none⟩ = false := by
  obtain ⟨tl, m, hm, hg⟩ := h
  simp [World.frozen?, hg]
  omega
theorem BRow.lt {w : World} {g : Nat} {xs : List UInt8} (h : BRow w g xs) : g < w.heap.size := by
  obtain ⟨tl, m, hm, hg⟩ := h
  exact blk_lt hg
theorem BRow.put {w : World} {g : Nat} {xs : List UInt8} (h : BRow w g xs) (i : Nat) (hi : i < xs.length) (u : UInt8) : BRow (w.setCell ⟨g, i, none⟩ (.int .u8 (u.toNat : Int))) g (xs.set i u) := by
  obtain ⟨tl, m, hm, hg⟩ := h
  refine ⟨tl, m, by rw [List.length_set]; exact hm, ?_⟩
  simp only [World.setCell, Array.getElem?_modify, hg, if_true, Option.map_some]
  congr 2
  rw [← Array.toList_inj]
  simp only [Option.isSome_none, Bool.false_eq_true, if_false, Array.toList_setIfInBounds]
  rw [List.set_append_left _ _ (by rw [obv_length]; exact hi)]
  simp [obv, List.map_set]
set_option maxRecDepth 100000 in
/-- '[]byte(s)' -/
theorem bytes_of (s : ByteArray) (w : World) : ∃ (c : Nat) (W : World), s.size ≤ c ∧ (convert 9 107 (.string s)).run Try.prog w = .ok (.slice (some ⟨w.heap.size, 0, none⟩) s.size c) W ∧ BRow W w.heap.size s.data.toList ∧ Below w.heap.size w W := by
  have h := run_bytes_of_string (P := Try.prog) w 9 107 5 s Try.underlying9 Try.underlying107 Try.underlying5
  refine ⟨_, _, ?_, h, ⟨List.replicate (grownCap w s.size 0 5 - s.size) (.int .u8 0), (bytesRow s (grownCap w s.size 0 5)).size, ?_, ?_⟩, ?_⟩
  · exact grownCap_ge w s.size 0 5
  · simp [bytesRow]
  · have := heap_alloc_new w.drew (.cells (bytesRow s (grownCap w s.size 0 5)) 5 ((bytesRow s (grownCap w s.size 0 5)).size, (bytesRow s (grownCap w s.size 0 5)).size + 1))
    rw [show (w.drew).heap.size = w.heap.size from rfl] at this
    rw [this]
    congr 2
    rw [← Array.toList_inj]
    simp only [bytesRow, obv, Array.toList_append, Array.toList_map, Array.toList_replicate]
  · exact ((Below.refl _ _).drew).alloc (Nat.le_refl _) _

set_option maxHeartbeats 1000000 in
set_option maxRecDepth 100000 in
theorem octet_Lower.calls (a0 : ByteArray) (r : ByteArray) (w : World) (h : octet_Lower.f a0 = some r) :
    Calls Try.prog 58 #[.string a0] w fun e w' => e = .returned (.string r) ∧ Below w.heap.size w w' := by
  unfold octet_Lower.f at h
  by_cases hb : a0.size ≤ 9223372036854775807
  · rw [if_pos hb] at h
    have h := Option.some.inj h
    obtain ⟨c, W, hc, hcv, hrow, hbel⟩ := bytes_of a0 w
    have hsz : a0.size = a0.data.toList.length := by simp
    have SZ := Aside0.mk hsz
    have HR := Aside0.mk h
    have HB := Aside0.mk hrow
    have HL := Aside0.mk hbel
    clear hsz h hrow hbel
    go_enter Try.func58, Try.ntmps58
    go_wp2
    go_loopw [10] (fun v10 wr => ∃ (i : Nat), v10 = .int .i64 (i : Int) ∧ Aside0 (i ≤ a0.size ∧ BRow wr w.heap.size ((lowL a0).take i ++ a0.data.toList.drop i) ∧ Below w.heap.size w wr)) (fun v10 _ => a0.size - (intOf v10).toNat)
    case atStart => exact ⟨0, rfl, ⟨by omega, by simpa using HB.out, HL.out⟩⟩
    case round =>
      obtain ⟨i, rfl, HA⟩ := hrel
      obtain ⟨hi, hrow, hbel⟩ := HA.out
      clear HA
      have hlen : ((lowL a0).take i ++ a0.data.toList.drop i).length = a0.size := by
        unfold lowL; rw [List.length_append, List.length_take, List.length_map, List.length_drop, ← SZ.out]; omega
      by_cases hlt : i < a0.size
      · have hil : i < a0.data.toList.length := by rw [← SZ.out]; exact hlt
        have hcx := hrow.cell i (by rw [hlen]; exact hlt)
        have hfx := hrow.fz i (by rw [hlen]; exact hlt)
        have hget : ((lowL a0).take i ++ a0.data.toList.drop i)[i]'(by rw [hlen]; exact hlt) = a0.data.toList[i] := by
          rw [List.getElem_append_right (by rw [List.length_take]; omega)]
          have hli : ((lowL a0).take i).length = i := by unfold lowL; rw [List.length_take, List.length_map, ← SZ.out]; omega
          simp [hli]
        rw [hget] at hcx
        obtain ⟨x, hx⟩ : ∃ x, x = a0.data.toList[i] := ⟨_, rfl⟩
        rw [← hx] at hcx
        have hput := hrow.put i (by rw [hlen]; exact hlt) (low x)
        have hset : ((lowL a0).take i ++ a0.data.toList.drop i).set i (low x) = (lowL a0).take (i + 1) ++ a0.data.toList.drop (i + 1) := by
          have hll : i < (lowL a0).length := by unfold lowL; rw [List.length_map]; exact hil
          rw [List.take_succ_eq_append_getElem hll, List.set_append_right _ _ (by rw [List.length_take]; omega), List.length_take, Nat.min_eq_left (by omega), Nat.sub_self, List.drop_eq_getElem_cons hil, List.set_cons_zero]
          simp [lowL, hx]
        rw [hset] at hput
        have hlx := lower_any x
        have HP := Aside0.mk hput
        have HLX := Aside0.mk hlx
        have HL2 := Aside0.mk (hbel.setCell (p := ⟨w.heap.size, i, none⟩) (Nat.le_refl _) (.int .u8 ((low x).toNat : Int)))
        clear hrow hbel hlen hget hx hput hset hlx
        go_wp2_with (go_at_call 71; refine (HLX.out _).mono ?_; rintro e w' ⟨rfl, rfl⟩)
        go_roundw
        case rel => exact ⟨i + 1, by go_num, ⟨by omega, HP.out, HL2.out⟩⟩
        case measure => simp [intOf]; omega
      · have hli : i = a0.size := by omega
        have hl2 : (lowL a0).take i ++ a0.data.toList.drop i = lowL a0 := by
          rw [List.take_of_length_le (by unfold lowL; rw [List.length_map, ← SZ.out]; omega), List.drop_eq_nil_of_le (by rw [← SZ.out]; omega), List.append_nil]
        rw [hl2] at hrow hlen
        have hback := run_convert_bytes_back (P := Try.prog) wr 107 9 5 ⟨w.heap.size, 0, none⟩ c (lowL a0) Try.underlying107 Try.underlying5 Try.underlying9 (fun j hj => by
          have := hrow.cell j hj
          unfold Addr.add
          split
          · subst_vars; simpa using this
          · simpa using this)
        rw [hlen, HR.out] at hback
        have HL3 := Aside0.mk hbel
        clear hrow hbel hlen hl2
        go_wp2
        go_ret
        exact ⟨rfl, HL3.out⟩
  · rw [if_neg hb] at h
    exact absurd h (by simp)
end Go.Proofs.Ytacglolggaobdab.PAll
