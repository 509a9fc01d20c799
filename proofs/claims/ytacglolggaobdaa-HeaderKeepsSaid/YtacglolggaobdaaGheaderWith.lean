/- header.With comes to what header_With.f says: the fields and one more behind them. -/
import Derived.Test.YtacglolggaobdaaFRow
namespace Go.Proofs.Ytacglolggaobdaa.PAll
open Go.RowKit Go.Proofs.YtacglolggaobdaaW.PrintWords Go.Proofs.YtacglolggaobdaaW.PrintLast Go.Proofs.YtacglolggaobdaaW.PrintMore Go.Proofs.Ytacglolggaobdaa.FR
set_option linter.unusedVariables false
set_option linter.unusedSimpArgs false

def header_With.f (l0 : List (S84)) (a1 : ByteArray) (a2 : ByteArray) : Option (List (S84)) := if fit l0 then some (l0 ++ [⟨a1, a2⟩]) else none

set_option maxHeartbeats 1000000 in
set_option maxRecDepth 100000 in
theorem header_With.calls (A0 : Option Addr) (c0 : Nat) (l0 : List (S84)) (a1 : ByteArray) (a2 : ByteArray) (r : List (S84)) (w : World) (hr0 : Kd.C k84 w A0 l0.length l0) (hc0 : l0.length ≤ c0) (h : header_With.f l0 a1 a2 = some r) :
    Calls Try.prog 68 #[.slice A0 l0.length c0, .string a1, .string a2] w fun e w' => ∃ v0_ : Value, e = .returned (v0_) ∧ Kd.R k84 84 w' w.heap.size (fun _ => True) v0_ r ∧ Below w.heap.size w w' := by
  unfold header_With.f at h
  by_cases hb : fit l0
  · rw [if_pos hb] at h
    obtain rfl := Option.some.inj h
    clear h
    have hlen := hb.1
    have HR := Aside0.mk hr0
    clear hr0 hb
    obtain ⟨zc, hzl, hmk⟩ : ∃ zc : List Value, zc.length = 2 * (l0.length + 1) ∧ ∀ W : World, (Instr.makeSlice 73 (.int .i64 ((l0.length : Int) + 1)) (.int .i64 ((l0.length : Int) + 1))).run Try.prog W = .ok (.slice (some ⟨W.heap.size, 0, none⟩) (l0.length + 1) (l0.length + 1)) (W.alloc (.cells zc.toArray 84)) := by
      obtain ⟨i0, hi, hz0, hz1, hz2⟩ := info_parts infoF
      refine ⟨(madeCells #[.string ⟨#[]⟩, .string ⟨#[]⟩] ((l0.length + 1) * 2)).toList, by simp [size_madeCells]; omega, fun W => ?_⟩
      have hr := run_make (P := Try.prog) W 73 84 i0 _ Try.underlying73 hi hz0 .i64 .i64 ((l0.length : Int) + 1) ((l0.length : Int) + 1) (by omega) (by omega) (by rw [hz2]; omega) (by omega)
      rw [hr, show ((l0.length : Int) + 1).toNat = l0.length + 1 by omega, hz1]
      rfl
    obtain ⟨z1, z2, hz12, hz1l, hz2l⟩ : ∃ z1 z2 : List Value, zc = z1 ++ z2 ∧ z1.length = 2 * l0.length ∧ z2.length = 2 := ⟨zc.take (2 * l0.length), zc.drop (2 * l0.length), (List.take_append_drop _ _).symm, by rw [List.length_take]; omega, by rw [List.length_drop]; omega⟩
    obtain ⟨W, hW⟩ : ∃ W, W = w.alloc (.cells zc.toArray 84) := ⟨_, rfl⟩
    have hg0 : W.heap[w.heap.size]? = some (.cells (z1 ++ z2).toArray 84 (0, 0)) := by rw [hW, ← hz12]; exact heap_alloc_new w _
    have hbel0 : Below w.heap.size w W := by rw [hW]; exact (Below.refl _ _).alloc (Nat.le_refl _) _
    obtain ⟨W2, hW2⟩ : ∃ W2, W2 = W.setCells w.heap.size 0 (fc l0) := ⟨_, rfl⟩
    have hcp : ∀ ty, (Builtin.copy_ #[73, 73] ty #[.slice (some ⟨w.heap.size, 0, none⟩) (l0.length + 1) (l0.length + 1), .slice A0 l0.length c0]).run Try.prog W = .ok (goInt (l0.length : Int)) W2 := fun ty => by
      rw [hW2]; exact run_copyF W w.heap.size _ _ A0 c0 ty l0 z1 z2 (Kd.C_below HR.out hbel0) hg0 hz1l (by omega)
    have hg1 : W2.heap[w.heap.size]? = some (.cells (fc l0 ++ z2).toArray 84 (0, 0)) := by
      have := put_cells (a := []) (old := z1) (b := z2) (seg := fc l0) (by simpa using hg0) (by rw [hz1l, fc_len])
      rw [hW2]; simpa using this
    have hbel1 : Below w.heap.size w W2 := by
      rw [hW2]
      obtain ⟨s1, s2, s3, s4⟩ := setCells_same w.heap.size (fc l0) 0 W
      exact hbel0.trans ⟨s1, s2, s3, by rw [s4]; exact Nat.le_refl _, fun k hk => setCells_far _ _ k (by omega)⟩
    have hst : (Instr.storeAt 84 (.pointer (some ⟨w.heap.size, 2 * l0.length, none⟩)) (.agg #[.string a1, .string a2])).run Try.prog W2 = .ok () (W2.setCells w.heap.size (2 * l0.length) [.string a1, .string a2]) := by
      refine run_store_run 84 _ [.string a1, .string a2] hg1 rfl ?_ (by simp [fc_len, hz2l]) (by intro q hq; simp at hq; rcases hq with rfl | rfl <;> rfl)
      kernel_rfl
    have hg2 : FRow (W2.setCells w.heap.size (2 * l0.length) [.string a1, .string a2]) w.heap.size (l0 ++ [⟨a1, a2⟩]) [] := by
      have := put_cells (a := fc l0) (old := z2) (b := []) (seg := [.string a1, .string a2]) (by simpa using hg1) hz2l
      rw [fc_len] at this
      unfold FRow
      rw [this, fc_append]
      rfl
    have hbel2 : Below w.heap.size w (W2.setCells w.heap.size (2 * l0.length) [.string a1, .string a2]) := by
      obtain ⟨s1, s2, s3, s4⟩ := setCells_same w.heap.size [Value.string a1, .string a2] (2 * l0.length) W2
      exact hbel1.trans ⟨s1, s2, s3, by rw [s4]; exact Nat.le_refl _, fun k hk => setCells_far _ _ k (by omega)⟩
    have hown := hg2.own w.heap.size (l0.length + 1) (l0.length + 1) (Nat.le_refl _) (by simp) (by simp) (by unfold maxLen; omega) (by simp)
    have hz2 : ∃ u1 u2, z2 = [u1, u2] := by
      match z2, hz2l with
      | [u1, u2], _ => exact ⟨u1, u2, rfl⟩
    obtain ⟨u1, u2, hz2e⟩ := hz2
    have hc0' : W2.cell? ⟨w.heap.size, l0.length * 2, none⟩ = some u1 := by
      rw [blk_cell hg1, hz2e, List.getElem?_toArray, List.getElem?_append_right (by rw [fc_len]; omega), fc_len, show l0.length * 2 - 2 * l0.length = 0 by omega]
      rfl
    have hf0' := blk_frozen hg1 (l0.length * 2)
    have hg1' := blk_set hg1 (l0.length * 2) (.string a1)
    have hc1' : (W2.setCell ⟨w.heap.size, l0.length * 2, none⟩ (.string a1)).cell? ⟨w.heap.size, l0.length * 2 + 1, none⟩ = some u2 := by
      rw [blk_cell hg1', Array.getElem?_setIfInBounds_ne (by omega), hz2e, List.getElem?_toArray, List.getElem?_append_right (by rw [fc_len]; omega), fc_len, show l0.length * 2 + 1 - 2 * l0.length = 1 by omega]
      rfl
    have hf1' := blk_frozen hg1' (l0.length * 2 + 1)
    have hW3e : W2.setCells w.heap.size (2 * l0.length) [Value.string a1, .string a2] = (W2.setCell ⟨w.heap.size, l0.length * 2, none⟩ (.string a1)).setCell ⟨w.heap.size, l0.length * 2 + 1, none⟩ (.string a2) := by
      rw [Nat.mul_comm]; rfl
    rw [hW3e] at hbel2 hown
    have HO := Aside0.mk hown
    have HL := Aside0.mk hbel2
    have hmk' := hmk w
    rw [← hW] at hmk'
    clear hg0 hg1 hg2 hbel0 hbel1 hbel2 hown hmk hW hW2 hst hg1' hW3e hz2e hz12 hz1l hz2l hzl
    go_enter Try.func68, Try.ntmps68
    go_wp2
    go_ret
    exact ⟨_, rfl, HO.out, HL.out⟩
  · rw [if_neg hb] at h
    exact absurd h (by simp)
end Go.Proofs.Ytacglolggaobdaa.PAll
