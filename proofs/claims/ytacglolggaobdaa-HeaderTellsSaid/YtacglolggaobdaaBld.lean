/- strings.Builder at this program: WriteString onto a builder that has been written to or grown. -/
import Derived.Test.YtacglolggaobdaaPAllx0
import Derived.Test.YtacglolggaobdaaShelf
namespace Go.Proofs.Ytacglolggaobdaa.Bld
open Go.RowKit Go.Proofs.YtacglolggaobdaaW.PrintWords Go.Proofs.YtacglolggaobdaaW.PrintLast Go.Proofs.YtacglolggaobdaaW.PrintMore
set_option linter.unusedVariables false
set_option linter.unusedSimpArgs false

/-- a builder in block b that holds the octets l -/
def Holds (B b : Nat) (l : List UInt8) (w : World) : Prop := Lib.BuilderAt 99 5 B b (.pointer (some ⟨b, 0, none⟩)) (Lib.byteCells l) w

theorem slice_of_own {w : World} {B e s n : Nat} {v : Value} {xs : List Value} (h : w.ownsRow B e s v n xs) : ∃ a m c, v = .slice a m c := by
  rcases h.2 with ⟨hv, _⟩ | ⟨g, cap, cur, hv, _⟩
  · exact ⟨_, _, _, hv⟩
  · exact ⟨_, _, _, hv⟩
theorem infoB : (Try.prog.info? 5).map (fun i => (i.zero, i.size, i.bytes)) = some (some (.int .u8 0), 1, 1) := by kernel_rfl

set_option maxRecDepth 100000 in
theorem copyCheck_any (b : Nat) (w : World) (c0 : w.cell? ⟨b, 0, none⟩ = some (.pointer (some ⟨b, 0, none⟩))) : Calls Try.prog 114 #[.pointer (some ⟨b, 0, none⟩)] w fun e w' => e = .returned (.tuple #[]) ∧ w = w' := by
  have hnp : ∀ W, (binOp .neq 97 (.pointer (some ⟨b, 0, none⟩)) (.pointer (some ⟨b, 0, none⟩))).run Try.prog W = .ok (.bool false) W := fun W => by
    obtain ⟨j, hj, _⟩ := Option.map_eq_some_iff.1 (show (Try.prog.info? 99).map (·.size) = some 2 by kernel_rfl)
    exact Lib.run_neq_ptr_same W _ Try.underlying97 hj
  go_enter Try.func114, Try.ntmps114
  go_wp2
  go_end0
  exact ⟨rfl, rfl⟩

set_option maxHeartbeats 1000000 in
set_option maxRecDepth 100000 in
theorem writeString_any (B b : Nat) (l : List UInt8) (s : ByteArray) (w : World) (h : Holds B b l w) (hlen : l.length + s.size ≤ 1099511627776) (hBw : B ≤ w.heap.size) :
    Calls Try.prog 103 #[.pointer (some ⟨b, 0, none⟩), .string s] w fun e w' => e = .returned (.tuple #[.int .i64 s.size, .nilIface]) ∧ Holds B b (l ++ s.data.toList) w' ∧ Below B w w' := by
  obtain ⟨hB, v, hbk, hown, hne⟩ := h
  obtain ⟨i0, hi, hz0, hz1, hz2⟩ := info_parts infoB
  have c0 : w.cell? ⟨b, 0, none⟩ = some (.pointer (some ⟨b, 0, none⟩)) := (blk_cell hbk 0).trans rfl
  have c1 : w.cell? ⟨b, 1, none⟩ = some v := (blk_cell hbk 1).trans rfl
  have hlt := blk_lt hbk
  rw [Lib.byteCells_length] at hown
  obtain ⟨ao, cap, rfl⟩ : ∃ ao cap, v = .slice ao l.length cap := by
    rcases hown.2 with ⟨hv, h0⟩ | ⟨g, cap, cur, hv, _⟩
    · exact ⟨none, 0, by rw [hv, h0]⟩
    · exact ⟨_, _, hv⟩
  have HB := Aside0.mk hbk
  have HO := Aside0.mk hown
  have HI := Aside0.mk hi
  have HN := Aside0.mk hne
  clear hbk hown hne hi
  go_enter Try.func103, Try.ntmps103
  go_wp2_with (first | (go_at_call 114; refine (copyCheck_any b _ c0).mono ?_; rintro e w' ⟨rfl, rfl⟩) | (at_builtin; go_loud (refine Lib.wpList_append_own_string _ rfl _ _ 35 9 rfl B 5 i0 Try.underlying35 Try.underlying9 HI.out hz0 hz1 hz2 (.slice ao l.length cap) _ _ rfl HO.out s rfl ?c3 ?c4 ?c5 ?_; (case c3 => unfold maxLen; omega); (case c4 => omega); (case c5 => omega); intro v' w2 hown' hgrow _; obtain ⟨ao', n', cap', rfl⟩ := slice_of_own hown'; have hb2 := blk_grown HB.out hgrow (fun e => HN.out e.symm); have d0 : w2.cell? ⟨b, 0, none⟩ = some (.pointer (some ⟨b, 0, none⟩)) := (blk_cell hb2 0).trans rfl; have d1 : w2.cell? ⟨b, 1, none⟩ = some (.slice ao l.length cap) := (blk_cell hb2 1).trans rfl; have f1 := blk_frozen hb2 1; have HB2 := Aside0.mk hb2; have HO2 := Aside0.mk hown'; have HG := Aside0.mk hgrow; clear hb2 hown' hgrow)))
  go_ret2
  refine ⟨rfl, ?_, ?_⟩
  · refine Lib.BuilderAt.put (T := 99) (e := 5) hB HB2.out (bs' := Lib.byteCells (l ++ s.data.toList)) ?_ (by decide)
    have := HO2.out
    rw [Lib.strCells_eq] at this
    simpa [Lib.byteCells] using this
  · exact ((Below.refl B w).grown HG.out hBw (fun k hk => (HO.out.lt k hk).1)).setCell (p := ⟨b, 1, none⟩) hB _
end Go.Proofs.Ytacglolggaobdaa.Bld
