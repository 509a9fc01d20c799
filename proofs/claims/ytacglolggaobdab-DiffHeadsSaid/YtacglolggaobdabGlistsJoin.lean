/- strings.Builder at this program: WriteString onto a builder that has been written to or grown. lists.Join comes to what lists_Join.f says: the texts with a comma and a blank between them. -/
import Derived.Test.YtacglolggaobdabPAllx0
import Derived.Test.YtacglolggaobdabShelf
import Derived.Test.YtacglolggaobdabGheaderAll
section
namespace Go.Proofs.Ytacglolggaobdab.Bld
open Go.RowKit Go.Proofs.YtacglolggaobdabW.PrintWords Go.Proofs.YtacglolggaobdabW.PrintLast Go.Proofs.YtacglolggaobdabW.PrintMore
set_option linter.unusedVariables false
set_option linter.unusedSimpArgs false

/-- a builder in block b that holds the octets l -/
def Holds (B b : Nat) (l : List UInt8) (w : World) : Prop := Lib.BuilderAt 148 5 B b (.pointer (some ⟨b, 0, none⟩)) (Lib.byteCells l) w

theorem slice_of_own {w : World} {B e s n : Nat} {v : Value} {xs : List Value} (h : w.ownsRow B e s v n xs) : ∃ a m c, v = .slice a m c := by
  rcases h.2 with ⟨hv, _⟩ | ⟨g, cap, cur, hv, _⟩
  · exact ⟨_, _, _, hv⟩
  · exact ⟨_, _, _, hv⟩
theorem infoB : (Try.prog.info? 5).map (fun i => (i.zero, i.size, i.bytes)) = some (some (.int .u8 0), 1, 1) := by kernel_rfl

set_option maxRecDepth 100000 in
theorem copyCheck_any (b : Nat) (w : World) (c0 : w.cell? ⟨b, 0, none⟩ = some (.pointer (some ⟨b, 0, none⟩))) : Calls Try.prog 138 #[.pointer (some ⟨b, 0, none⟩)] w fun e w' => e = .returned (.tuple #[]) ∧ w = w' := by
  have hnp : ∀ W, (binOp .neq 146 (.pointer (some ⟨b, 0, none⟩)) (.pointer (some ⟨b, 0, none⟩))).run Try.prog W = .ok (.bool false) W := fun W => by
    obtain ⟨j, hj, _⟩ := Option.map_eq_some_iff.1 (show (Try.prog.info? 148).map (·.size) = some 2 by kernel_rfl)
    exact Lib.run_neq_ptr_same W _ Try.underlying146 hj
  go_enter Try.func138, Try.ntmps138
  go_wp2
  go_end0
  exact ⟨rfl, rfl⟩

set_option maxHeartbeats 1000000 in
set_option maxRecDepth 100000 in
theorem writeString_any (B b : Nat) (l : List UInt8) (s : ByteArray) (w : World) (h : Holds B b l w) (hlen : l.length + s.size ≤ 1099511627776) (hBw : B ≤ w.heap.size) :
    Calls Try.prog 117 #[.pointer (some ⟨b, 0, none⟩), .string s] w fun e w' => e = .returned (.tuple #[.int .i64 s.size, .nilIface]) ∧ Holds B b (l ++ s.data.toList) w' ∧ Below B w w' := by
  obtain ⟨hB, v, hbk, hown, hne⟩ := h
  obtain ⟨i0, hi, hz0, hz1, hz2⟩ := info_parts infoB
  have c0 : w.cell? ⟨b, 0, none⟩ = some (.pointer (some ⟨b, 0, none⟩)) := (blk_cell hbk 0).trans rfl
  have c1 : w.cell? ⟨b, 1, none⟩ = some v := (blk_cell hbk 1).trans rfl
  have hlt := blk_lt hbk
  rw [Lib.byteCells_length] at hown
  obtain ⟨ao, cap, rfl⟩ : ∃ ao cap, v = .slice ao l.length cap := by
    rcases hown.2 with ⟨hv, h0⟩ | ⟨g, cap, cur, hv, _⟩
    · exact ⟨none, 0, by rw [hv, h0]⟩
    · exact ⟨_, _, hv⟩
  have HB := Aside0.mk hbk
  have HO := Aside0.mk hown
  have HI := Aside0.mk hi
  have HN := Aside0.mk hne
  clear hbk hown hne hi
  go_enter Try.func117, Try.ntmps117
  go_wp2_with (first | (go_at_call 138; refine (copyCheck_any b _ c0).mono ?_; rintro e w' ⟨rfl, rfl⟩) | (at_builtin; go_loud (refine Lib.wpList_append_own_string _ rfl _ _ 107 9 rfl B 5 i0 Try.underlying107 Try.underlying9 HI.out hz0 hz1 hz2 (.slice ao l.length cap) _ _ rfl HO.out s rfl ?c3 ?c4 ?c5 ?_; (case c3 => unfold maxLen; omega); (case c4 => omega); (case c5 => omega); intro v' w2 hown' hgrow _; obtain ⟨ao', n', cap', rfl⟩ := slice_of_own hown'; have hb2 := blk_grown HB.out hgrow (fun e => HN.out e.symm); have d0 : w2.cell? ⟨b, 0, none⟩ = some (.pointer (some ⟨b, 0, none⟩)) := (blk_cell hb2 0).trans rfl; have d1 : w2.cell? ⟨b, 1, none⟩ = some (.slice ao l.length cap) := (blk_cell hb2 1).trans rfl; have f1 := blk_frozen hb2 1; have HB2 := Aside0.mk hb2; have HO2 := Aside0.mk hown'; have HG := Aside0.mk hgrow; clear hb2 hown' hgrow)))
  go_ret2
  refine ⟨rfl, ?_, ?_⟩
  · refine Lib.BuilderAt.put (T := 148) (e := 5) hB HB2.out (bs' := Lib.byteCells (l ++ s.data.toList)) ?_ (by decide)
    have := HO2.out
    rw [Lib.strCells_eq] at this
    simpa [Lib.byteCells] using this
  · exact ((Below.refl B w).grown HG.out hBw (fun k hk => (HO.out.lt k hk).1)).setCell (p := ⟨b, 1, none⟩) hB _
end Go.Proofs.Ytacglolggaobdab.Bld
end

section
namespace Go.Proofs.Ytacglolggaobdab.PAll
open Go.RowKit Go.Proofs.YtacglolggaobdabW.PrintWords Go.Proofs.YtacglolggaobdabW.PrintLast Go.Proofs.YtacglolggaobdabW.PrintMore Go.Proofs.Ytacglolggaobdab.Bld
set_option linter.unusedVariables false
set_option linter.unusedSimpArgs false

def tailJ : List ByteArray → List UInt8
  | [] => []
  | x :: xs => [44, 32] ++ x.data.toList ++ tailJ xs
def joinL : List ByteArray → List UInt8
  | [] => []
  | x :: xs => x.data.toList ++ tailJ xs
def sumL : List ByteArray → Nat
  | [] => 0
  | x :: xs => x.size + sumL xs
def lists_Join.f (l0 : List ByteArray) : Option (ByteArray) := if l0.length ≤ 1000000 ∧ sumL l0 ≤ 1000000000 then some ⟨(joinL l0).toArray⟩ else none

theorem sumL_append : ∀ (a b : List ByteArray), sumL (a ++ b) = sumL a + sumL b
  | [], b => by simp [sumL]
  | x :: a, b => by rw [List.cons_append, sumL, sumL, sumL_append a b]; omega
theorem tailJ_append : ∀ (a : List ByteArray) (x : ByteArray), tailJ (a ++ [x]) = tailJ a ++ [44, 32] ++ x.data.toList
  | [], x => by simp [tailJ]
  | y :: a, x => by rw [List.cons_append, tailJ, tailJ, tailJ_append a x]; simp
theorem tailJ_len : ∀ (a : List ByteArray), (tailJ a).length = 2 * a.length + sumL a
  | [] => rfl
  | x :: a => by
    have := tailJ_len a
    rw [tailJ, sumL]
    simp [this]
    omega
theorem sumL_take (l : List ByteArray) (i : Nat) (h : i < l.length) : sumL (l.take (i + 1)) = sumL (l.take i) + (l[i]).size := by
  rw [List.take_succ_eq_append_getElem h, sumL_append, sumL, sumL]; omega
theorem sumL_take_le (l : List ByteArray) (i : Nat) : sumL (l.take i) ≤ sumL l := by
  have := sumL_append (l.take i) (l.drop i)
  rw [List.take_append_drop] at this
  omega

theorem sumL_drop_le (l : List ByteArray) (i : Nat) : sumL (l.drop i) ≤ sumL l := by
  have := sumL_append (l.take i) (l.drop i)
  rw [List.take_append_drop] at this
  omega
theorem sumL_mem : ∀ (l : List ByteArray) (x : ByteArray), x ∈ l → x.size ≤ sumL l
  | [], x, h => by cases h
  | y :: l, x, h => by
    rw [sumL]
    rcases List.mem_cons.1 h with rfl | h
    · omega
    · have := sumL_mem l x h; omega
theorem len_data (s : ByteArray) : s.data.toList.length = s.size := by simp
theorem rd_str (l : List ByteArray) (i : Nat) (h : i < l.length) : rdOf ByteArray.empty l (i : Int) = l[i] := by
  unfold rdOf; rw [Int.toNat_natCast, List.getD_eq_getElem?_getD, List.getElem?_eq_getElem h]; rfl

set_option maxHeartbeats 1000000 in
set_option maxRecDepth 100000 in
theorem strings_Join_any (A : Option Addr) (c : Nat) (l : List ByteArray) (w : World) (hr : Kd.C Kd.string w A l.length l) (hc : l.length ≤ c) (hl : l.length ≤ 1000000) (hs : sumL l ≤ 1000000000) :
    Calls Try.prog 97 #[.slice A l.length c, .string ⟨#[44, 32]⟩] w fun e w' => e = .returned (.string ⟨(joinL l).toArray⟩) ∧ Below w.heap.size w w' := by
  match l, hr, hc, hl, hs with
  | [], hr, hc, hl, hs =>
    go_enter Try.func97, Try.ntmps97
    go_wp2
    go_ret
    exact ⟨rfl, Below.refl _ _⟩
  | [x], hr, hc, hl, hs =>
    obtain ⟨ad, rfl, hx⟩ := Kd.at_string hr 0 (by omega) (by simp)
    have hx' : w.cell? ad = some (.string x) := by simpa [Addr.add, rdOf] using hx
    have e : (⟨(joinL [x]).toArray⟩ : ByteArray) = x := by simp [joinL, tailJ]
    rw [e]
    clear hx e hr
    go_enter Try.func97, Try.ntmps97
    go_wp2
    go_ret
    exact ⟨rfl, Below.refl _ _⟩
  | x :: y :: ys, hr, hc, hl, hs =>
    obtain ⟨l, hle⟩ : ∃ l, l = x :: y :: ys := ⟨_, rfl⟩
    rw [← hle] at hr hc hl hs ⊢
    have h2 : 2 ≤ l.length := by rw [hle]; simp
    have hjl : joinL l = x.data.toList ++ tailJ (l.drop 1) := by rw [hle]; rfl
    have h0e : l[0]'(by omega) = x := by simp [hle]
    have HR := Aside0.mk hr
    have HJ := Aside0.mk hjl
    have HX := Aside0.mk h0e
    clear hle hr hjl h0e
    go_enter Try.func97, Try.ntmps97
    have hqd : 2 < 9223372036854775807 / ((l.length : Int) - 1) := by
      have h := Int.ediv_mul_le (9223372036854775807 : Int) (b := (l.length : Int) - 1) (by omega)
      rcases Int.lt_or_le 2 (9223372036854775807 / ((l.length : Int) - 1)) with h3 | h3
      · exact h3
      · have h4 := Int.lt_ediv_add_one_mul_self (9223372036854775807 : Int) (b := (l.length : Int) - 1) (by omega)
        have h5 : (9223372036854775807 / ((l.length : Int) - 1) + 1) * ((l.length : Int) - 1) ≤ 3 * ((l.length : Int) - 1) := Int.mul_le_mul_of_nonneg_right (by omega) (by omega)
        omega
    go_wp2
    go_loopw [5, 41] (fun v5 v41 wr => ∃ (i : Nat), v41 = .int .i64 (i : Int) ∧ v5 = .int .i64 (2 * ((l.length : Int) - 1) + (sumL (l.take i) : Int)) ∧ Aside0 (i ≤ l.length ∧ w = wr)) (fun _ v41 _ => l.length - (intOf v41).toNat)
    case atStart => exact ⟨0, rfl, by simp [sumL], ⟨by omega, rfl⟩⟩
    case round =>
      obtain ⟨i, rfl, rfl, HA⟩ := hrel
      obtain ⟨hi, rfl⟩ := HA.out
      clear HA
      have hsl := sumL_take_le l i
      by_cases hlt : i < l.length
      · obtain ⟨ad, e, hx⟩ := Kd.at_string HR.out (i : Int) (by omega) (by omega)
        cases e
        rw [rd_str l i hlt, Int.toNat_natCast] at hx
        have hst := sumL_take l i hlt
        have hsl2 := sumL_take_le l (i + 1)
        obtain ⟨t, ht⟩ : ∃ t, t = l[i] := ⟨_, rfl⟩
        rw [← ht] at hx hst
        obtain ⟨n, hn⟩ : ∃ n : Nat, n = sumL (l.take i) := ⟨_, rfl⟩
        obtain ⟨m, hm⟩ : ∃ m : Nat, m = sumL (l.take (i + 1)) := ⟨_, rfl⟩
        rw [← hn] at hst hsl ⊢
        rw [← hm] at hst hsl2
        have hM := Aside0.mk hm
        clear ht hn hm hqd
        go_wp2
        go_roundw
        case rel => exact ⟨i + 1, by go_num, by rw [← hM.out]; go_num, ⟨by omega, by first | trivial | rfl⟩⟩
        case measure => simp [intOf]; omega
      · rw [List.take_of_length_le (show l.length ≤ i by omega)] at hsl ⊢
        obtain ⟨ad, e, hx⟩ := Kd.at_string HR.out 0 (by omega) (by omega)
        cases e
        have hx0 : w.cell? ad = some (.string x) := by
          rw [show (0 : Int) = ((0 : Nat) : Int) from rfl, rd_str l 0 (by omega), HX.out] at hx
          simpa [Addr.add] using hx
        obtain ⟨N, hN⟩ : ∃ N : Nat, 2 * ((l.length : Int) - 1) + (sumL l : Int) = (N : Int) := ⟨2 * (l.length - 1) + sumL l, by omega⟩
        have hNb : N ≤ 1002000000 := by omega
        rw [hN]
        have hnew := heap_alloc_new w (.cells #[.pointer none, .slice none 0 0] 148)
        have hba : Below w.heap.size w (w.alloc (.cells #[.pointer none, .slice none 0 0] 148)) := (Below.refl _ _).alloc (Nat.le_refl _) _
        have hsa : (w.alloc (.cells #[.pointer none, .slice none 0 0] 148)).heap.size = w.heap.size + 1 := World.size_alloc _ _
        have hxs : x.size ≤ 1000000000 := by
          have h1 := sumL_take l 0 (by omega)
          have h2 := sumL_take_le l (0 + 1)
          rw [HX.out] at h1
          omega
        have HNW := Aside0.mk hnew
        have HBA := Aside0.mk hba
        have HSA := Aside0.mk hsa
        clear hnew hba hsa hN hqd hsl
        have hc1 : ¬ c = 1 := by omega
        have hHJ := HJ.out
        clear hx
        clear hHJ
        go_wp2_with (first | (go_at_call 116; refine (Try.Builder_Grow_fresh w.heap.size w.heap.size N _ (Nat.le_refl _) HNW.out (by rw [HSA.out]; omega) (by omega)).mono ?_; rintro e w1 ⟨rfl, hb1, hB1⟩; have HH1 : Aside0 (Holds w.heap.size w.heap.size [] w1) := ⟨hb1⟩; have HL1 := Aside0.mk (HBA.out.trans hB1); have hxc : w1.cell? ad = some (.string x) := ((HBA.out.trans hB1).cell (World.block_lt_of_cell? w _ hx0)).trans hx0; clear hb1 hB1) | (go_at_call 117; refine (writeString_any w.heap.size w.heap.size _ x _ HH1.out (by simp; omega) HL1.out.size).mono ?_; rintro e w2 ⟨rfl, hb2, hB2⟩; have HH2 := Aside0.mk hb2; have HL2 := Aside0.mk (HL1.out.trans hB2); clear hb2 hB2))
        go_loopw [65] (fun v65 wr => ∃ (k : Nat), v65 = .int .i64 (k : Int) ∧ Aside0 (k ≤ l.length - 1 ∧ Holds w.heap.size w.heap.size (x.data.toList ++ tailJ ((l.drop 1).take k)) wr ∧ Below w.heap.size w wr)) (fun v65 _ => l.length - (intOf v65).toNat)
        case atStart => exact ⟨0, rfl, ⟨by omega, by simpa [tailJ] using HH2.out, HL2.out⟩⟩
        case round =>
          obtain ⟨k, rfl, HA⟩ := hrel
          obtain ⟨hk, hho, hbel⟩ := HA.out
          clear HA
          by_cases hkl : k < l.length - 1
          · obtain ⟨ad2, e, hx⟩ := Kd.at_string HR.out ((k + 1 : Nat) : Int) (by omega) (by omega)
            cases e
            rw [rd_str l (k + 1) (by omega), Int.toNat_natCast] at hx
            obtain ⟨t, ht⟩ : ∃ t, t = l[k + 1]'(by omega) := ⟨_, rfl⟩
            rw [← ht] at hx
            have hxk : wr.cell? ⟨ad.block, ad.off + 1 + k, none⟩ = some (.string t) := by
              have e2 : ad.add (k + 1) = ⟨ad.block, ad.off + 1 + k, none⟩ := by
                unfold Addr.add
                rw [if_neg (by omega), Nat.add_assoc, Nat.add_comm 1 k]
              rw [e2] at hx
              exact (hbel.cell (World.block_lt_of_cell? w _ hx)).trans hx
            have hts : t.size ≤ 1000000000 := Nat.le_trans (sumL_mem l t (by rw [ht]; exact List.getElem_mem _)) hs
            have hlen : (x.data.toList ++ tailJ ((l.drop 1).take k)).length ≤ 2002000000 := by
              have h1 := sumL_take_le (l.drop 1) k
              have h2 := sumL_drop_le l 1
              rw [List.length_append, tailJ_len, len_data, List.length_take]
              omega
            have htk : tailJ ((l.drop 1).take (k + 1)) = tailJ ((l.drop 1).take k) ++ [44, 32] ++ t.data.toList := by
              rw [List.take_succ_eq_append_getElem (show k < (l.drop 1).length by simp; omega), tailJ_append]
              simp [ht, Nat.add_comm]
            have HO := Aside0.mk hho
            have HL := Aside0.mk hbel
            have HLN := Aside0.mk hlen
            have HTK := Aside0.mk htk
            have hsep : (⟨#[44, 32]⟩ : ByteArray).size = 2 := rfl
            clear hho hbel hlen htk hx ht
            go_wp2_with (first | (go_at_call 117; first | (with_reducible refine (writeString_any w.heap.size w.heap.size _ ⟨#[44, 32]⟩ _ HO.out (by have := HLN.out; omega) HL.out.size).mono ?_; rintro e w3 ⟨rfl, hb3, hB3⟩; have HO3 := Aside0.mk hb3; have HL3 := Aside0.mk (HL.out.trans hB3); clear hb3 hB3) | (with_reducible refine (writeString_any w.heap.size w.heap.size _ t _ HO3.out (by have := HLN.out; rw [List.length_append]; simp only [List.length_cons, List.length_nil]; omega) HL3.out.size).mono ?_; rintro e w4 ⟨rfl, hb4, hB4⟩; have HO4 := Aside0.mk hb4; have HL4 := Aside0.mk (HL3.out.trans hB4); clear hb4 hB4)))
            go_roundw
            case rel => exact ⟨k + 1, by go_num, ⟨by omega, by rw [HTK.out]; simpa using HO4.out, HL4.out⟩⟩
            case measure => simp [intOf]; omega
          · have e1 : x.data.toList ++ tailJ ((l.drop 1).take k) = joinL l := by
              rw [HJ.out, List.take_of_length_le (by simp; omega)]
            rw [e1] at hho
            have HO := Aside0.mk hho
            have HL := Aside0.mk hbel
            clear hho hbel e1
            go_wp2_with (go_at_call 118; refine (Try.Builder_String_any w.heap.size w.heap.size _ _ (Or.inr HO.out) HL.out.size).mono ?_; rintro e w3 ⟨rfl, hB3⟩; have HL3 := Aside0.mk (HL.out.trans hB3); clear hB3)
            go_ret
            exact ⟨rfl, HL3.out⟩

set_option maxHeartbeats 1000000 in
set_option maxRecDepth 100000 in
theorem lists_Join.calls (A0 : Option Addr) (c0 : Nat) (l0 : List ByteArray) (r : ByteArray) (w : World) (hr0 : Kd.C Kd.string w A0 l0.length l0) (hc0 : l0.length ≤ c0) (h : lists_Join.f l0 = some r) :
    Calls Try.prog 75 #[.slice A0 l0.length c0] w fun e w' => e = .returned (.string r) ∧ Below w.heap.size w w' := by
  unfold lists_Join.f at h
  by_cases hb : l0.length ≤ 1000000 ∧ sumL l0 ≤ 1000000000
  · rw [if_pos hb] at h
    obtain rfl := Option.some.inj h
    clear h
    have HR := Aside0.mk hr0
    clear hr0
    go_enter Try.func75, Try.ntmps75
    go_wp2_with (go_at_call 97; refine (strings_Join_any A0 c0 l0 _ HR.out hc0 hb.1 hb.2).mono ?_; rintro e w1 ⟨rfl, hb1⟩; have HB1 := Aside0.mk hb1; clear hb1)
    go_ret
    exact ⟨rfl, HB1.out⟩
  · rw [if_neg hb] at h
    exact absurd h (by simp)
end Go.Proofs.Ytacglolggaobdab.PAll
end
