/- diff.Apply comes to what diff_Apply.f says: the lines that rows applied to a list of lines give, and whether they fit (at most 100000 rows). -/
import Derived.Test.YtacglolggaobdabPAllx0
namespace Go.Proofs.Ytacglolggaobdab.PAll
open Go.RowKit Go.Proofs.YtacglolggaobdabW.PrintWords Go.Proofs.YtacglolggaobdabW.PrintLast Go.Proofs.YtacglolggaobdabW.PrintMore
set_option linter.unusedVariables false
set_option linter.unusedSimpArgs false

def applyF : List ByteArray → List S32 → List ByteArray → List ByteArray × Bool
  | left, [], out => if left.length = 0 then (out, true) else ([], false)
  | left, r :: l, out =>
    if r.f0 < 0 ∨ r.f0 > 2 then ([], false)
    else if r.f0 = 2 then applyF left l (out ++ [r.f1])
    else if left.length = 0 then ([], false)
    else if (left.getD 0 ByteArray.empty).toList = r.f1.toList then applyF (left.drop 1) l (if r.f0 = 1 then out else out ++ [r.f1])
    else ([], false)

def diff_Apply.f (l0 : List ByteArray) (l1 : List S32) : Option (List ByteArray × Bool) := if l1.length ≤ 100000 then some (applyF l0 l1 []) else none

theorem drop_row (l : List S32) (i : Nat) (h : i < l.length) : l.drop i = rd_T32 l (i : Int) :: l.drop (i + 1) := by
  rw [List.drop_eq_getElem_cons h]
  show _ = l.getD i z32 :: _
  rw [List.getD_eq_getElem?_getD, List.getElem?_eq_getElem h]; rfl

theorem slice_full (A : Option Addr) (n c : Nat) (h : n ≤ c) : ∀ W : World, (Instr.slice 22 (.slice A n c) none (some (.int .i64 (n : Int))) (some (.int .i64 (n : Int)))).run Try.prog W = .ok (.slice A n n) W := by
  intro W
  have hel : Try.prog.elem 22 = 9 := by simp [Program.elem, Try.underlying22]
  have hu : Try.prog.underlying 22 = some (.slice (Try.prog.elem 22)) := by rw [hel]; exact Try.underlying22
  obtain ⟨i0, hi, hz0, hz1, hz2⟩ := info_parts info9
  have ha : (A.map fun x => x.add 0) = A := by cases A <;> simp [Addr.add]
  have h0 : (0 : Int) ≤ (n : Int) := by omega
  have h1 : (n : Int) ≤ (c : Int) := by omega
  simp [Instr.slice, run_underlying Try.underlying22, Instr.sliceBounds, run_sliceBound, h1, h0, sizeOf, typeInfo, hi, hz1, ha]

/-- left[1:], left not empty, its capacity its length -/
def tailA (bd : Addr) (n : Nat) : Option Addr := if n = 1 then some bd else some (bd.add 1)
theorem slice_tail (bd : Addr) (n : Nat) (h : 0 < n) : ∀ W : World, (Instr.slice 22 (.slice (some bd) n n) (some (.int .i64 1)) none none).run Try.prog W = .ok (.slice (tailA bd n) (n - 1) (n - 1)) W := by
  intro W
  obtain ⟨i0, hi, hz0, hz1, hz2⟩ := info_parts info9
  have h1 : (1 : Int) ≤ (n : Int) := by omega
  have h1n : 1 ≤ n := h
  simp [Instr.slice, run_underlying Try.underlying22, Instr.sliceBounds, run_sliceBound, h1, h1n, sizeOf, typeInfo, hi, hz1, tailA]
theorem C_drop1 {w : World} {bd : Addr} {left : List ByteArray} (h : Kd.C Kd.string w (some bd) left.length left) (hp : 0 < left.length) : Kd.C Kd.string w (tailA bd left.length) (left.drop 1).length (left.drop 1) := by
  have := Kd.C_drop (m := 1) (c := left.length) h hp (Nat.le_refl _)
  unfold tailA
  exact this

/-- What the loop holds at every head. -/
def ApplyAt (a : List ByteArray) (l : List S32) (w : World) (i : Nat) (A : Option Addr) (left out : List ByteArray) (v : Value) (wr : World) : Prop :=
  i ≤ l.length ∧ out.length ≤ i ∧ Kd.C Kd.string w A left.length left ∧ Kd.R Kd.string 9 wr w.heap.size (fun _ => True) v out ∧ Below w.heap.size w wr ∧ applyF a l [] = applyF left (l.drop i) out

set_option maxHeartbeats 8000000 in
set_option maxRecDepth 100000 in
theorem diff_Apply.calls (A0 : Option Addr) (c0 : Nat) (l0 : List ByteArray) (A1 : Option Addr) (c1 : Nat) (l1 : List (S32)) (r1 : List ByteArray) (r2 : Bool) (w : World) (hr0 : Kd.C Kd.string w A0 l0.length l0) (hc0 : l0.length ≤ c0) (hr1 : Kd.C k32 w A1 l1.length l1) (hc1 : l1.length ≤ c1) (h : diff_Apply.f l0 l1 = some (r1, r2)) :
    Calls Try.prog 18 #[.slice A0 l0.length c0, .slice A1 l1.length c1] w fun e w' => ∃ v0_ : Value, e = .returned (.tuple #[v0_, .bool r2]) ∧ Kd.R Kd.string 9 w' w.heap.size (fun _ => True) v0_ r1 ∧ Below w.heap.size w w' := by
  unfold diff_Apply.f at h
  by_cases hb : l1.length ≤ 100000
  · rw [if_pos hb] at h
    have h' := Option.some.inj h
    clear h
    have hsl := slice_full A0 l0.length c0 hc0
    have hu32 := Try.underlying32
    have HF := Aside0.mk h'
    have HR0 := Aside0.mk hr0
    have HR1 := Aside0.mk hr1
    clear h' hr0 hr1
    go_enter Try.func18, Try.ntmps18
    go_wp2
    clear hsl
    go_loopw [6, 7, 18] (fun v6 v7 v18 wr => ∃ (i : Nat) (A : Option Addr) (left out : List ByteArray), v18 = .int .i64 i ∧ v7 = .slice A left.length left.length ∧ Aside0 (ApplyAt l0 l1 w i A left out v6 wr)) (fun _ _ v18 _ => l1.length - (intOf v18).toNat)
    case atStart => exact ⟨0, A0, l0, [], rfl, rfl, ⟨Nat.zero_le _, Nat.le_refl _, HR0.out, Kd.R_nil _ _ _ _ _, Below.refl _ _, rfl⟩⟩
    case round =>
      obtain ⟨i, A, left, out, rfl, rfl, HL⟩ := hrel
      obtain ⟨hi, hol, hC, hO, hB, hE⟩ := HL.out
      clear HL
      by_cases hil : i < l1.length
      · have b1 : decide ((i : Int) < (l1.length : Int)) = true := decide_eq_true (by omega)
        have b1n : decide (i < l1.length) = true := decide_eq_true hil
        obtain ⟨ad, e1, hx0, hx1⟩ := at_T32 (Kd.C_below HR1.out hB) (i : Int) (by omega) (by omega)
        subst e1
        rw [Int.toNat_natCast] at hx0 hx1
        rw [drop_row l1 i hil] at hE
        obtain ⟨q, hq⟩ : ∃ q, q = rd_T32 l1 (i : Int) := ⟨_, rfl⟩
        rw [← hq] at hx0 hx1 hE
        clear hq
        obtain ⟨f, s⟩ := q
        have HE := Aside0.mk hE
        have HO := Aside0.mk hO
        have HB := Aside0.mk hB
        have HC := Aside0.mk hC
        clear hE hO hB hC
        obtain ⟨Ao, co, eo⟩ := Kd.R_slice HO.out
        subst eo
        by_cases hf0 : f < 0
        · have b2 : decide (f < 0) = true := decide_eq_true hf0
          go_wp2
          go_ret2
          have hE := HF.out.symm.trans HE.out
          simp only [applyF] at hE
          rw [if_pos (Or.inl hf0)] at hE
          obtain ⟨rfl, rfl⟩ := Prod.mk.inj hE
          exact ⟨_, rfl, Kd.R_nil _ _ _ _ _, by first | exact HB.out.alloc HB.out.size _ | (refine Below.setCell (HB.out.alloc HB.out.size _) HB.out.size _)⟩
        · have b2 : decide (f < 0) = false := decide_eq_false hf0
          by_cases hf2 : f > 2
          · have b3 : decide (2 < f) = true := decide_eq_true hf2
            go_wp2
            go_ret2
            have hE := HF.out.symm.trans HE.out
            simp only [applyF] at hE
            rw [if_pos (Or.inr hf2)] at hE
            obtain ⟨rfl, rfl⟩ := Prod.mk.inj hE
            exact ⟨_, rfl, Kd.R_nil _ _ _ _ _, HB.out.alloc HB.out.size _⟩
          · have b3 : decide (2 < f) = false := decide_eq_false hf2
            by_cases he2 : f = 2
            · subst he2
              go_wp2_with (at_builtin; refine Kd.R_append Kd.string (w0 := w) w.heap.size rfl (.tmp 49) (.tmp 52) 22 9 (.string ⟨#[]⟩) 16 rfl Try.underlying22 info9 rfl (by decide) (by omega) (.slice Ao out.length co) out s [.string s] (fun _ => True) (fun _ => False) rfl ?aX ?aP (fun _ hk => hk.elim) (fun _ _ => trivial) ?aO ?aB ?aS ?aL ?_; (case aX => exact congrArg (fun q => Value.slice (some ⟨q, 0, none⟩) 1 1) (World.size_alloc _ _).symm); (case aP => rfl); (case aO => exact Kd.R_alloc HO.out _); (case aB => exact HB.out.alloc HB.out.size _); (case aS => exact (HB.out.alloc HB.out.size _).size); (case aL => omega); intro v1 w1 ho hb hg hat; have HO1 := Aside0.mk ho; have HB1 := Aside0.mk hb; clear ho hb hg hat)
              go_roundw
              case rel => exact ⟨i + 1, A, left, out ++ [s], by go_num, rfl, ⟨by omega, by simp; omega, HC.out, HO1.out, HB1.out, by rw [HE.out]; simp [applyF]⟩⟩
              case measure => simp [intOf]; omega
            · have b4 : (f != 2) = true := bne_iff_ne.2 he2
              by_cases hl0 : left.length = 0
              · have b5 : ((left.length : Int) == 0) = true := beq_iff_eq.2 (by omega)
                have b5n : (left.length == 0) = true := beq_iff_eq.2 hl0
                go_wp2
                go_quiet (fail)
                go_wp2
                go_ret2
                have hE := HF.out.symm.trans HE.out
                simp only [applyF] at hE
                rw [if_neg (by omega), if_neg he2, if_pos hl0] at hE
                obtain ⟨rfl, rfl⟩ := Prod.mk.inj hE
                exact ⟨_, rfl, Kd.R_nil _ _ _ _ _, pw_below_drewN (HB.out.alloc HB.out.size _) _⟩
              · have b5 : ((left.length : Int) == 0) = false := beq_eq_false_iff_ne.2 (by omega)
                have b5n : (left.length == 0) = false := beq_eq_false_iff_ne.2 hl0
                have hp : 0 < left.length := by omega
                have hpi : (0 : Int) < (left.length : Int) := by omega
                obtain ⟨bd, e2, hy⟩ := Kd.at_string (Kd.C_below HC.out HB.out) 0 (by omega) (by omega)
                subst e2
                have hcut := C_drop1 HC.out hp
                have hrun := slice_tail bd left.length hp
                have HCUT := Aside0.mk hcut
                clear hcut
                rw [show ((0 : Int)).toNat = 0 from rfl, Addr.add_zero'] at hy
                obtain ⟨y, hy'⟩ : ∃ y, y = rdOf ByteArray.empty left 0 := ⟨_, rfl⟩
                rw [← hy'] at hy
                have hy2 : (wr.alloc (.cells #[.int .i64 f, .string s] 32)).cell? bd = some (.string y) := pw_cell_below (below_alloc (Below.refl _ _) _) hy
                have HY := Aside0.mk hy'
                clear hy'
                by_cases hys : y.toList = s.toList
                · have b6 : (y.toList == s.toList) = true := beq_iff_eq.2 hys
                  have b6' : (!(y.toList == s.toList)) = false := by rw [b6]; rfl
                  have HYS := Aside0.mk hys
                  clear hys
                  by_cases he1 : f = 1
                  · subst he1
                    go_wp2
                    go_quiet (fail)
                    go_wp2
                    go_roundw
                    case rel => exact ⟨i + 1, tailA bd left.length, left.drop 1, out, by go_num, by rw [List.length_drop], ⟨by omega, by omega, HCUT.out, Kd.R_drewN (Kd.R_alloc HO.out _) _, pw_below_drewN (HB.out.alloc HB.out.size _) _, by rw [HE.out]; simp only [applyF]; rw [if_neg (by omega), if_neg (by omega), if_neg hl0, if_pos (by have := HYS.out; rw [HY.out] at this; exact this), if_pos trivial]⟩⟩
                    case measure => simp [intOf]; omega
                  · have b7 : (f != 1) = true := bne_iff_ne.2 he1
                    go_wp2
                    go_quiet (fail)
                    go_wp2_with (at_builtin; refine Kd.R_append Kd.string (w0 := w) w.heap.size rfl (.tmp 49) (.tmp 52) 22 9 (.string ⟨#[]⟩) 16 rfl Try.underlying22 info9 rfl (by decide) (by omega) (.slice Ao out.length co) out s [.string s] (fun _ => True) (fun _ => False) rfl ?aX ?aP (fun _ hk => hk.elim) (fun _ _ => trivial) ?aO ?aB ?aS ?aL ?_; (case aX => exact congrArg (fun q => Value.slice (some ⟨q, 0, none⟩) 1 1) (World.size_alloc _ _).symm); (case aP => rfl); (case aO => exact Kd.R_drewN (Kd.R_alloc HO.out _) _); (case aB => exact pw_below_drewN (HB.out.alloc HB.out.size _) _); (case aS => exact (pw_below_drewN (HB.out.alloc HB.out.size _) _).size); (case aL => omega); intro v1 w1 ho hb hg hat; have HO1 := Aside0.mk ho; have HB1 := Aside0.mk hb; clear ho hb hg hat)
                    go_roundw
                    case rel => exact ⟨i + 1, tailA bd left.length, left.drop 1, out ++ [s], by go_num, by rw [List.length_drop], ⟨by omega, by simp; omega, HCUT.out, HO1.out, HB1.out, by rw [HE.out]; simp only [applyF]; rw [if_neg (by omega), if_neg he2, if_neg hl0, if_pos (by have := HYS.out; rw [HY.out] at this; exact this), if_neg he1]⟩⟩
                    case measure => simp [intOf]; omega
                · have b6 : (y.toList == s.toList) = false := beq_eq_false_iff_ne.2 hys
                  have b6' : (!(y.toList == s.toList)) = true := by rw [b6]; rfl
                  have HYS := Aside0.mk hys
                  clear hys
                  go_wp2
                  go_quiet (fail)
                  go_wp2
                  go_ret2
                  have hE := HF.out.symm.trans HE.out
                  simp only [applyF] at hE
                  rw [if_neg (by omega), if_neg he2, if_neg hl0, if_neg (by have := HYS.out; rw [HY.out] at this; exact this)] at hE
                  obtain ⟨rfl, rfl⟩ := Prod.mk.inj hE
                  exact ⟨_, rfl, Kd.R_nil _ _ _ _ _, pw_below_drewN (HB.out.alloc HB.out.size _) _⟩
      · have b1 : decide ((i : Int) < (l1.length : Int)) = false := decide_eq_false (by omega)
        have b1n : decide (i < l1.length) = false := decide_eq_false hil
        obtain ⟨Ao, co, eo⟩ := Kd.R_slice hO
        subst eo
        have HE := Aside0.mk hE
        have HO := Aside0.mk hO
        have HB := Aside0.mk hB
        clear hE hO hB hC
        by_cases hl0 : left.length = 0
        · have b5 : decide ((0 : Int) < (left.length : Int)) = false := decide_eq_false (by omega)
          have b5n : decide (0 < left.length) = false := decide_eq_false (by omega)
          go_wp2
          go_ret2
          have hE := HF.out.symm.trans HE.out
          rw [List.drop_eq_nil_of_le (by omega)] at hE
          simp only [applyF] at hE
          rw [if_pos hl0] at hE
          obtain ⟨rfl, rfl⟩ := Prod.mk.inj hE
          exact ⟨_, rfl, HO.out, HB.out⟩
        · have b5 : decide ((0 : Int) < (left.length : Int)) = true := decide_eq_true (by omega)
          have b5n : decide (0 < left.length) = true := decide_eq_true (by omega)
          go_wp2
          go_ret2
          have hE := HF.out.symm.trans HE.out
          rw [List.drop_eq_nil_of_le (by omega)] at hE
          simp only [applyF] at hE
          rw [if_neg hl0] at hE
          obtain ⟨rfl, rfl⟩ := Prod.mk.inj hE
          exact ⟨_, rfl, Kd.R_nil _ _ _ _ _, HB.out⟩
  · rw [if_neg hb] at h
    cases h
end Go.Proofs.Ytacglolggaobdab.PAll
