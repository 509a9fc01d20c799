/- The law DiffHeads, walked: it returns true at every two heads whose status is a number of 64 bits. -/
import Derived.Test.YtacglolggaobdabMHeads
import Derived.Test.YtacglolggaobdabPAllx3
import Derived.Test.YtacglolggaobdabPAllx3
import Derived.Deep.RegionHeld3
section
namespace Go.Proofs.Ytacglolggaobdab.PAll
open Go.RowKit Go.Proofs.Ytacglolggaobdab.Hn Go.Proofs.Ytacglolggaobdab.CF Go.Proofs.Ytacglolggaobdab.MH Go.Proofs.Ytacglolggaobdab.MR Go.Proofs.Ytacglolggaobdab.MHd Go.Proofs.YtacglolggaobdabW.PrintWords Go.Proofs.YtacglolggaobdabW.PrintLast Go.Proofs.YtacglolggaobdabW.PrintMore
open Go.Proofs.Ytacglolggaobdab.MDiff (lives_comes)
set_option linter.unusedVariables false
set_option linter.unusedSimpArgs false

set_option maxHeartbeats 1000000 in
set_option maxRecDepth 100000 in
theorem dheads_any (a0_0 : ByteArray) (a0_1 : ByteArray) (a0_2 : Int) (a0_3 : Int) (a0_4 : ByteArray) (A0_5 : Option Addr) (c0_5 : Nat) (l0_5 : List (S83)) (a1_0 : ByteArray) (a1_1 : ByteArray) (a1_2 : Int) (a1_3 : Int) (a1_4 : ByteArray) (A1_5 : Option Addr) (c1_5 : Nat) (l1_5 : List (S83)) (w : World) (hr0_5 : Kd.C k83 w A0_5 l0_5.length l0_5) (hc0_5 : l0_5.length ≤ c0_5) (hr1_5 : Kd.C k83 w A1_5 l1_5.length l1_5) (hc1_5 : l1_5.length ≤ c1_5)
    (k1 k2 k3 : Nat) (s1 s2 : Bool) (h1 : abutmentlaw22_Short.f k1 a0_0 a0_1 a0_2 a0_3 a0_4 l0_5 = some s1) (h2 : abutmentlaw22_Short.f k2 a1_0 a1_1 a1_2 a1_3 a1_4 l1_5 = some s2) (h3 : abutmentlaw51_lives.f k3 = some true)
    (hgo : s1 = true → s2 = true → l0_5.length ≤ 12 → l1_5.length ≤ 12 → ∃ k4 k5 X, diff_Heads.f a0_0 a0_1 a0_2 a0_3 a0_4 l0_5 a1_0 a1_1 a1_2 a1_3 a1_4 l1_5 = some X ∧ abutmentref51_Heads.f k4 a0_0 a0_1 a0_2 a0_3 a0_4 l0_5 a1_0 a1_1 a1_2 a1_3 a1_4 l1_5 = some X ∧ abutmentref01_Same.f k5 X X = some true) :
    Calls Try.prog 6 #[.agg #[.string a0_0, .string a0_1, .int .i64 a0_2, .int .i64 a0_3, .string a0_4, .slice A0_5 l0_5.length c0_5], .agg #[.string a1_0, .string a1_1, .int .i64 a1_2, .int .i64 a1_3, .string a1_4, .slice A1_5 l1_5.length c1_5]] w fun e w' => e = .returned (.bool true) ∧ Below w.heap.size w w' := by
  have HR0 := Aside0.mk hr0_5
  have HR1 := Aside0.mk hr1_5
  have H1 := Aside0.mk h1
  have H2 := Aside0.mk h2
  have H3 := Aside0.mk h3
  have HGO := Aside0.mk hgo
  clear hr0_5 hr1_5 h1 h2 h3 hgo
  go_enter Try.func6, Try.ntmps6
  go_wp2_with fail
  obtain ⟨W0, hW0⟩ : ∃ W0, W0 = (w.alloc (.cells #[.string a0_0, .string a0_1, .int .i64 a0_2, .int .i64 a0_3, .string a0_4, .slice A0_5 l0_5.length c0_5] 41)).alloc (.cells #[.string a1_0, .string a1_1, .int .i64 a1_2, .int .i64 a1_3, .string a1_4, .slice A1_5 l1_5.length c1_5] 41) := ⟨_, rfl⟩
  rw [← hW0]
  have B0 : Below w.heap.size w W0 := by rw [hW0]; exact below_alloc (below_alloc (Below.refl _ _) _) _
  have PA : W0.heap[w.heap.size]? = some (.cells #[.string a0_0, .string a0_1, .int .i64 a0_2, .int .i64 a0_3, .string a0_4, .slice A0_5 l0_5.length c0_5] 41 (0, 0)) := by rw [hW0]; exact (Below.heap_alloc _ _ _ (by simp)).trans (heap_alloc_new w _)
  have PB : W0.heap[w.heap.size + 1]? = some (.cells #[.string a1_0, .string a1_1, .int .i64 a1_2, .int .i64 a1_3, .string a1_4, .slice A1_5 l1_5.length c1_5] 41 (0, 0)) := by
    rw [hW0]
    have := heap_alloc_new (w.alloc (.cells #[.string a0_0, .string a0_1, .int .i64 a0_2, .int .i64 a0_3, .string a0_4, .slice A0_5 l0_5.length c0_5] 41)) (.cells #[.string a1_0, .string a1_1, .int .i64 a1_2, .int .i64 a1_3, .string a1_4, .slice A1_5 l1_5.length c1_5] 41)
    rwa [World.size_alloc] at this
  clear hW0
  obtain ⟨ca0, ca1, ca2, ca3, ca4, ca5⟩ := cells6 PA; obtain ⟨cb0, cb1, cb2, cb3, cb4, cb5⟩ := cells6 PB
  have FB := Aside0.mk B0
  have FA := Aside0.mk (And.intro PA PB)
  clear B0 PA PB
  have tok1 : Aside0 True := ⟨trivial⟩
  cases s1 with
  | false =>
    go_wp2_with (go_at_call 22; have _t := tok1; refine (abutmentlaw22_Short.calls k1 a0_0 a0_1 a0_2 a0_3 a0_4 A0_5 c0_5 l0_5 false W0 (Kd.C_below HR0.out FB.out) hc0_5 H1.out).mono ?_; rintro e w1 ⟨rfl, b1⟩; clear tok1; clear ca0 cb0 ca1 cb1 ca2 cb2 ca3 cb3 ca4 cb4 ca5 cb5; have PA := (b1.block _ (by first | exact blk_lt FA.out.1 | (simp; exact blk_lt FA.out.1))).trans FA.out.1; have PB := (b1.block _ (by first | exact blk_lt FA.out.2 | (simp; exact blk_lt FA.out.2))).trans FA.out.2; obtain ⟨ca0, ca1, ca2, ca3, ca4, ca5⟩ := cells6 PA; obtain ⟨cb0, cb1, cb2, cb3, cb4, cb5⟩ := cells6 PB; have FA1 := Aside0.mk (And.intro PA PB); have FB1 := Aside0.mk (below_step (by first | exact FB.out | exact below_drew1 FB.out | exact pw_below_drewN FB.out _) b1); clear PA PB b1)
    go_wp2_with (go_at_call 14; refine (abutmentlaw51_lives.calls k3 true _ H3.out).mono ?_; rintro e wz ⟨rfl, bz⟩; have HZ := Aside0.mk (below_step (by first | exact FB1.out | exact below_drew1 FB1.out | exact pw_below_drewN FB1.out _) bz); clear bz)
    go_ret
    exact ⟨rfl, HZ.out⟩
  | true =>
    go_wp2_with (go_at_call 22; have _t := tok1; refine (abutmentlaw22_Short.calls k1 a0_0 a0_1 a0_2 a0_3 a0_4 A0_5 c0_5 l0_5 true W0 (Kd.C_below HR0.out FB.out) hc0_5 H1.out).mono ?_; rintro e w1 ⟨rfl, b1⟩; clear tok1; clear ca0 cb0 ca1 cb1 ca2 cb2 ca3 cb3 ca4 cb4 ca5 cb5; have PA := (b1.block _ (by first | exact blk_lt FA.out.1 | (simp; exact blk_lt FA.out.1))).trans FA.out.1; have PB := (b1.block _ (by first | exact blk_lt FA.out.2 | (simp; exact blk_lt FA.out.2))).trans FA.out.2; obtain ⟨ca0, ca1, ca2, ca3, ca4, ca5⟩ := cells6 PA; obtain ⟨cb0, cb1, cb2, cb3, cb4, cb5⟩ := cells6 PB; have FA1 := Aside0.mk (And.intro PA PB); have FB1 := Aside0.mk (below_step (by first | exact FB.out | exact below_drew1 FB.out | exact pw_below_drewN FB.out _) b1); clear PA PB b1)
    cases s2 with
    | false =>
      go_wp2_with (go_at_call 22; refine (abutmentlaw22_Short.calls k2 a1_0 a1_1 a1_2 a1_3 a1_4 A1_5 c1_5 l1_5 false w1 (Kd.C_below HR1.out FB1.out) hc1_5 H2.out).mono ?_; rintro e w2 ⟨rfl, b2⟩; clear ca0 cb0 ca1 cb1 ca2 cb2 ca3 cb3 ca4 cb4 ca5 cb5; have PA := (b2.block _ (by first | exact blk_lt FA1.out.1 | (simp; exact blk_lt FA1.out.1))).trans FA1.out.1; have PB := (b2.block _ (by first | exact blk_lt FA1.out.2 | (simp; exact blk_lt FA1.out.2))).trans FA1.out.2; obtain ⟨ca0, ca1, ca2, ca3, ca4, ca5⟩ := cells6 PA; obtain ⟨cb0, cb1, cb2, cb3, cb4, cb5⟩ := cells6 PB; have FA2 := Aside0.mk (And.intro PA PB); have FB2 := Aside0.mk (below_step (by first | exact FB1.out | exact below_drew1 FB1.out | exact pw_below_drewN FB1.out _) b2); clear PA PB b2)
      go_wp2_with (go_at_call 14; refine (abutmentlaw51_lives.calls k3 true _ H3.out).mono ?_; rintro e wz ⟨rfl, bz⟩; have HZ := Aside0.mk (below_step (by first | exact FB2.out | exact below_drew1 FB2.out | exact pw_below_drewN FB2.out _) bz); clear bz)
      go_ret
      exact ⟨rfl, HZ.out⟩
    | true =>
      by_cases hl0 : l0_5.length ≤ 12
      · have m0 : ¬ (l0_5.length : Int) > 12 := by omega
        have m0b : decide ((l0_5.length : Int) > 12) = false := decide_eq_false m0
        have m0c : ¬ (12 : Int) < (l0_5.length : Int) := by omega
        have m0d : ¬ 12 < l0_5.length := by omega
        have m0e : decide (12 < l0_5.length) = false := decide_eq_false m0d
        have m0f : decide ((12 : Int) < (l0_5.length : Int)) = false := decide_eq_false m0c
        by_cases hl1 : l1_5.length ≤ 12
        · have m1 : ¬ (l1_5.length : Int) > 12 := by omega
          have m1b : decide ((l1_5.length : Int) > 12) = false := decide_eq_false m1
          have m1c : ¬ (12 : Int) < (l1_5.length : Int) := by omega
          have m1d : ¬ 12 < l1_5.length := by omega
          have m1e : decide (12 < l1_5.length) = false := decide_eq_false m1d
          have m1f : decide ((12 : Int) < (l1_5.length : Int)) = false := decide_eq_false m1c
          go_wp2_with (go_at_call 22; refine (abutmentlaw22_Short.calls k2 a1_0 a1_1 a1_2 a1_3 a1_4 A1_5 c1_5 l1_5 true w1 (Kd.C_below HR1.out FB1.out) hc1_5 H2.out).mono ?_; rintro e w2 ⟨rfl, b2⟩; clear ca0 cb0 ca1 cb1 ca2 cb2 ca3 cb3 ca4 cb4 ca5 cb5; have PA := (b2.block _ (by first | exact blk_lt FA1.out.1 | (simp; exact blk_lt FA1.out.1))).trans FA1.out.1; have PB := (b2.block _ (by first | exact blk_lt FA1.out.2 | (simp; exact blk_lt FA1.out.2))).trans FA1.out.2; obtain ⟨ca0, ca1, ca2, ca3, ca4, ca5⟩ := cells6 PA; obtain ⟨cb0, cb1, cb2, cb3, cb4, cb5⟩ := cells6 PB; have FA2 := Aside0.mk (And.intro PA PB); have FB2 := Aside0.mk (below_step (by first | exact FB1.out | exact below_drew1 FB1.out | exact pw_below_drewN FB1.out _) b2); clear PA PB b2)
          go_wp2_with fail
          obtain ⟨k4, k5, X, hX1, hX2, hX3⟩ := HGO.out (by first | rfl | trivial) (by first | rfl | trivial) hl0 hl1
          have X1 := Aside0.mk hX1
          have X2 := Aside0.mk hX2
          have X3 := Aside0.mk hX3
          clear hX1 hX2 hX3
          go_region_held3 (fun w' => w'.cell? ⟨w.heap.size, 0, none⟩ = some (.string a0_0) ∧ w'.cell? ⟨w.heap.size, 1, none⟩ = some (.string a0_1) ∧ w'.cell? ⟨w.heap.size, 2, none⟩ = some (.int .i64 a0_2) ∧ w'.cell? ⟨w.heap.size, 3, none⟩ = some (.int .i64 a0_3) ∧ w'.cell? ⟨w.heap.size, 4, none⟩ = some (.string a0_4) ∧ w'.cell? ⟨w.heap.size, 5, none⟩ = some (.slice A0_5 l0_5.length c0_5) ∧ w'.cell? ⟨w.heap.size + 1, 0, none⟩ = some (.string a1_0) ∧ w'.cell? ⟨w.heap.size + 1, 1, none⟩ = some (.string a1_1) ∧ w'.cell? ⟨w.heap.size + 1, 2, none⟩ = some (.int .i64 a1_2) ∧ w'.cell? ⟨w.heap.size + 1, 3, none⟩ = some (.int .i64 a1_3) ∧ w'.cell? ⟨w.heap.size + 1, 4, none⟩ = some (.string a1_4) ∧ w'.cell? ⟨w.heap.size + 1, 5, none⟩ = some (.slice A1_5 l1_5.length c1_5)) (first | assumption | go_keep)
            (first
              | (go_at_call 23; refine (diff_Heads.calls a0_0 a0_1 a0_2 a0_3 a0_4 A0_5 c0_5 l0_5 a1_0 a1_1 a1_2 a1_3 a1_4 A1_5 c1_5 l1_5 X _ (Kd.C_below HR0.out (by first | exact FB2.out | exact below_drew1 FB2.out | exact pw_below_drewN FB2.out _)) hc0_5 (Kd.C_below HR1.out (by first | exact FB2.out | exact below_drew1 FB2.out | exact pw_below_drewN FB2.out _)) hc1_5 X1.out).mono ?_; rintro e w3 ⟨v3, rfl, r3, b3⟩; clear ca0 cb0 ca1 cb1 ca2 cb2 ca3 cb3 ca4 cb4 ca5 cb5; obtain ⟨q3, c3, rfl, hl3, hC3⟩ := Kd.R_reads r3; have R3 := Aside0.mk (And.intro hl3 hC3); have PA := (b3.block _ (by first | exact blk_lt FA2.out.1 | (simp; exact blk_lt FA2.out.1))).trans FA2.out.1; have PB := (b3.block _ (by first | exact blk_lt FA2.out.2 | (simp; exact blk_lt FA2.out.2))).trans FA2.out.2; obtain ⟨ca0, ca1, ca2, ca3, ca4, ca5⟩ := cells6 PA; obtain ⟨cb0, cb1, cb2, cb3, cb4, cb5⟩ := cells6 PB; have FA3 := Aside0.mk (And.intro PA PB); have FB3 := Aside0.mk (below_step (by first | exact FB2.out | exact below_drew1 FB2.out | exact pw_below_drewN FB2.out _) b3); clear PA PB b3; clear r3 hl3 hC3)
              | (go_at_call 24; refine (abutmentref51_Heads.calls k4 a0_0 a0_1 a0_2 a0_3 a0_4 A0_5 c0_5 l0_5 a1_0 a1_1 a1_2 a1_3 a1_4 A1_5 c1_5 l1_5 X _ (Kd.C_below HR0.out (by first | exact FB3.out | exact below_drew1 FB3.out | exact pw_below_drewN FB3.out _)) hc0_5 (Kd.C_below HR1.out (by first | exact FB3.out | exact below_drew1 FB3.out | exact pw_below_drewN FB3.out _)) hc1_5 X2.out).mono ?_; rintro e w4 ⟨v4, rfl, r4, b4⟩; clear ca0 cb0 ca1 cb1 ca2 cb2 ca3 cb3 ca4 cb4 ca5 cb5; obtain ⟨q4, c4, rfl, hl4, hC4⟩ := Kd.R_reads r4; have R4 := Aside0.mk (And.intro hl4 hC4); have R34 := Aside0.mk (Kd.C_below R3.out.2 b4); have PA := (b4.block _ (by first | exact blk_lt FA3.out.1 | (simp; exact blk_lt FA3.out.1))).trans FA3.out.1; have PB := (b4.block _ (by first | exact blk_lt FA3.out.2 | (simp; exact blk_lt FA3.out.2))).trans FA3.out.2; obtain ⟨ca0, ca1, ca2, ca3, ca4, ca5⟩ := cells6 PA; obtain ⟨cb0, cb1, cb2, cb3, cb4, cb5⟩ := cells6 PB; have FA4 := Aside0.mk (And.intro PA PB); have FB4 := Aside0.mk (below_step (by first | exact FB3.out | exact below_drew1 FB3.out | exact pw_below_drewN FB3.out _) b4); clear PA PB b4; clear r4 hl4 hC4)
              | (go_at_call 21; refine (abutmentref01_Same.calls k5 q3 c3 X q4 c4 X true _ R34.out R3.out.1 R4.out.2 R4.out.1 X3.out).mono ?_; rintro e w5 ⟨rfl, d5⟩; have b5 := d5.below; clear ca0 cb0 ca1 cb1 ca2 cb2 ca3 cb3 ca4 cb4 ca5 cb5; have PA := (b5.block _ (by first | exact blk_lt FA4.out.1 | (simp; exact blk_lt FA4.out.1))).trans FA4.out.1; have PB := (b5.block _ (by first | exact blk_lt FA4.out.2 | (simp; exact blk_lt FA4.out.2))).trans FA4.out.2; obtain ⟨ca0, ca1, ca2, ca3, ca4, ca5⟩ := cells6 PA; obtain ⟨cb0, cb1, cb2, cb3, cb4, cb5⟩ := cells6 PB; have FA5 := Aside0.mk (And.intro PA PB); have FB5 := Aside0.mk (below_step (by first | exact FB4.out | exact below_drew1 FB4.out | exact pw_below_drewN FB4.out _) b5); clear PA PB b5; clear d5)
              | (go_at_call 14; refine (abutmentlaw51_lives.calls k3 true _ H3.out).mono ?_; rintro e w6 ⟨rfl, b6⟩; clear ca0 cb0 ca1 cb1 ca2 cb2 ca3 cb3 ca4 cb4 ca5 cb5; have PA := (b6.block _ (by first | exact blk_lt FA5.out.1 | (simp; exact blk_lt FA5.out.1))).trans FA5.out.1; have PB := (b6.block _ (by first | exact blk_lt FA5.out.2 | (simp; exact blk_lt FA5.out.2))).trans FA5.out.2; obtain ⟨ca0, ca1, ca2, ca3, ca4, ca5⟩ := cells6 PA; obtain ⟨cb0, cb1, cb2, cb3, cb4, cb5⟩ := cells6 PB; have FA6 := Aside0.mk (And.intro PA PB); have FB6 := Aside0.mk (below_step (by first | exact FB5.out | exact below_drew1 FB5.out | exact pw_below_drewN FB5.out _) b6); clear PA PB b6))
          go_wp2
          go_ret
          exact ⟨rfl, FB6.out⟩
        · have m1 : (l1_5.length : Int) > 12 := by omega
          have m1b : decide ((l1_5.length : Int) > 12) = true := decide_eq_true m1
          have m1c : (12 : Int) < (l1_5.length : Int) := by omega
          have m1d : 12 < l1_5.length := by omega
          have m1e : decide (12 < l1_5.length) = true := decide_eq_true m1d
          have m1f : decide ((12 : Int) < (l1_5.length : Int)) = true := decide_eq_true m1c
          go_wp2_with (go_at_call 22; refine (abutmentlaw22_Short.calls k2 a1_0 a1_1 a1_2 a1_3 a1_4 A1_5 c1_5 l1_5 true w1 (Kd.C_below HR1.out FB1.out) hc1_5 H2.out).mono ?_; rintro e w2 ⟨rfl, b2⟩; clear ca0 cb0 ca1 cb1 ca2 cb2 ca3 cb3 ca4 cb4 ca5 cb5; have PA := (b2.block _ (by first | exact blk_lt FA1.out.1 | (simp; exact blk_lt FA1.out.1))).trans FA1.out.1; have PB := (b2.block _ (by first | exact blk_lt FA1.out.2 | (simp; exact blk_lt FA1.out.2))).trans FA1.out.2; obtain ⟨ca0, ca1, ca2, ca3, ca4, ca5⟩ := cells6 PA; obtain ⟨cb0, cb1, cb2, cb3, cb4, cb5⟩ := cells6 PB; have FA2 := Aside0.mk (And.intro PA PB); have FB2 := Aside0.mk (below_step (by first | exact FB1.out | exact below_drew1 FB1.out | exact pw_below_drewN FB1.out _) b2); clear PA PB b2)
          go_wp2_with (go_at_call 14; refine (abutmentlaw51_lives.calls k3 true _ H3.out).mono ?_; rintro e wz ⟨rfl, bz⟩; have HZ := Aside0.mk (below_step (by first | exact FB2.out | exact below_drew1 FB2.out | exact pw_below_drewN FB2.out _) bz); clear bz)
          go_ret
          exact ⟨rfl, HZ.out⟩
      · have m0 : (l0_5.length : Int) > 12 := by omega
        have m0b : decide ((l0_5.length : Int) > 12) = true := decide_eq_true m0
        have m0c : (12 : Int) < (l0_5.length : Int) := by omega
        have m0d : 12 < l0_5.length := by omega
        have m0e : decide (12 < l0_5.length) = true := decide_eq_true m0d
        have m0f : decide ((12 : Int) < (l0_5.length : Int)) = true := decide_eq_true m0c
        go_wp2_with (go_at_call 22; refine (abutmentlaw22_Short.calls k2 a1_0 a1_1 a1_2 a1_3 a1_4 A1_5 c1_5 l1_5 true w1 (Kd.C_below HR1.out FB1.out) hc1_5 H2.out).mono ?_; rintro e w2 ⟨rfl, b2⟩; clear ca0 cb0 ca1 cb1 ca2 cb2 ca3 cb3 ca4 cb4 ca5 cb5; have PA := (b2.block _ (by first | exact blk_lt FA1.out.1 | (simp; exact blk_lt FA1.out.1))).trans FA1.out.1; have PB := (b2.block _ (by first | exact blk_lt FA1.out.2 | (simp; exact blk_lt FA1.out.2))).trans FA1.out.2; obtain ⟨ca0, ca1, ca2, ca3, ca4, ca5⟩ := cells6 PA; obtain ⟨cb0, cb1, cb2, cb3, cb4, cb5⟩ := cells6 PB; have FA2 := Aside0.mk (And.intro PA PB); have FB2 := Aside0.mk (below_step (by first | exact FB1.out | exact below_drew1 FB1.out | exact pw_below_drewN FB1.out _) b2); clear PA PB b2)
        go_wp2_with (go_at_call 14; refine (abutmentlaw51_lives.calls k3 true _ H3.out).mono ?_; rintro e wz ⟨rfl, bz⟩; have HZ := Aside0.mk (below_step (by first | exact FB2.out | exact below_drew1 FB2.out | exact pw_below_drewN FB2.out _) bz); clear bz)
        go_ret
        exact ⟨rfl, HZ.out⟩

/-- a head -/
structure S41 where
  f0 : ByteArray
  f1 : ByteArray
  f2 : Int
  f3 : Int
  f4 : ByteArray
  f5 : List S83
def k41 : Kd S41 := Kd.iso (Kd.pair Kd.string (Kd.pair Kd.string (Kd.pair (Kd.int .i64) (Kd.pair (Kd.int .i64) (Kd.pair Kd.string (Kd.slice 83 k83)))))) (fun x : S41 => (x.f0, x.f1, x.f2, x.f3, x.f4, x.f5))
theorem k41_open {w : World} {x : S41} {cs : List Value} (h : k41.K w x cs) : ∃ A c, cs = [.string x.f0, .string x.f1, .int .i64 x.f2, .int .i64 x.f3, .string x.f4, .slice A x.f5.length c] ∧ x.f5.length ≤ c ∧ Kd.C k83 w A x.f5.length x.f5 := by
  obtain ⟨c0, r0, rfl, h0, c1, r1, rfl, h1, c2, r2, rfl, h2, c3, r3, rfl, h3, c4, r4, rfl, h4, A, c, rfl, h5, h6⟩ := h
  obtain rfl : c0 = [.string x.f0] := h0
  obtain rfl : c1 = [.string x.f1] := h1
  obtain rfl : c2 = [.int .i64 x.f2] := h2
  obtain rfl : c3 = [.int .i64 x.f3] := h3
  obtain rfl : c4 = [.string x.f4] := h4
  exact ⟨A, c, rfl, h5, h6⟩
theorem wf_bounds {n : Int} (h : (Lit.int .i64 n).wf = true) : -9223372036854775808 ≤ n ∧ n ≤ 9223372036854775807 := by
  simp [Lit.wf] at h
  have e : IntKind.i64.min = -9223372036854775808 := by decide
  rw [e] at h
  exact h
theorem okH_short {m t re : ByteArray} {mi st : Int} {fs : List S83} (h : shortB m t re fs) (hl : fs.length ≤ 12) (hw : (Lit.int .i64 st).wf = true) : okH m t mi st re fs :=
  ⟨okF_few h.1, by omega, by have := h.2.1; omega, by have := h.2.2.1; omega, by have := h.2.2.2; omega, (wf_bounds hw).1, (wf_bounds hw).2⟩

theorem abutmentlaw51_DiffHeads.calls (a0_0 : ByteArray) (a0_1 : ByteArray) (a0_2 : Int) (a0_3 : Int) (a0_4 : ByteArray) (A0_5 : Option Addr) (c0_5 : Nat) (l0_5 : List (S83)) (a1_0 : ByteArray) (a1_1 : ByteArray) (a1_2 : Int) (a1_3 : Int) (a1_4 : ByteArray) (A1_5 : Option Addr) (c1_5 : Nat) (l1_5 : List (S83)) (r : Bool) (w : World) (hr0_5 : Kd.C k83 w A0_5 l0_5.length l0_5) (hc0_5 : l0_5.length ≤ c0_5) (hr1_5 : Kd.C k83 w A1_5 l1_5.length l1_5) (hc1_5 : l1_5.length ≤ c1_5)
    (h : r = true ∧ (Lit.int .i64 a0_3).wf = true ∧ (Lit.int .i64 a1_3).wf = true) :
    Calls Try.prog 6 #[.agg #[.string a0_0, .string a0_1, .int .i64 a0_2, .int .i64 a0_3, .string a0_4, .slice A0_5 l0_5.length c0_5], .agg #[.string a1_0, .string a1_1, .int .i64 a1_2, .int .i64 a1_3, .string a1_4, .slice A1_5 l1_5.length c1_5]] w fun e w' => e = .returned (.bool r) ∧ Below w.heap.size w w' := by
  obtain ⟨rfl, w0, w1⟩ := h
  obtain ⟨k1, h1⟩ := (short_comes a0_0 a0_1 a0_2 a0_3 a0_4 l0_5).rounds
  obtain ⟨k2, h2⟩ := (short_comes a1_0 a1_1 a1_2 a1_3 a1_4 l1_5).rounds
  obtain ⟨k3, h3⟩ := lives_comes.rounds
  refine dheads_any a0_0 a0_1 a0_2 a0_3 a0_4 A0_5 c0_5 l0_5 a1_0 a1_1 a1_2 a1_3 a1_4 A1_5 c1_5 l1_5 w hr0_5 hc0_5 hr1_5 hc1_5 k1 k2 k3 _ _ h1 h2 h3 (fun s1 s2 l0 l1 => ?_)
  have k0 := okH_short (mi := a0_2) (of_decide_eq_true s1) l0 w0
  have k1' := okH_short (mi := a1_2) (of_decide_eq_true s2) l1 w1
  have n1 := headLines_len k0
  have n2 := headLines_len k1'
  have n3 := rows_len _ (headLines a0_0 a0_1 a0_2 a0_3 a0_4 l0_5) (headLines a1_0 a1_1 a1_2 a1_3 a1_4 l1_5) rfl
  obtain ⟨k4, h4⟩ := (rheads_comes k0 k1').rounds
  obtain ⟨k5, h5⟩ := (same01_comes ((linesOf (headLines a0_0 a0_1 a0_2 a0_3 a0_4 l0_5) (headLines a1_0 a1_1 a1_2 a1_3 a1_4 l1_5)).map rowText) ((linesOf (headLines a0_0 a0_1 a0_2 a0_3 a0_4 l0_5) (headLines a1_0 a1_1 a1_2 a1_3 a1_4 l1_5)).map rowText) (by rw [List.length_map]; omega)).rounds
  rw [decide_eq_true rfl] at h5
  exact ⟨k4, k5, _, by unfold diff_Heads.f; rw [if_pos ⟨k0, k1'⟩], h4, h5⟩
namespace Pure
theorem DiffHeads (m t : ByteArray) (mi st : Int) (re : ByteArray) (fs : List S83) (m' t' : ByteArray) (mi' st' : Int) (re' : ByteArray) (fs' : List S83) (w0 : (Lit.int .i64 st).wf = true) (w1 : (Lit.int .i64 st').wf = true) : true = true ∧ (Lit.int .i64 st).wf = true ∧ (Lit.int .i64 st').wf = true := ⟨rfl, w0, w1⟩
end Pure
end Go.Proofs.Ytacglolggaobdab.PAll
