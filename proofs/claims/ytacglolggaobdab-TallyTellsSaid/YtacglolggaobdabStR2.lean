/- slices.SortStableFunc's family at rows of the tally: symMerge merges two sorted stretches, stably. -/
import Derived.Test.YtacglolggaobdabStR
namespace Go.Proofs.Ytacglolggaobdab.StR
open Go.Shelf Go.RowKit Go.Lib Go.Sort Go.Proofs.Ytacglolggaobdab.St
set_option linter.unusedVariables false
set_option linter.unusedSimpArgs false
variable {P : Program} {α : Type} [Inhabited α]

set_option maxHeartbeats 16000000 in
set_option maxRecDepth 1000000 in
theorem symMerge_all (k : Nat) (L : SLay P k) (enc : α → List Value) (cf : α → α → Int) (hO : SWO (ltOf cf)) (g : Nat) (cb : Array Value) (blk off cap : Nat) (d0 : Array α) (w0 : World)
    (eg : ∀ args w, (callFunc g args).run P w = .ok (.enter g args) w) (hcmp : CmpLays P g cb enc k cf blk off d0.size w0) (R : RowK enc k w0 blk off d0) (hsz : d0.size < 4611686018427387904) :
    ∀ (N a m b : Nat) (d : Array α) (w : World), b - a ≤ N → a < m → m < b → b ≤ d.size → d0.size = d.size → SWK enc k w0 blk off d w → SortedIn (ltOf cf) a m d → SortedIn (ltOf cf) m b d →
    Calls P 126 #[.slice (some ⟨blk, off, none⟩) d.size cap, .int .i64 a, .int .i64 m, .int .i64 b, .func (.func g) #[] cb] w fun e w' => e = .returned (.tuple #[]) ∧
      ∃ d' : Array α, Mv (ltOf cf) a b d d' ∧ SortedIn (ltOf cf) a b d' ∧ SWK enc k w0 blk off d' w' := by
  have mixed := L.mixed; have t0 := L.t0; have a0 := L.a0; have z0 := L.z0; have v0 := L.v0; have t3 := L.t3; have a3 := L.a3; have z3 := L.z3; have v3 := L.v3; have t4 := L.t4; have a4 := L.a4; have z4 := L.z4; have v4 := L.v4; have t145 := L.t145; have a145 := L.a145; have z145 := L.z145; have v145 := L.v145; have t46 := L.t46; have a46 := L.a46; have z46 := L.z46; have v46 := L.v46; have t121 := L.t121; have a121 := L.a121; have z121 := L.z121; have v121 := L.v121; have a49 := L.a49; have z49 := L.z49
  have HC : Aside _ := hcmp
  have er : ∀ args w, (callFunc 148 args).run P w = .ok (.enter 148 args) w := enters_of L.f148 (by kernel_rfl) rfl
  have em : ∀ args w, (callFunc 126 args).run P w = .ok (.enter 126 args) w := enters_of L.f126 (by kernel_rfl) rfl
  clear hcmp
  intro N
  induction N with
  | zero => intro a m b d w hN ham hmb; omega
  | succ N ih =>
  intro a m b d w hN ham hmb hb hs S o1 o2
  have IH : Aside _ := ih
  have O1 : Aside _ := o1
  have O2 : Aside _ := o2
  have S0 : Aside (SWK enc k w0 blk off d w) := S
  clear S ih o1 o2
  by_cases hA : m = a + 1
  · -- the left stretch is one element
    have hAz : (m : Int) - (a : Int) = 1 := by omega
    have hAb : ((m : Int) - (a : Int) == 1) = true := by rw [hAz]; rfl
    have HA : Hid (m = a + 1) := hA
    clear hA
    go_enter L.f126, Try.ntmps126
    go_wp2
    go_loopg [10, 11] (b - m) (fun kx s1 s2 wr => ∃ (i j : Nat), s1 = .int .i64 i ∧ s2 = .int .i64 j ∧ m ≤ i ∧ i ≤ j ∧ j ≤ b ∧ j - i ≤ kx ∧ Aside (Bs (fun t => !ltOf cf d[t]! d[a]!) m b i j) ∧ Aside (SWK enc k w0 blk off d wr))
    case atStart => exact ⟨m, b, rfl, rfl, Nat.le_refl _, by omega, Nat.le_refl _, Nat.le_refl _, Bs.start (by omega), S0⟩
    case round =>
      clear S0
      obtain ⟨i, j, rfl, rfl, hmi, hij, hjb, hkx, HB, S1⟩ := hrel
      by_cases hlt : i < j
      · have hltz : (i : Int) < (j : Int) := by omega
        have hmo := mono_left hO O2.out d[a]!
        have hM : Aside _ := hmo
        clear hmo
        cases hL : ltOf cf d[(i + j) / 2]! d[a]! with
        | true =>
          have ea1 : (((i : Int) + (j : Int)) / 2).toNat = (i + j) / 2 := by omega
          have pa1 : (0 : Int) ≤ ((i : Int) + (j : Int)) / 2 := by omega
          have ba1 : ((i : Int) + (j : Int)) / 2 < (d.size : Int) := by omega
          have ra1 : IntKind.i64.wrap (((i : Int) + (j : Int)) / 2) = ((i : Int) + (j : Int)) / 2 := by rw [IntKind.wrap_i64]; omega
          have ec1 : ((a : Int)).toNat = a := by omega
          have pc1 : (0 : Int) ≤ (a : Int) := by omega
          have bc1 : (a : Int) < (d.size : Int) := by omega
          have rc1 : IntKind.i64.wrap ((a : Int)) = (a : Int) := by rw [IntKind.wrap_i64]; omega

          obtain ⟨x1, hx1⟩ : ∃ x, x = d[(i + j) / 2]! := ⟨_, rfl⟩
          obtain ⟨y1, hy1⟩ : ∃ x, x = d[a]! := ⟨_, rfl⟩
          have l1a := S1.out.ld R (by omega) P ((i + j) / 2) (by omega)
          have l1b := S1.out.ld R (by omega) P (a) (by omega)
          rw [← hx1] at l1a
          rw [← hy1] at l1b
          have hc1 := S1.out.cmp HC.out (by omega) x1 y1
          have hv1 : cf x1 y1 < 0 := by rw [hx1, hy1]; exact of_decide_eq_true hL
          have hd1 : decide (cf x1 y1 < 0) = true := decide_eq_true hv1
          clear hx1 hy1
          go_wp2_with fail
          go_quiet_grown (first | (go_at_fn g; refine Calls.grown_of (hc1 _ _)))
          have S2 : Aside (SWK enc k w0 blk off d (grow (wr.drewN nq) osq)) := S1.out.grown nq osq
          clear l1a l1b hc1 S1
          generalize grow (wr.drewN nq) osq = w2 at S2 ⊢
          clear nq osq

          go_wp2
          go_roundg (j - ((i + j) / 2 + 1))
          case measure => omega
          case rel => exact ⟨(i + j) / 2 + 1, j, by rw [show (((i + j) / 2 + 1 : Nat) : Int) = ((i : Int) + (j : Int)) / 2 + 1 by omega], rfl, by omega, by omega, hjb, Nat.le_refl _, HB.out.up hM.out (by omega) (by omega) (by simp [hL]), S2⟩
        | false =>
          have ea2 : (((i : Int) + (j : Int)) / 2).toNat = (i + j) / 2 := by omega
          have pa2 : (0 : Int) ≤ ((i : Int) + (j : Int)) / 2 := by omega
          have ba2 : ((i : Int) + (j : Int)) / 2 < (d.size : Int) := by omega
          have ra2 : IntKind.i64.wrap (((i : Int) + (j : Int)) / 2) = ((i : Int) + (j : Int)) / 2 := by rw [IntKind.wrap_i64]; omega
          have ec2 : ((a : Int)).toNat = a := by omega
          have pc2 : (0 : Int) ≤ (a : Int) := by omega
          have bc2 : (a : Int) < (d.size : Int) := by omega
          have rc2 : IntKind.i64.wrap ((a : Int)) = (a : Int) := by rw [IntKind.wrap_i64]; omega

          obtain ⟨x2, hx2⟩ : ∃ x, x = d[(i + j) / 2]! := ⟨_, rfl⟩
          obtain ⟨y2, hy2⟩ : ∃ x, x = d[a]! := ⟨_, rfl⟩
          have l2a := S1.out.ld R (by omega) P ((i + j) / 2) (by omega)
          have l2b := S1.out.ld R (by omega) P (a) (by omega)
          rw [← hx2] at l2a
          rw [← hy2] at l2b
          have hc2 := S1.out.cmp HC.out (by omega) x2 y2
          have hv2 : ¬ cf x2 y2 < 0 := by rw [hx2, hy2]; exact of_decide_eq_false hL
          have hd2 : decide (cf x2 y2 < 0) = false := decide_eq_false hv2
          clear hx2 hy2
          go_wp2_with fail
          go_quiet_grown (first | (go_at_fn g; refine Calls.grown_of (hc2 _ _)))
          have S2 : Aside (SWK enc k w0 blk off d (grow (wr.drewN nq) osq)) := S1.out.grown nq osq
          clear l2a l2b hc2 S1
          generalize grow (wr.drewN nq) osq = w2 at S2 ⊢
          clear nq osq

          go_wp2
          go_roundg ((i + j) / 2 - i)
          case measure => omega
          case rel => exact ⟨i, (i + j) / 2, rfl, by rw [show (((i + j) / 2 : Nat) : Int) = ((i : Int) + (j : Int)) / 2 by omega], hmi, by omega, by omega, Nat.le_refl _, HB.out.down hM.out (by omega) (by omega) (by simp [hL]), S2⟩
      · obtain rfl : i = j := by omega
        have hltz : ¬ (i : Int) < (i : Int) := by omega
        go_wp2
        go_loopg [13] (i - a) (fun kx s1 wr2 => ∃ (q : Nat) (dk : Array α), s1 = .int .i64 q ∧ a ≤ q ∧ q + 1 ≤ i ∧ i - q ≤ kx ∧ dk.size = d.size ∧ Aside (SWK enc k w0 blk off dk wr2) ∧ Aside (∀ t, t < d.size → dk[t]! = rot (fun t => d[t]!) a (a + 1) (q + 1) t))
        case atStart => exact ⟨a, d, rfl, Nat.le_refl _, by omega, Nat.le_refl _, rfl, S1, fun t _ => (rot_none _ _ _ _ (by omega) (by omega) (Or.inr rfl) t).symm⟩
        case round =>
          clear S1
          obtain ⟨q, dk, rfl, haq, hqi, hkx2, hds, S1, HE⟩ := hrel
          by_cases hq : q + 1 < i
          · have hqz : (q : Int) < (i : Int) - 1 := by omega
            go_wp2_with fail
            have ea3 : ((q : Int)).toNat = q := by omega
            have pa3 : (0 : Int) ≤ (q : Int) := by omega
            have ba3 : (q : Int) < (d.size : Int) := by omega
            have ra3 : IntKind.i64.wrap ((q : Int)) = (q : Int) := by rw [IntKind.wrap_i64]; omega
            have ec3 : ((q : Int) + 1).toNat = q + 1 := by omega
            have pc3 : (0 : Int) ≤ (q : Int) + 1 := by omega
            have bc3 : (q : Int) + 1 < (d.size : Int) := by omega
            have rc3 : IntKind.i64.wrap ((q : Int) + 1) = (q : Int) + 1 := by rw [IntKind.wrap_i64]; omega

            have S2 : Aside (SWK enc k w0 blk off (swp dk (q) (q + 1)) ((wr.drew.setCells blk (off + (q) * k) (enc dk[q + 1]!)).setCells blk (off + (q + 1) * k) (enc dk[q]!))) := S1.out.swapped R (q) (q + 1) (by omega) (by omega)
            have l3a := S1.out.ld1 R (by omega) P (q) (by omega)
            have l3b := S1.out.ld1 R (by omega) P (q + 1) (by omega)
            have s3a := S1.out.st1 R (by omega) P (q) (by omega) dk[q + 1]!
            have s3b := S1.out.st2 R (by omega) P (q) (q + 1) (by omega) (by omega) dk[q + 1]! dk[q]!
            have n3a : (enc dk[q]!).length = k := R.hk _
            have n3b : (enc dk[q + 1]!).length = k := R.hk _
            generalize enc dk[q]! = cI3 at S2 l3a s3b n3a
            generalize enc dk[q + 1]! = cJ3 at S2 l3b s3a s3b n3b
            clear S1
            go_wp2_with fail
            go_big_region_o
            clear l3a l3b s3a s3b
            generalize (wr.drew.setCells blk (off + (q) * k) cJ3).setCells blk (off + (q + 1) * k) cI3 = w2 at S2 ⊢

            go_wp2
            go_roundg (i - (q + 1))
            case measure => omega
            case rel => exact ⟨q + 1, swp dk q (q + 1), by go_num, by omega, by omega, Nat.le_refl _, by rw [size_swp]; exact hds, S2, fun t ht => rot_right HE.out hds haq (by omega) t ht⟩
          · have hqz : ¬ (q : Int) < (i : Int) - 1 := by omega
            go_wp2
            refine bodyPost_ret (results_none rfl _ _ _) rfl ?_
            obtain rfl : i = q + 1 := by omega
            obtain rfl := HA.out
            have h := merge_one_left hO O2.out hb HB.out hds HE.out
            exact ⟨rfl, dk, h.1, h.2, S1.out⟩
  · have hAz : ¬ (m : Int) - (a : Int) = 1 := by omega
    have hAb : ((m : Int) - (a : Int) == 1) = false := beq_eq_false_iff_ne.2 hAz
    by_cases hB : b = m + 1
    · -- the right stretch is one element
      have hBz : (b : Int) - (m : Int) = 1 := by omega
      have hBb : ((b : Int) - (m : Int) == 1) = true := by rw [hBz]; rfl
      have HA : Hid (b = m + 1) := hB
      clear hB
      go_enter L.f126, Try.ntmps126
      go_wp2
      go_loopg [14, 15] (m - a) (fun kx s1 s2 wr => ∃ (i j : Nat), s1 = .int .i64 i ∧ s2 = .int .i64 j ∧ a ≤ i ∧ i ≤ j ∧ j ≤ m ∧ j - i ≤ kx ∧ Aside (Bs (fun t => ltOf cf d[m]! d[t]!) a m i j) ∧ Aside (SWK enc k w0 blk off d wr))
      case atStart => exact ⟨a, m, rfl, rfl, Nat.le_refl _, by omega, Nat.le_refl _, Nat.le_refl _, Bs.start (by omega), S0⟩
      case round =>
        clear S0
        obtain ⟨i, j, rfl, rfl, hmi, hij, hjb, hkx, HB, S1⟩ := hrel
        by_cases hlt : i < j
        · have hltz : (i : Int) < (j : Int) := by omega
          have hmo := mono_right hO O1.out d[m]!
          have hM : Aside _ := hmo
          clear hmo
          cases hL : ltOf cf d[m]! d[(i + j) / 2]! with
          | true =>
            have ea1 : ((m : Int)).toNat = m := by omega
            have pa1 : (0 : Int) ≤ (m : Int) := by omega
            have ba1 : (m : Int) < (d.size : Int) := by omega
            have ra1 : IntKind.i64.wrap ((m : Int)) = (m : Int) := by rw [IntKind.wrap_i64]; omega
            have ec1 : (((i : Int) + (j : Int)) / 2).toNat = (i + j) / 2 := by omega
            have pc1 : (0 : Int) ≤ ((i : Int) + (j : Int)) / 2 := by omega
            have bc1 : ((i : Int) + (j : Int)) / 2 < (d.size : Int) := by omega
            have rc1 : IntKind.i64.wrap (((i : Int) + (j : Int)) / 2) = ((i : Int) + (j : Int)) / 2 := by rw [IntKind.wrap_i64]; omega

            obtain ⟨x1, hx1⟩ : ∃ x, x = d[m]! := ⟨_, rfl⟩
            obtain ⟨y1, hy1⟩ : ∃ x, x = d[(i + j) / 2]! := ⟨_, rfl⟩
            have l1a := S1.out.ld R (by omega) P (m) (by omega)
            have l1b := S1.out.ld R (by omega) P ((i + j) / 2) (by omega)
            rw [← hx1] at l1a
            rw [← hy1] at l1b
            have hc1 := S1.out.cmp HC.out (by omega) x1 y1
            have hv1 : cf x1 y1 < 0 := by rw [hx1, hy1]; exact of_decide_eq_true hL
            have hd1 : decide (cf x1 y1 < 0) = true := decide_eq_true hv1
            clear hx1 hy1
            go_wp2_with fail
            go_quiet_grown (first | (go_at_fn g; refine Calls.grown_of (hc1 _ _)))
            have S2 : Aside (SWK enc k w0 blk off d (grow (wr.drewN nq) osq)) := S1.out.grown nq osq
            clear l1a l1b hc1 S1
            generalize grow (wr.drewN nq) osq = w2 at S2 ⊢
            clear nq osq

            go_wp2
            go_roundg ((i + j) / 2 - i)
            case measure => omega
            case rel => exact ⟨i, (i + j) / 2, rfl, by rw [show (((i + j) / 2 : Nat) : Int) = ((i : Int) + (j : Int)) / 2 by omega], hmi, by omega, by omega, Nat.le_refl _, HB.out.down hM.out (by omega) (by omega) hL, S2⟩
          | false =>
            have ea2 : ((m : Int)).toNat = m := by omega
            have pa2 : (0 : Int) ≤ (m : Int) := by omega
            have ba2 : (m : Int) < (d.size : Int) := by omega
            have ra2 : IntKind.i64.wrap ((m : Int)) = (m : Int) := by rw [IntKind.wrap_i64]; omega
            have ec2 : (((i : Int) + (j : Int)) / 2).toNat = (i + j) / 2 := by omega
            have pc2 : (0 : Int) ≤ ((i : Int) + (j : Int)) / 2 := by omega
            have bc2 : ((i : Int) + (j : Int)) / 2 < (d.size : Int) := by omega
            have rc2 : IntKind.i64.wrap (((i : Int) + (j : Int)) / 2) = ((i : Int) + (j : Int)) / 2 := by rw [IntKind.wrap_i64]; omega

            obtain ⟨x2, hx2⟩ : ∃ x, x = d[m]! := ⟨_, rfl⟩
            obtain ⟨y2, hy2⟩ : ∃ x, x = d[(i + j) / 2]! := ⟨_, rfl⟩
            have l2a := S1.out.ld R (by omega) P (m) (by omega)
            have l2b := S1.out.ld R (by omega) P ((i + j) / 2) (by omega)
            rw [← hx2] at l2a
            rw [← hy2] at l2b
            have hc2 := S1.out.cmp HC.out (by omega) x2 y2
            have hv2 : ¬ cf x2 y2 < 0 := by rw [hx2, hy2]; exact of_decide_eq_false hL
            have hd2 : decide (cf x2 y2 < 0) = false := decide_eq_false hv2
            clear hx2 hy2
            go_wp2_with fail
            go_quiet_grown (first | (go_at_fn g; refine Calls.grown_of (hc2 _ _)))
            have S2 : Aside (SWK enc k w0 blk off d (grow (wr.drewN nq) osq)) := S1.out.grown nq osq
            clear l2a l2b hc2 S1
            generalize grow (wr.drewN nq) osq = w2 at S2 ⊢
            clear nq osq

            go_wp2
            go_roundg (j - ((i + j) / 2 + 1))
            case measure => omega
            case rel => exact ⟨(i + j) / 2 + 1, j, by rw [show (((i + j) / 2 + 1 : Nat) : Int) = ((i : Int) + (j : Int)) / 2 + 1 by omega], rfl, by omega, by omega, hjb, Nat.le_refl _, HB.out.up hM.out (by omega) (by omega) hL, S2⟩
        · obtain rfl : i = j := by omega
          have hltz : ¬ (i : Int) < (i : Int) := by omega
          go_wp2
          go_loopg [17] (m - i) (fun kx s1 wr2 => ∃ (q : Nat) (dk : Array α), s1 = .int .i64 q ∧ i ≤ q ∧ q ≤ m ∧ q - i ≤ kx ∧ dk.size = d.size ∧ Aside (SWK enc k w0 blk off dk wr2) ∧ Aside (∀ t, t < d.size → dk[t]! = rot (fun t => d[t]!) q m (m + 1) t))
          case atStart => exact ⟨m, d, rfl, hjb, Nat.le_refl _, Nat.le_refl _, rfl, S1, fun t _ => (rot_none _ _ _ _ (by omega) (by omega) (Or.inl rfl) t).symm⟩
          case round =>
            clear S1
            obtain ⟨q, dk, rfl, haq, hqi, hkx2, hds, S1, HE⟩ := hrel
            by_cases hq : i < q
            · have hqz : (i : Int) < (q : Int) := by omega
              obtain ⟨qp, rfl⟩ : ∃ qp, q = qp + 1 := ⟨q - 1, by omega⟩
              have hqz' : (i : Int) < (qp : Int) + 1 := by omega
              go_wp2_with fail
              have ea3 : ((qp : Int) + 1).toNat = qp + 1 := by omega
              have pa3 : (0 : Int) ≤ (qp : Int) + 1 := by omega
              have ba3 : (qp : Int) + 1 < (d.size : Int) := by omega
              have ra3 : IntKind.i64.wrap ((qp : Int) + 1) = (qp : Int) + 1 := by rw [IntKind.wrap_i64]; omega
              have ec3 : ((qp : Int)).toNat = qp := by omega
              have pc3 : (0 : Int) ≤ (qp : Int) := by omega
              have bc3 : (qp : Int) < (d.size : Int) := by omega
              have rc3 : IntKind.i64.wrap ((qp : Int)) = (qp : Int) := by rw [IntKind.wrap_i64]; omega

              have S2 : Aside (SWK enc k w0 blk off (swp dk (qp + 1) (qp)) ((wr.drew.setCells blk (off + (qp + 1) * k) (enc dk[qp]!)).setCells blk (off + (qp) * k) (enc dk[qp + 1]!))) := S1.out.swapped R (qp + 1) (qp) (by omega) (by omega)
              have l3a := S1.out.ld1 R (by omega) P (qp + 1) (by omega)
              have l3b := S1.out.ld1 R (by omega) P (qp) (by omega)
              have s3a := S1.out.st1 R (by omega) P (qp + 1) (by omega) dk[qp]!
              have s3b := S1.out.st2 R (by omega) P (qp + 1) (qp) (by omega) (by omega) dk[qp]! dk[qp + 1]!
              have n3a : (enc dk[qp + 1]!).length = k := R.hk _
              have n3b : (enc dk[qp]!).length = k := R.hk _
              generalize enc dk[qp + 1]! = cI3 at S2 l3a s3b n3a
              generalize enc dk[qp]! = cJ3 at S2 l3b s3a s3b n3b
              clear S1
              go_wp2_with fail
              go_big_region_o
              clear l3a l3b s3a s3b
              generalize (wr.drew.setCells blk (off + (qp + 1) * k) cJ3).setCells blk (off + (qp) * k) cI3 = w2 at S2 ⊢

              go_wp2
              go_roundg (qp - i)
              case measure => omega
              case rel => exact ⟨qp, swp dk (qp + 1) qp, by go_num, by omega, by omega, Nat.le_refl _, by rw [size_swp]; exact hds, S2, fun t ht => rot_left HE.out hds hqi (by omega) t ht⟩
            · have hqz : ¬ (i : Int) < (q : Int) := by omega
              go_wp2
              refine bodyPost_ret (results_none rfl _ _ _) rfl ?_
              obtain rfl : q = i := by omega
              obtain rfl := HA.out
              have h := merge_one_right hO O1.out (by omega) HB.out hds HE.out
              exact ⟨rfl, dk, h.1, h.2, S1.out⟩
    · have hBz : ¬ (b : Int) - (m : Int) = 1 := by omega
      have hBb : ((b : Int) - (m : Int) == 1) = false := beq_eq_false_iff_ne.2 hBz
      obtain ⟨mid, hmid⟩ : ∃ mid, mid = (a + b) / 2 := ⟨_, rfl⟩
      have hmz : ((a : Int) + (b : Int)) / 2 = (mid : Int) := by omega
      have hm1 : a < mid := by omega
      have hm2 : mid < b := by omega
      have hm3 : 2 * mid ≤ a + b := by omega
      have hm4 : a + b ≤ 2 * mid + 1 := by omega
      clear hmid
      obtain ⟨p, hp⟩ : ∃ p, p = mid + m - 1 := ⟨_, rfl⟩
      have hpz : (mid : Int) + (m : Int) - 1 = (p : Int) := by omega
      have hp1 : p + 1 = mid + m := by omega
      clear hp
      by_cases hc : mid < m
      · have hcz : (mid : Int) < (m : Int) := by omega
        obtain ⟨lo, hlo⟩ : ∃ lo, lo = mid + m - b := ⟨_, rfl⟩
        have hloz : (mid : Int) + (m : Int) - (b : Int) = (lo : Int) := by omega
        have hlo1 : lo + b = mid + m := by omega
        clear hlo
        go_enter L.f126, Try.ntmps126
        go_wp2
        go_loopg [20, 21] m (fun kx s1 s2 wr => ∃ (i j : Nat), s1 = .int .i64 i ∧ s2 = .int .i64 j ∧ lo ≤ i ∧ i ≤ j ∧ j ≤ mid ∧ j - i ≤ kx ∧ Aside (Bs (fun c => ltOf cf d[mid + m - 1 - c]! d[c]!) lo mid i j) ∧ Aside (SWK enc k w0 blk off d wr))
        case atStart => exact ⟨lo, mid, rfl, rfl, Nat.le_refl _, by omega, Nat.le_refl _, by omega, Bs.start (by omega), S0⟩
        case round =>
          clear S0
          obtain ⟨i, j, rfl, rfl, hmi, hij, hjb, hkx, HB, S1⟩ := hrel
          by_cases hlt : i < j
          · have hltz : (i : Int) < (j : Int) := by omega
            have hmo := mono_mid hO O1.out O2.out (n := mid + m) (lo := lo) (hi := mid) (by omega) (by omega) (by omega) (by omega)
            have hM : Aside _ := hmo
            clear hmo
            obtain ⟨c, hcc⟩ : ∃ c, c = (i + j) / 2 := ⟨_, rfl⟩
            have hccz : ((i : Int) + (j : Int)) / 2 = (c : Int) := by omega
            have hc1 : i ≤ c := by omega
            have hc2 : c < j := by omega
            obtain ⟨u, huu⟩ : ∃ u, u = mid + m - 1 - c := ⟨_, rfl⟩
            have huz : (p : Int) - (c : Int) = (u : Int) := by omega
            have hu1 : u < d.size := by omega
            have HU : Hid (u = mid + m - 1 - c) := huu
            clear hcc huu
            cases hL : ltOf cf d[u]! d[c]! with
            | true =>
              have ea1 : ((u : Int)).toNat = u := by omega
              have pa1 : (0 : Int) ≤ (u : Int) := by omega
              have ba1 : (u : Int) < (d.size : Int) := by omega
              have ra1 : IntKind.i64.wrap ((u : Int)) = (u : Int) := by rw [IntKind.wrap_i64]; omega
              have ec1 : ((c : Int)).toNat = c := by omega
              have pc1 : (0 : Int) ≤ (c : Int) := by omega
              have bc1 : (c : Int) < (d.size : Int) := by omega
              have rc1 : IntKind.i64.wrap ((c : Int)) = (c : Int) := by rw [IntKind.wrap_i64]; omega

              obtain ⟨x1, hx1⟩ : ∃ x, x = d[u]! := ⟨_, rfl⟩
              obtain ⟨y1, hy1⟩ : ∃ x, x = d[c]! := ⟨_, rfl⟩
              have l1a := S1.out.ld R (by omega) P (u) (by omega)
              have l1b := S1.out.ld R (by omega) P (c) (by omega)
              rw [← hx1] at l1a
              rw [← hy1] at l1b
              have hc1 := S1.out.cmp HC.out (by omega) x1 y1
              have hv1 : cf x1 y1 < 0 := by rw [hx1, hy1]; exact of_decide_eq_true hL
              have hd1 : decide (cf x1 y1 < 0) = true := decide_eq_true hv1
              clear hx1 hy1
              go_wp2_with fail
              go_quiet_grown (first | (go_at_fn g; refine Calls.grown_of (hc1 _ _)))
              have S2 : Aside (SWK enc k w0 blk off d (grow (wr.drewN nq) osq)) := S1.out.grown nq osq
              clear l1a l1b hc1 S1
              generalize grow (wr.drewN nq) osq = w2 at S2 ⊢
              clear nq osq

              go_wp2
              go_roundg (c - i)
              case measure => omega
              case rel => exact ⟨i, c, rfl, rfl, hmi, by omega, by omega, Nat.le_refl _, HB.out.down hM.out (by omega) (by omega) (by rw [← HU.out]; exact hL), S2⟩
            | false =>
              have ea2 : ((u : Int)).toNat = u := by omega
              have pa2 : (0 : Int) ≤ (u : Int) := by omega
              have ba2 : (u : Int) < (d.size : Int) := by omega
              have ra2 : IntKind.i64.wrap ((u : Int)) = (u : Int) := by rw [IntKind.wrap_i64]; omega
              have ec2 : ((c : Int)).toNat = c := by omega
              have pc2 : (0 : Int) ≤ (c : Int) := by omega
              have bc2 : (c : Int) < (d.size : Int) := by omega
              have rc2 : IntKind.i64.wrap ((c : Int)) = (c : Int) := by rw [IntKind.wrap_i64]; omega

              obtain ⟨x2, hx2⟩ : ∃ x, x = d[u]! := ⟨_, rfl⟩
              obtain ⟨y2, hy2⟩ : ∃ x, x = d[c]! := ⟨_, rfl⟩
              have l2a := S1.out.ld R (by omega) P (u) (by omega)
              have l2b := S1.out.ld R (by omega) P (c) (by omega)
              rw [← hx2] at l2a
              rw [← hy2] at l2b
              have hc2 := S1.out.cmp HC.out (by omega) x2 y2
              have hv2 : ¬ cf x2 y2 < 0 := by rw [hx2, hy2]; exact of_decide_eq_false hL
              have hd2 : decide (cf x2 y2 < 0) = false := decide_eq_false hv2
              clear hx2 hy2
              go_wp2_with fail
              go_quiet_grown (first | (go_at_fn g; refine Calls.grown_of (hc2 _ _)))
              have S2 : Aside (SWK enc k w0 blk off d (grow (wr.drewN nq) osq)) := S1.out.grown nq osq
              clear l2a l2b hc2 S1
              generalize grow (wr.drewN nq) osq = w2 at S2 ⊢
              clear nq osq

              go_wp2
              go_roundg (j - (c + 1))
              case measure => omega
              case rel => exact ⟨c + 1, j, by go_num, rfl, by omega, by omega, hjb, Nat.le_refl _, HB.out.up hM.out (by omega) (by omega) (by rw [← HU.out]; exact hL), S2⟩
          · obtain rfl : i = j := by omega
            have hltz : ¬ (i : Int) < (i : Int) := by omega
            obtain ⟨e, he⟩ : ∃ e, e = mid + m - i := ⟨_, rfl⟩
            have hez : (mid : Int) + (m : Int) - (i : Int) = (e : Int) := by omega
            have HE : Hid (e = mid + m - i) := he
            have he1 : m ≤ e := by omega
            have he2 : mid ≤ e := by omega
            have he3 : e ≤ b := by omega
            have he4 : a ≤ i := by omega
            have he5 : i ≤ mid := by omega
            have he6 : i ≤ m := by omega
            have he7 : e + i = mid + m := by omega
            clear he
            by_cases h0 : i < m
            · skip
              by_cases h1 : i < mid
              · skip
                by_cases h2 : a < i
                · skip
                  by_cases h3 : e < b
                  · skip
                    have qA : (i : Int) < (m : Int) := by omega
                    have qB : (i : Int) < (mid : Int) := by omega
                    have qC : (a : Int) < (i : Int) := by omega
                    have qD : (e : Int) < (b : Int) := by omega
                    have qE : (m : Int) < (e : Int) := by omega
                    have qF : (mid : Int) < (e : Int) := by omega

                    have hcall := rotate k L enc g cb blk off cap i m e d0 d w0 wr R hs S1.out (by omega) (by omega) (by omega) (by omega)
                    clear S1
                    go_wp2_with (go_at_fn 148; refine hcall.mono ?_; rintro e' w1 ⟨rfl, d1, hd1, hr1, S2⟩)
                    clear hcall
                    have MS : Aside (Mv (ltOf cf) a b d d1 ∧ Cut (ltOf cf) a i mid e b d1) := by
                      have := merge_split hO O1.out O2.out hb (rfl : mid + m = mid + m) (by omega) (by omega) (lo := lo) (hi := mid) (by omega) (by omega) (by omega) (by omega) (by omega) (by omega) HB.out hd1 (by rw [← HE.out]; exact hr1)
                      rw [← HE.out] at this
                      exact this
                    clear hr1
                    have S2 : Aside _ := S2
                    have hd1 : Aside (d1.size = d.size) := hd1
                    have hz1 : b ≤ d1.size := by rw [hd1.out]; exact hb

                    have hcall := IH.out a i mid d1 w1 (by omega) (by omega) (by omega) (by omega) (hs.trans hd1.out.symm) S2.out MS.out.2.s1 MS.out.2.s2
                    rw [hd1.out] at hcall
                    clear S2
                    go_wp2_with (go_at_fn 126; refine hcall.mono ?_; rintro e' w2 ⟨rfl, d2, m2, o2, S3⟩)
                    clear hcall
                    have hd2 : Aside (d2.size = d.size) := m2.size.trans hd1.out
                    have hz2 : b ≤ d2.size := by rw [hd2.out]; exact hb
                    have M2 : Aside (Mv (ltOf cf) a mid d1 d2 ∧ SortedIn (ltOf cf) a mid d2) := ⟨m2, o2⟩
                    have S3 : Aside (SWK enc k w0 blk off d2 w2) := S3
                    clear m2 o2

                    have hcall := IH.out mid e b d2 w2 (by omega) (by omega) (by omega) (by omega) (hs.trans hd2.out.symm) S3.out (sorted_out M2.out.1 MS.out.2.s3 (Or.inr (Nat.le_refl _))) (sorted_out M2.out.1 MS.out.2.s4 (Or.inr (by omega)))
                    rw [hd2.out] at hcall
                    clear S3
                    go_wp2_with (go_at_fn 126; refine hcall.mono ?_; rintro e' w3 ⟨rfl, d3, m3, o3, S4⟩)
                    clear hcall
                    have M3 : Aside (Mv (ltOf cf) mid b d2 d3 ∧ SortedIn (ltOf cf) mid b d3) := ⟨m3, o3⟩
                    have S4 : Aside (SWK enc k w0 blk off d3 w3) := S4
                    clear m3 o3

                    go_end0
                    have h := merge_join hO (by omega) (by omega) MS.out.1 MS.out.2.cross M2.out.1 M2.out.2 M3.out.1 M3.out.2
                    exact ⟨rfl, d3, h.1, h.2, S4.out⟩
                  · skip
                    have qA : (i : Int) < (m : Int) := by omega
                    have qB : (i : Int) < (mid : Int) := by omega
                    have qC : (a : Int) < (i : Int) := by omega
                    have qD : ¬ (e : Int) < (b : Int) := by omega
                    have qE : (m : Int) < (e : Int) := by omega
                    have qF : (mid : Int) < (e : Int) := by omega

                    have hcall := rotate k L enc g cb blk off cap i m e d0 d w0 wr R hs S1.out (by omega) (by omega) (by omega) (by omega)
                    clear S1
                    go_wp2_with (go_at_fn 148; refine hcall.mono ?_; rintro e' w1 ⟨rfl, d1, hd1, hr1, S2⟩)
                    clear hcall
                    have MS : Aside (Mv (ltOf cf) a b d d1 ∧ Cut (ltOf cf) a i mid e b d1) := by
                      have := merge_split hO O1.out O2.out hb (rfl : mid + m = mid + m) (by omega) (by omega) (lo := lo) (hi := mid) (by omega) (by omega) (by omega) (by omega) (by omega) (by omega) HB.out hd1 (by rw [← HE.out]; exact hr1)
                      rw [← HE.out] at this
                      exact this
                    clear hr1
                    have S2 : Aside _ := S2
                    have hd1 : Aside (d1.size = d.size) := hd1
                    have hz1 : b ≤ d1.size := by rw [hd1.out]; exact hb

                    have hcall := IH.out a i mid d1 w1 (by omega) (by omega) (by omega) (by omega) (hs.trans hd1.out.symm) S2.out MS.out.2.s1 MS.out.2.s2
                    rw [hd1.out] at hcall
                    clear S2
                    go_wp2_with (go_at_fn 126; refine hcall.mono ?_; rintro e' w2 ⟨rfl, d2, m2, o2, S3⟩)
                    clear hcall
                    have hd2 : Aside (d2.size = d.size) := m2.size.trans hd1.out
                    have hz2 : b ≤ d2.size := by rw [hd2.out]; exact hb
                    have M2 : Aside (Mv (ltOf cf) a mid d1 d2 ∧ SortedIn (ltOf cf) a mid d2) := ⟨m2, o2⟩
                    have S3 : Aside (SWK enc k w0 blk off d2 w2) := S3
                    clear m2 o2

                    obtain ⟨d3, hd⟩ : ∃ x, x = d2 := ⟨_, rfl⟩
                    have M3 : Aside (Mv (ltOf cf) mid b d2 d3 ∧ SortedIn (ltOf cf) mid b d3) := by rw [hd]; exact ⟨Mv.refl _ _ _, sorted_out M2.out.1 (MS.out.2.right (by omega) (by omega) (by omega)) (Or.inr (Nat.le_refl _))⟩
                    have S4 : Aside (SWK enc k w0 blk off d3 w2) := by rw [hd]; exact S3.out
                    clear S3 hd
                    go_wp2

                    go_end0
                    have h := merge_join hO (by omega) (by omega) MS.out.1 MS.out.2.cross M2.out.1 M2.out.2 M3.out.1 M3.out.2
                    exact ⟨rfl, d3, h.1, h.2, S4.out⟩
                · skip
                  by_cases h3 : e < b
                  · skip
                    have qA : (i : Int) < (m : Int) := by omega
                    have qB : (i : Int) < (mid : Int) := by omega
                    have qC : ¬ (a : Int) < (i : Int) := by omega
                    have qD : (e : Int) < (b : Int) := by omega
                    have qE : (m : Int) < (e : Int) := by omega
                    have qF : (mid : Int) < (e : Int) := by omega

                    have hcall := rotate k L enc g cb blk off cap i m e d0 d w0 wr R hs S1.out (by omega) (by omega) (by omega) (by omega)
                    clear S1
                    go_wp2_with (go_at_fn 148; refine hcall.mono ?_; rintro e' w1 ⟨rfl, d1, hd1, hr1, S2⟩)
                    clear hcall
                    have MS : Aside (Mv (ltOf cf) a b d d1 ∧ Cut (ltOf cf) a i mid e b d1) := by
                      have := merge_split hO O1.out O2.out hb (rfl : mid + m = mid + m) (by omega) (by omega) (lo := lo) (hi := mid) (by omega) (by omega) (by omega) (by omega) (by omega) (by omega) HB.out hd1 (by rw [← HE.out]; exact hr1)
                      rw [← HE.out] at this
                      exact this
                    clear hr1
                    have S2 : Aside _ := S2
                    have hd1 : Aside (d1.size = d.size) := hd1
                    have hz1 : b ≤ d1.size := by rw [hd1.out]; exact hb

                    obtain ⟨d2, hd⟩ : ∃ x, x = d1 := ⟨_, rfl⟩
                    have hd2 : Aside (d2.size = d.size) := by rw [hd]; exact hd1.out
                    have hz2 : b ≤ d2.size := by rw [hd2.out]; exact hb
                    have M2 : Aside (Mv (ltOf cf) a mid d1 d2 ∧ SortedIn (ltOf cf) a mid d2) := by rw [hd]; exact ⟨Mv.refl _ _ _, MS.out.2.left (by omega) (by omega) (by omega)⟩
                    have S3 : Aside (SWK enc k w0 blk off d2 w1) := by rw [hd]; exact S2.out
                    clear S2 hd

                    have hcall := IH.out mid e b d2 w1 (by omega) (by omega) (by omega) (by omega) (hs.trans hd2.out.symm) S3.out (sorted_out M2.out.1 MS.out.2.s3 (Or.inr (Nat.le_refl _))) (sorted_out M2.out.1 MS.out.2.s4 (Or.inr (by omega)))
                    rw [hd2.out] at hcall
                    clear S3
                    go_wp2_with (go_at_fn 126; refine hcall.mono ?_; rintro e' w3 ⟨rfl, d3, m3, o3, S4⟩)
                    clear hcall
                    have M3 : Aside (Mv (ltOf cf) mid b d2 d3 ∧ SortedIn (ltOf cf) mid b d3) := ⟨m3, o3⟩
                    have S4 : Aside (SWK enc k w0 blk off d3 w3) := S4
                    clear m3 o3

                    go_end0
                    have h := merge_join hO (by omega) (by omega) MS.out.1 MS.out.2.cross M2.out.1 M2.out.2 M3.out.1 M3.out.2
                    exact ⟨rfl, d3, h.1, h.2, S4.out⟩
                  · skip
                    have qA : (i : Int) < (m : Int) := by omega
                    have qB : (i : Int) < (mid : Int) := by omega
                    have qC : ¬ (a : Int) < (i : Int) := by omega
                    have qD : ¬ (e : Int) < (b : Int) := by omega
                    have qE : (m : Int) < (e : Int) := by omega
                    have qF : (mid : Int) < (e : Int) := by omega

                    have hcall := rotate k L enc g cb blk off cap i m e d0 d w0 wr R hs S1.out (by omega) (by omega) (by omega) (by omega)
                    clear S1
                    go_wp2_with (go_at_fn 148; refine hcall.mono ?_; rintro e' w1 ⟨rfl, d1, hd1, hr1, S2⟩)
                    clear hcall
                    have MS : Aside (Mv (ltOf cf) a b d d1 ∧ Cut (ltOf cf) a i mid e b d1) := by
                      have := merge_split hO O1.out O2.out hb (rfl : mid + m = mid + m) (by omega) (by omega) (lo := lo) (hi := mid) (by omega) (by omega) (by omega) (by omega) (by omega) (by omega) HB.out hd1 (by rw [← HE.out]; exact hr1)
                      rw [← HE.out] at this
                      exact this
                    clear hr1
                    have S2 : Aside _ := S2
                    have hd1 : Aside (d1.size = d.size) := hd1
                    have hz1 : b ≤ d1.size := by rw [hd1.out]; exact hb

                    obtain ⟨d2, hd⟩ : ∃ x, x = d1 := ⟨_, rfl⟩
                    have hd2 : Aside (d2.size = d.size) := by rw [hd]; exact hd1.out
                    have hz2 : b ≤ d2.size := by rw [hd2.out]; exact hb
                    have M2 : Aside (Mv (ltOf cf) a mid d1 d2 ∧ SortedIn (ltOf cf) a mid d2) := by rw [hd]; exact ⟨Mv.refl _ _ _, MS.out.2.left (by omega) (by omega) (by omega)⟩
                    have S3 : Aside (SWK enc k w0 blk off d2 w1) := by rw [hd]; exact S2.out
                    clear S2 hd

                    obtain ⟨d3, hd⟩ : ∃ x, x = d2 := ⟨_, rfl⟩
                    have M3 : Aside (Mv (ltOf cf) mid b d2 d3 ∧ SortedIn (ltOf cf) mid b d3) := by rw [hd]; exact ⟨Mv.refl _ _ _, sorted_out M2.out.1 (MS.out.2.right (by omega) (by omega) (by omega)) (Or.inr (Nat.le_refl _))⟩
                    have S4 : Aside (SWK enc k w0 blk off d3 w1) := by rw [hd]; exact S3.out
                    clear S3 hd
                    go_wp2

                    go_end0
                    have h := merge_join hO (by omega) (by omega) MS.out.1 MS.out.2.cross M2.out.1 M2.out.2 M3.out.1 M3.out.2
                    exact ⟨rfl, d3, h.1, h.2, S4.out⟩
              · skip
                by_cases h2 : a < i
                · skip
                  by_cases h3 : e < b
                  · skip
                    have qA : (i : Int) < (m : Int) := by omega
                    have qB : ¬ (i : Int) < (mid : Int) := by omega
                    have qC : (a : Int) < (i : Int) := by omega
                    have qD : (e : Int) < (b : Int) := by omega
                    have qE : ¬ (m : Int) < (e : Int) := by omega
                    have qF : (mid : Int) < (e : Int) := by omega

                    have MS : Aside (Mv (ltOf cf) a b d d ∧ Cut (ltOf cf) a i mid e b d) := by
                      have := merge_split hO O1.out O2.out hb (rfl : mid + m = mid + m) (by omega) (by omega) (lo := lo) (hi := mid) (by omega) (by omega) (by omega) (by omega) (by omega) (by omega) HB.out (rfl : d.size = d.size) (fun t _ => (rot_none _ _ _ _ (by omega) (by omega) (Or.inr (by omega)) t).symm)
                      rw [← HE.out] at this
                      exact this
                    obtain ⟨d1, hd⟩ : ∃ x, x = d := ⟨_, rfl⟩
                    have MS : Aside (Mv (ltOf cf) a b d d1 ∧ Cut (ltOf cf) a i mid e b d1) := by rw [hd]; exact MS.out
                    have hd1 : Aside (d1.size = d.size) := by rw [hd]; exact rfl
                    have hz1 : b ≤ d1.size := by rw [hd]; exact hb
                    have S2 : Aside (SWK enc k w0 blk off d1 wr) := by rw [hd]; exact S1.out
                    clear S1 hd

                    obtain ⟨d2, hd⟩ : ∃ x, x = d1 := ⟨_, rfl⟩
                    have hd2 : Aside (d2.size = d.size) := by rw [hd]; exact hd1.out
                    have hz2 : b ≤ d2.size := by rw [hd2.out]; exact hb
                    have M2 : Aside (Mv (ltOf cf) a mid d1 d2 ∧ SortedIn (ltOf cf) a mid d2) := by rw [hd]; exact ⟨Mv.refl _ _ _, MS.out.2.left (by omega) (by omega) (by omega)⟩
                    have S3 : Aside (SWK enc k w0 blk off d2 wr) := by rw [hd]; exact S2.out
                    clear S2 hd

                    have hcall := IH.out mid e b d2 wr (by omega) (by omega) (by omega) (by omega) (hs.trans hd2.out.symm) S3.out (sorted_out M2.out.1 MS.out.2.s3 (Or.inr (Nat.le_refl _))) (sorted_out M2.out.1 MS.out.2.s4 (Or.inr (by omega)))
                    rw [hd2.out] at hcall
                    clear S3
                    go_wp2_with (go_at_fn 126; refine hcall.mono ?_; rintro e' w3 ⟨rfl, d3, m3, o3, S4⟩)
                    clear hcall
                    have M3 : Aside (Mv (ltOf cf) mid b d2 d3 ∧ SortedIn (ltOf cf) mid b d3) := ⟨m3, o3⟩
                    have S4 : Aside (SWK enc k w0 blk off d3 w3) := S4
                    clear m3 o3

                    go_end0
                    have h := merge_join hO (by omega) (by omega) MS.out.1 MS.out.2.cross M2.out.1 M2.out.2 M3.out.1 M3.out.2
                    exact ⟨rfl, d3, h.1, h.2, S4.out⟩
                  · skip
                    exfalso; omega
                · skip
                  by_cases h3 : e < b
                  · skip
                    exfalso; omega
                  · skip
                    exfalso; omega
            · skip
              by_cases h1 : i < mid
              · skip
                by_cases h2 : a < i
                · skip
                  by_cases h3 : e < b
                  · skip
                    exfalso; omega
                  · skip
                    exfalso; omega
                · skip
                  by_cases h3 : e < b
                  · skip
                    exfalso; omega
                  · skip
                    exfalso; omega
              · skip
                by_cases h2 : a < i
                · skip
                  by_cases h3 : e < b
                  · skip
                    exfalso; omega
                  · skip
                    exfalso; omega
                · skip
                  by_cases h3 : e < b
                  · skip
                    exfalso; omega
                  · skip
                    exfalso; omega

      · have hcz : ¬ (mid : Int) < (m : Int) := by omega
        go_enter L.f126, Try.ntmps126
        go_wp2
        go_loopg [20, 21] m (fun kx s1 s2 wr => ∃ (i j : Nat), s1 = .int .i64 i ∧ s2 = .int .i64 j ∧ a ≤ i ∧ i ≤ j ∧ j ≤ m ∧ j - i ≤ kx ∧ Aside (Bs (fun c => ltOf cf d[mid + m - 1 - c]! d[c]!) a m i j) ∧ Aside (SWK enc k w0 blk off d wr))
        case atStart => exact ⟨a, m, rfl, rfl, Nat.le_refl _, by omega, Nat.le_refl _, by omega, Bs.start (by omega), S0⟩
        case round =>
          clear S0
          obtain ⟨i, j, rfl, rfl, hmi, hij, hjb, hkx, HB, S1⟩ := hrel
          by_cases hlt : i < j
          · have hltz : (i : Int) < (j : Int) := by omega
            have hmo := mono_mid hO O1.out O2.out (n := mid + m) (lo := a) (hi := m) (by omega) (by omega) (by omega) (by omega)
            have hM : Aside _ := hmo
            clear hmo
            obtain ⟨c, hcc⟩ : ∃ c, c = (i + j) / 2 := ⟨_, rfl⟩
            have hccz : ((i : Int) + (j : Int)) / 2 = (c : Int) := by omega
            have hc1 : i ≤ c := by omega
            have hc2 : c < j := by omega
            obtain ⟨u, huu⟩ : ∃ u, u = mid + m - 1 - c := ⟨_, rfl⟩
            have huz : (p : Int) - (c : Int) = (u : Int) := by omega
            have hu1 : u < d.size := by omega
            have HU : Hid (u = mid + m - 1 - c) := huu
            clear hcc huu
            cases hL : ltOf cf d[u]! d[c]! with
            | true =>
              have ea1 : ((u : Int)).toNat = u := by omega
              have pa1 : (0 : Int) ≤ (u : Int) := by omega
              have ba1 : (u : Int) < (d.size : Int) := by omega
              have ra1 : IntKind.i64.wrap ((u : Int)) = (u : Int) := by rw [IntKind.wrap_i64]; omega
              have ec1 : ((c : Int)).toNat = c := by omega
              have pc1 : (0 : Int) ≤ (c : Int) := by omega
              have bc1 : (c : Int) < (d.size : Int) := by omega
              have rc1 : IntKind.i64.wrap ((c : Int)) = (c : Int) := by rw [IntKind.wrap_i64]; omega

              obtain ⟨x1, hx1⟩ : ∃ x, x = d[u]! := ⟨_, rfl⟩
              obtain ⟨y1, hy1⟩ : ∃ x, x = d[c]! := ⟨_, rfl⟩
              have l1a := S1.out.ld R (by omega) P (u) (by omega)
              have l1b := S1.out.ld R (by omega) P (c) (by omega)
              rw [← hx1] at l1a
              rw [← hy1] at l1b
              have hc1 := S1.out.cmp HC.out (by omega) x1 y1
              have hv1 : cf x1 y1 < 0 := by rw [hx1, hy1]; exact of_decide_eq_true hL
              have hd1 : decide (cf x1 y1 < 0) = true := decide_eq_true hv1
              clear hx1 hy1
              go_wp2_with fail
              go_quiet_grown (first | (go_at_fn g; refine Calls.grown_of (hc1 _ _)))
              have S2 : Aside (SWK enc k w0 blk off d (grow (wr.drewN nq) osq)) := S1.out.grown nq osq
              clear l1a l1b hc1 S1
              generalize grow (wr.drewN nq) osq = w2 at S2 ⊢
              clear nq osq

              go_wp2
              go_roundg (c - i)
              case measure => omega
              case rel => exact ⟨i, c, rfl, rfl, hmi, by omega, by omega, Nat.le_refl _, HB.out.down hM.out (by omega) (by omega) (by rw [← HU.out]; exact hL), S2⟩
            | false =>
              have ea2 : ((u : Int)).toNat = u := by omega
              have pa2 : (0 : Int) ≤ (u : Int) := by omega
              have ba2 : (u : Int) < (d.size : Int) := by omega
              have ra2 : IntKind.i64.wrap ((u : Int)) = (u : Int) := by rw [IntKind.wrap_i64]; omega
              have ec2 : ((c : Int)).toNat = c := by omega
              have pc2 : (0 : Int) ≤ (c : Int) := by omega
              have bc2 : (c : Int) < (d.size : Int) := by omega
              have rc2 : IntKind.i64.wrap ((c : Int)) = (c : Int) := by rw [IntKind.wrap_i64]; omega

              obtain ⟨x2, hx2⟩ : ∃ x, x = d[u]! := ⟨_, rfl⟩
              obtain ⟨y2, hy2⟩ : ∃ x, x = d[c]! := ⟨_, rfl⟩
              have l2a := S1.out.ld R (by omega) P (u) (by omega)
              have l2b := S1.out.ld R (by omega) P (c) (by omega)
              rw [← hx2] at l2a
              rw [← hy2] at l2b
              have hc2 := S1.out.cmp HC.out (by omega) x2 y2
              have hv2 : ¬ cf x2 y2 < 0 := by rw [hx2, hy2]; exact of_decide_eq_false hL
              have hd2 : decide (cf x2 y2 < 0) = false := decide_eq_false hv2
              clear hx2 hy2
              go_wp2_with fail
              go_quiet_grown (first | (go_at_fn g; refine Calls.grown_of (hc2 _ _)))
              have S2 : Aside (SWK enc k w0 blk off d (grow (wr.drewN nq) osq)) := S1.out.grown nq osq
              clear l2a l2b hc2 S1
              generalize grow (wr.drewN nq) osq = w2 at S2 ⊢
              clear nq osq

              go_wp2
              go_roundg (j - (c + 1))
              case measure => omega
              case rel => exact ⟨c + 1, j, by go_num, rfl, by omega, by omega, hjb, Nat.le_refl _, HB.out.up hM.out (by omega) (by omega) (by rw [← HU.out]; exact hL), S2⟩
          · obtain rfl : i = j := by omega
            have hltz : ¬ (i : Int) < (i : Int) := by omega
            obtain ⟨e, he⟩ : ∃ e, e = mid + m - i := ⟨_, rfl⟩
            have hez : (mid : Int) + (m : Int) - (i : Int) = (e : Int) := by omega
            have HE : Hid (e = mid + m - i) := he
            have he1 : m ≤ e := by omega
            have he2 : mid ≤ e := by omega
            have he3 : e ≤ b := by omega
            have he4 : a ≤ i := by omega
            have he5 : i ≤ mid := by omega
            have he6 : i ≤ m := by omega
            have he7 : e + i = mid + m := by omega
            clear he
            by_cases h0 : i < m
            · skip
              by_cases h1 : i < mid
              · skip
                by_cases h2 : a < i
                · skip
                  by_cases h3 : e < b
                  · skip
                    have qA : (i : Int) < (m : Int) := by omega
                    have qB : (i : Int) < (mid : Int) := by omega
                    have qC : (a : Int) < (i : Int) := by omega
                    have qD : (e : Int) < (b : Int) := by omega
                    have qE : (m : Int) < (e : Int) := by omega
                    have qF : (mid : Int) < (e : Int) := by omega

                    have hcall := rotate k L enc g cb blk off cap i m e d0 d w0 wr R hs S1.out (by omega) (by omega) (by omega) (by omega)
                    clear S1
                    go_wp2_with (go_at_fn 148; refine hcall.mono ?_; rintro e' w1 ⟨rfl, d1, hd1, hr1, S2⟩)
                    clear hcall
                    have MS : Aside (Mv (ltOf cf) a b d d1 ∧ Cut (ltOf cf) a i mid e b d1) := by
                      have := merge_split hO O1.out O2.out hb (rfl : mid + m = mid + m) (by omega) (by omega) (lo := a) (hi := m) (by omega) (by omega) (by omega) (by omega) (by omega) (by omega) HB.out hd1 (by rw [← HE.out]; exact hr1)
                      rw [← HE.out] at this
                      exact this
                    clear hr1
                    have S2 : Aside _ := S2
                    have hd1 : Aside (d1.size = d.size) := hd1
                    have hz1 : b ≤ d1.size := by rw [hd1.out]; exact hb

                    have hcall := IH.out a i mid d1 w1 (by omega) (by omega) (by omega) (by omega) (hs.trans hd1.out.symm) S2.out MS.out.2.s1 MS.out.2.s2
                    rw [hd1.out] at hcall
                    clear S2
                    go_wp2_with (go_at_fn 126; refine hcall.mono ?_; rintro e' w2 ⟨rfl, d2, m2, o2, S3⟩)
                    clear hcall
                    have hd2 : Aside (d2.size = d.size) := m2.size.trans hd1.out
                    have hz2 : b ≤ d2.size := by rw [hd2.out]; exact hb
                    have M2 : Aside (Mv (ltOf cf) a mid d1 d2 ∧ SortedIn (ltOf cf) a mid d2) := ⟨m2, o2⟩
                    have S3 : Aside (SWK enc k w0 blk off d2 w2) := S3
                    clear m2 o2

                    have hcall := IH.out mid e b d2 w2 (by omega) (by omega) (by omega) (by omega) (hs.trans hd2.out.symm) S3.out (sorted_out M2.out.1 MS.out.2.s3 (Or.inr (Nat.le_refl _))) (sorted_out M2.out.1 MS.out.2.s4 (Or.inr (by omega)))
                    rw [hd2.out] at hcall
                    clear S3
                    go_wp2_with (go_at_fn 126; refine hcall.mono ?_; rintro e' w3 ⟨rfl, d3, m3, o3, S4⟩)
                    clear hcall
                    have M3 : Aside (Mv (ltOf cf) mid b d2 d3 ∧ SortedIn (ltOf cf) mid b d3) := ⟨m3, o3⟩
                    have S4 : Aside (SWK enc k w0 blk off d3 w3) := S4
                    clear m3 o3

                    go_end0
                    have h := merge_join hO (by omega) (by omega) MS.out.1 MS.out.2.cross M2.out.1 M2.out.2 M3.out.1 M3.out.2
                    exact ⟨rfl, d3, h.1, h.2, S4.out⟩
                  · skip
                    have qA : (i : Int) < (m : Int) := by omega
                    have qB : (i : Int) < (mid : Int) := by omega
                    have qC : (a : Int) < (i : Int) := by omega
                    have qD : ¬ (e : Int) < (b : Int) := by omega
                    have qE : (m : Int) < (e : Int) := by omega
                    have qF : (mid : Int) < (e : Int) := by omega

                    have hcall := rotate k L enc g cb blk off cap i m e d0 d w0 wr R hs S1.out (by omega) (by omega) (by omega) (by omega)
                    clear S1
                    go_wp2_with (go_at_fn 148; refine hcall.mono ?_; rintro e' w1 ⟨rfl, d1, hd1, hr1, S2⟩)
                    clear hcall
                    have MS : Aside (Mv (ltOf cf) a b d d1 ∧ Cut (ltOf cf) a i mid e b d1) := by
                      have := merge_split hO O1.out O2.out hb (rfl : mid + m = mid + m) (by omega) (by omega) (lo := a) (hi := m) (by omega) (by omega) (by omega) (by omega) (by omega) (by omega) HB.out hd1 (by rw [← HE.out]; exact hr1)
                      rw [← HE.out] at this
                      exact this
                    clear hr1
                    have S2 : Aside _ := S2
                    have hd1 : Aside (d1.size = d.size) := hd1
                    have hz1 : b ≤ d1.size := by rw [hd1.out]; exact hb

                    have hcall := IH.out a i mid d1 w1 (by omega) (by omega) (by omega) (by omega) (hs.trans hd1.out.symm) S2.out MS.out.2.s1 MS.out.2.s2
                    rw [hd1.out] at hcall
                    clear S2
                    go_wp2_with (go_at_fn 126; refine hcall.mono ?_; rintro e' w2 ⟨rfl, d2, m2, o2, S3⟩)
                    clear hcall
                    have hd2 : Aside (d2.size = d.size) := m2.size.trans hd1.out
                    have hz2 : b ≤ d2.size := by rw [hd2.out]; exact hb
                    have M2 : Aside (Mv (ltOf cf) a mid d1 d2 ∧ SortedIn (ltOf cf) a mid d2) := ⟨m2, o2⟩
                    have S3 : Aside (SWK enc k w0 blk off d2 w2) := S3
                    clear m2 o2

                    obtain ⟨d3, hd⟩ : ∃ x, x = d2 := ⟨_, rfl⟩
                    have M3 : Aside (Mv (ltOf cf) mid b d2 d3 ∧ SortedIn (ltOf cf) mid b d3) := by rw [hd]; exact ⟨Mv.refl _ _ _, sorted_out M2.out.1 (MS.out.2.right (by omega) (by omega) (by omega)) (Or.inr (Nat.le_refl _))⟩
                    have S4 : Aside (SWK enc k w0 blk off d3 w2) := by rw [hd]; exact S3.out
                    clear S3 hd
                    go_wp2

                    go_end0
                    have h := merge_join hO (by omega) (by omega) MS.out.1 MS.out.2.cross M2.out.1 M2.out.2 M3.out.1 M3.out.2
                    exact ⟨rfl, d3, h.1, h.2, S4.out⟩
                · skip
                  by_cases h3 : e < b
                  · skip
                    have qA : (i : Int) < (m : Int) := by omega
                    have qB : (i : Int) < (mid : Int) := by omega
                    have qC : ¬ (a : Int) < (i : Int) := by omega
                    have qD : (e : Int) < (b : Int) := by omega
                    have qE : (m : Int) < (e : Int) := by omega
                    have qF : (mid : Int) < (e : Int) := by omega

                    have hcall := rotate k L enc g cb blk off cap i m e d0 d w0 wr R hs S1.out (by omega) (by omega) (by omega) (by omega)
                    clear S1
                    go_wp2_with (go_at_fn 148; refine hcall.mono ?_; rintro e' w1 ⟨rfl, d1, hd1, hr1, S2⟩)
                    clear hcall
                    have MS : Aside (Mv (ltOf cf) a b d d1 ∧ Cut (ltOf cf) a i mid e b d1) := by
                      have := merge_split hO O1.out O2.out hb (rfl : mid + m = mid + m) (by omega) (by omega) (lo := a) (hi := m) (by omega) (by omega) (by omega) (by omega) (by omega) (by omega) HB.out hd1 (by rw [← HE.out]; exact hr1)
                      rw [← HE.out] at this
                      exact this
                    clear hr1
                    have S2 : Aside _ := S2
                    have hd1 : Aside (d1.size = d.size) := hd1
                    have hz1 : b ≤ d1.size := by rw [hd1.out]; exact hb

                    obtain ⟨d2, hd⟩ : ∃ x, x = d1 := ⟨_, rfl⟩
                    have hd2 : Aside (d2.size = d.size) := by rw [hd]; exact hd1.out
                    have hz2 : b ≤ d2.size := by rw [hd2.out]; exact hb
                    have M2 : Aside (Mv (ltOf cf) a mid d1 d2 ∧ SortedIn (ltOf cf) a mid d2) := by rw [hd]; exact ⟨Mv.refl _ _ _, MS.out.2.left (by omega) (by omega) (by omega)⟩
                    have S3 : Aside (SWK enc k w0 blk off d2 w1) := by rw [hd]; exact S2.out
                    clear S2 hd

                    have hcall := IH.out mid e b d2 w1 (by omega) (by omega) (by omega) (by omega) (hs.trans hd2.out.symm) S3.out (sorted_out M2.out.1 MS.out.2.s3 (Or.inr (Nat.le_refl _))) (sorted_out M2.out.1 MS.out.2.s4 (Or.inr (by omega)))
                    rw [hd2.out] at hcall
                    clear S3
                    go_wp2_with (go_at_fn 126; refine hcall.mono ?_; rintro e' w3 ⟨rfl, d3, m3, o3, S4⟩)
                    clear hcall
                    have M3 : Aside (Mv (ltOf cf) mid b d2 d3 ∧ SortedIn (ltOf cf) mid b d3) := ⟨m3, o3⟩
                    have S4 : Aside (SWK enc k w0 blk off d3 w3) := S4
                    clear m3 o3

                    go_end0
                    have h := merge_join hO (by omega) (by omega) MS.out.1 MS.out.2.cross M2.out.1 M2.out.2 M3.out.1 M3.out.2
                    exact ⟨rfl, d3, h.1, h.2, S4.out⟩
                  · skip
                    have qA : (i : Int) < (m : Int) := by omega
                    have qB : (i : Int) < (mid : Int) := by omega
                    have qC : ¬ (a : Int) < (i : Int) := by omega
                    have qD : ¬ (e : Int) < (b : Int) := by omega
                    have qE : (m : Int) < (e : Int) := by omega
                    have qF : (mid : Int) < (e : Int) := by omega

                    have hcall := rotate k L enc g cb blk off cap i m e d0 d w0 wr R hs S1.out (by omega) (by omega) (by omega) (by omega)
                    clear S1
                    go_wp2_with (go_at_fn 148; refine hcall.mono ?_; rintro e' w1 ⟨rfl, d1, hd1, hr1, S2⟩)
                    clear hcall
                    have MS : Aside (Mv (ltOf cf) a b d d1 ∧ Cut (ltOf cf) a i mid e b d1) := by
                      have := merge_split hO O1.out O2.out hb (rfl : mid + m = mid + m) (by omega) (by omega) (lo := a) (hi := m) (by omega) (by omega) (by omega) (by omega) (by omega) (by omega) HB.out hd1 (by rw [← HE.out]; exact hr1)
                      rw [← HE.out] at this
                      exact this
                    clear hr1
                    have S2 : Aside _ := S2
                    have hd1 : Aside (d1.size = d.size) := hd1
                    have hz1 : b ≤ d1.size := by rw [hd1.out]; exact hb

                    obtain ⟨d2, hd⟩ : ∃ x, x = d1 := ⟨_, rfl⟩
                    have hd2 : Aside (d2.size = d.size) := by rw [hd]; exact hd1.out
                    have hz2 : b ≤ d2.size := by rw [hd2.out]; exact hb
                    have M2 : Aside (Mv (ltOf cf) a mid d1 d2 ∧ SortedIn (ltOf cf) a mid d2) := by rw [hd]; exact ⟨Mv.refl _ _ _, MS.out.2.left (by omega) (by omega) (by omega)⟩
                    have S3 : Aside (SWK enc k w0 blk off d2 w1) := by rw [hd]; exact S2.out
                    clear S2 hd

                    obtain ⟨d3, hd⟩ : ∃ x, x = d2 := ⟨_, rfl⟩
                    have M3 : Aside (Mv (ltOf cf) mid b d2 d3 ∧ SortedIn (ltOf cf) mid b d3) := by rw [hd]; exact ⟨Mv.refl _ _ _, sorted_out M2.out.1 (MS.out.2.right (by omega) (by omega) (by omega)) (Or.inr (Nat.le_refl _))⟩
                    have S4 : Aside (SWK enc k w0 blk off d3 w1) := by rw [hd]; exact S3.out
                    clear S3 hd
                    go_wp2

                    go_end0
                    have h := merge_join hO (by omega) (by omega) MS.out.1 MS.out.2.cross M2.out.1 M2.out.2 M3.out.1 M3.out.2
                    exact ⟨rfl, d3, h.1, h.2, S4.out⟩
              · skip
                by_cases h2 : a < i
                · skip
                  by_cases h3 : e < b
                  · skip
                    exfalso; omega
                  · skip
                    exfalso; omega
                · skip
                  by_cases h3 : e < b
                  · skip
                    exfalso; omega
                  · skip
                    exfalso; omega
            · skip
              by_cases h1 : i < mid
              · skip
                by_cases h2 : a < i
                · skip
                  by_cases h3 : e < b
                  · skip
                    have qA : ¬ (i : Int) < (m : Int) := by omega
                    have qB : (i : Int) < (mid : Int) := by omega
                    have qC : (a : Int) < (i : Int) := by omega
                    have qD : (e : Int) < (b : Int) := by omega
                    have qE : (m : Int) < (e : Int) := by omega
                    have qF : ¬ (mid : Int) < (e : Int) := by omega

                    have MS : Aside (Mv (ltOf cf) a b d d ∧ Cut (ltOf cf) a i mid e b d) := by
                      have := merge_split hO O1.out O2.out hb (rfl : mid + m = mid + m) (by omega) (by omega) (lo := a) (hi := m) (by omega) (by omega) (by omega) (by omega) (by omega) (by omega) HB.out (rfl : d.size = d.size) (fun t _ => (rot_none _ _ _ _ (by omega) (by omega) (Or.inl (by omega)) t).symm)
                      rw [← HE.out] at this
                      exact this
                    obtain ⟨d1, hd⟩ : ∃ x, x = d := ⟨_, rfl⟩
                    have MS : Aside (Mv (ltOf cf) a b d d1 ∧ Cut (ltOf cf) a i mid e b d1) := by rw [hd]; exact MS.out
                    have hd1 : Aside (d1.size = d.size) := by rw [hd]; exact rfl
                    have hz1 : b ≤ d1.size := by rw [hd]; exact hb
                    have S2 : Aside (SWK enc k w0 blk off d1 wr) := by rw [hd]; exact S1.out
                    clear S1 hd

                    have hcall := IH.out a i mid d1 wr (by omega) (by omega) (by omega) (by omega) (hs.trans hd1.out.symm) S2.out MS.out.2.s1 MS.out.2.s2
                    rw [hd1.out] at hcall
                    clear S2
                    go_wp2_with (go_at_fn 126; refine hcall.mono ?_; rintro e' w2 ⟨rfl, d2, m2, o2, S3⟩)
                    clear hcall
                    have hd2 : Aside (d2.size = d.size) := m2.size.trans hd1.out
                    have hz2 : b ≤ d2.size := by rw [hd2.out]; exact hb
                    have M2 : Aside (Mv (ltOf cf) a mid d1 d2 ∧ SortedIn (ltOf cf) a mid d2) := ⟨m2, o2⟩
                    have S3 : Aside (SWK enc k w0 blk off d2 w2) := S3
                    clear m2 o2

                    obtain ⟨d3, hd⟩ : ∃ x, x = d2 := ⟨_, rfl⟩
                    have M3 : Aside (Mv (ltOf cf) mid b d2 d3 ∧ SortedIn (ltOf cf) mid b d3) := by rw [hd]; exact ⟨Mv.refl _ _ _, sorted_out M2.out.1 (MS.out.2.right (by omega) (by omega) (by omega)) (Or.inr (Nat.le_refl _))⟩
                    have S4 : Aside (SWK enc k w0 blk off d3 w2) := by rw [hd]; exact S3.out
                    clear S3 hd
                    go_wp2

                    go_end0
                    have h := merge_join hO (by omega) (by omega) MS.out.1 MS.out.2.cross M2.out.1 M2.out.2 M3.out.1 M3.out.2
                    exact ⟨rfl, d3, h.1, h.2, S4.out⟩
                  · skip
                    exfalso; omega
                · skip
                  by_cases h3 : e < b
                  · skip
                    exfalso; omega
                  · skip
                    exfalso; omega
              · skip
                by_cases h2 : a < i
                · skip
                  by_cases h3 : e < b
                  · skip
                    have qA : ¬ (i : Int) < (m : Int) := by omega
                    have qB : ¬ (i : Int) < (mid : Int) := by omega
                    have qC : (a : Int) < (i : Int) := by omega
                    have qD : (e : Int) < (b : Int) := by omega
                    have qE : ¬ (m : Int) < (e : Int) := by omega
                    have qF : ¬ (mid : Int) < (e : Int) := by omega

                    have MS : Aside (Mv (ltOf cf) a b d d ∧ Cut (ltOf cf) a i mid e b d) := by
                      have := merge_split hO O1.out O2.out hb (rfl : mid + m = mid + m) (by omega) (by omega) (lo := a) (hi := m) (by omega) (by omega) (by omega) (by omega) (by omega) (by omega) HB.out (rfl : d.size = d.size) (fun t _ => (rot_none _ _ _ _ (by omega) (by omega) (Or.inl (by omega)) t).symm)
                      rw [← HE.out] at this
                      exact this
                    obtain ⟨d1, hd⟩ : ∃ x, x = d := ⟨_, rfl⟩
                    have MS : Aside (Mv (ltOf cf) a b d d1 ∧ Cut (ltOf cf) a i mid e b d1) := by rw [hd]; exact MS.out
                    have hd1 : Aside (d1.size = d.size) := by rw [hd]; exact rfl
                    have hz1 : b ≤ d1.size := by rw [hd]; exact hb
                    have S2 : Aside (SWK enc k w0 blk off d1 wr) := by rw [hd]; exact S1.out
                    clear S1 hd

                    obtain ⟨d2, hd⟩ : ∃ x, x = d1 := ⟨_, rfl⟩
                    have hd2 : Aside (d2.size = d.size) := by rw [hd]; exact hd1.out
                    have hz2 : b ≤ d2.size := by rw [hd2.out]; exact hb
                    have M2 : Aside (Mv (ltOf cf) a mid d1 d2 ∧ SortedIn (ltOf cf) a mid d2) := by rw [hd]; exact ⟨Mv.refl _ _ _, MS.out.2.left (by omega) (by omega) (by omega)⟩
                    have S3 : Aside (SWK enc k w0 blk off d2 wr) := by rw [hd]; exact S2.out
                    clear S2 hd

                    obtain ⟨d3, hd⟩ : ∃ x, x = d2 := ⟨_, rfl⟩
                    have M3 : Aside (Mv (ltOf cf) mid b d2 d3 ∧ SortedIn (ltOf cf) mid b d3) := by rw [hd]; exact ⟨Mv.refl _ _ _, sorted_out M2.out.1 (MS.out.2.right (by omega) (by omega) (by omega)) (Or.inr (Nat.le_refl _))⟩
                    have S4 : Aside (SWK enc k w0 blk off d3 wr) := by rw [hd]; exact S3.out
                    clear S3 hd
                    go_wp2

                    go_end0
                    have h := merge_join hO (by omega) (by omega) MS.out.1 MS.out.2.cross M2.out.1 M2.out.2 M3.out.1 M3.out.2
                    exact ⟨rfl, d3, h.1, h.2, S4.out⟩
                  · skip
                    exfalso; omega
                · skip
                  by_cases h3 : e < b
                  · skip
                    exfalso; omega
                  · skip
                    exfalso; omega

end Go.Proofs.Ytacglolggaobdab.StR
