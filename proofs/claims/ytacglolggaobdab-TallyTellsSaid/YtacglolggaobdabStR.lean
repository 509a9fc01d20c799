/- slices.SortStableFunc's family at rows of the tally: the walks of swapRange, rotate, insertionSort, symMerge, stable: what lies in the row behind each. -/
import Derived.Test.YtacglolggaobdabProg
import Derived.Test.YtacglolggaobdabSt
import Derived.Shelf.SlSortCmp.KitK
import Derived.Sort.WalkB2
import Derived.Sort.WalkB12
import Derived.Deep.LoopGhost
namespace Go.Proofs.Ytacglolggaobdab.StR
open Go.Shelf Go.RowKit Go.Lib Go.Sort Go.Proofs.Ytacglolggaobdab.St
set_option linter.unusedVariables false
set_option linter.unusedSimpArgs false

structure SLay (P : Program) (k : Nat) : Prop where
  mixed : P.follows .mixedOrders = true
  f169 : P.funcs[169]? = some Try.f169
  f148 : P.funcs[148]? = some Try.f148
  f126 : P.funcs[126]? = some Try.f126
  f125 : P.funcs[125]? = some Try.f125
  f109 : P.funcs[109]? = some Try.f109
  f86 : P.funcs[86]? = some Try.f86
  t0 : P.underlying 0 = some (TypeDesc.tuple #[])
  a0 : ∀ w, (isAgg 0).run P w = .ok false w
  z0 : ∀ w, (Go.sizeOf 0).run P w = .ok 1 w
  v0 : ∀ w, (zeroValue 0).run P w = .ok (Value.tuple #[]) w
  t3 : P.underlying 3 = some (TypeDesc.int IntKind.i64)
  a3 : ∀ w, (isAgg 3).run P w = .ok false w
  z3 : ∀ w, (Go.sizeOf 3).run P w = .ok 1 w
  v3 : ∀ w, (zeroValue 3).run P w = .ok (Value.int IntKind.i64 0) w
  t4 : P.underlying 4 = some (TypeDesc.bool)
  a4 : ∀ w, (isAgg 4).run P w = .ok false w
  z4 : ∀ w, (Go.sizeOf 4).run P w = .ok 1 w
  v4 : ∀ w, (zeroValue 4).run P w = .ok (Value.bool false) w
  t145 : P.underlying 145 = some (TypeDesc.int IntKind.u64)
  a145 : ∀ w, (isAgg 145).run P w = .ok false w
  z145 : ∀ w, (Go.sizeOf 145).run P w = .ok 1 w
  v145 : ∀ w, (zeroValue 145).run P w = .ok (Value.int IntKind.u64 0) w
  t46 : P.underlying 46 = some (TypeDesc.slice 49)
  a46 : ∀ w, (isAgg 46).run P w = .ok false w
  z46 : ∀ w, (Go.sizeOf 46).run P w = .ok 1 w
  v46 : ∀ w, (zeroValue 46).run P w = .ok (Value.slice none 0 0) w
  t121 : P.underlying 121 = some (TypeDesc.func #[49, 49] #[3] false)
  a121 : ∀ w, (isAgg 121).run P w = .ok false w
  z121 : ∀ w, (Go.sizeOf 121).run P w = .ok 1 w
  v121 : ∀ w, (zeroValue 121).run P w = .ok (Value.nilFunc) w
  a49 : ∀ w, (isAgg 49).run P w = .ok true w
  z49 : ∀ w, (Go.sizeOf 49).run P w = .ok k w

theorem laid : SLay Try.prog 2 := by
  constructor
  all_goals first | kernel_rfl | exact Try.func169 | exact Try.func148 | exact Try.func126 | exact Try.func125 | exact Try.func109 | exact Try.func86 | (intro w; kernel_rfl)

variable {P : Program} {α : Type} [Inhabited α]

set_option maxHeartbeats 4000000 in
set_option maxRecDepth 1000000 in
theorem swapRange (k : Nat) (L : SLay P k) (enc : α → List Value) (g : Nat) (cb : Array Value) (blk off cap a b n : Nat) (d0 d : Array α) (w0 w : World)
    (R : RowK enc k w0 blk off d0) (hs : d0.size = d.size) (S : SWK enc k w0 blk off d w) (hab : a + n ≤ b) (hb : b + n ≤ d.size) (hsz : d.size < 4611686018427387904) :
    Calls P 169 #[.slice (some ⟨blk, off, none⟩) d.size cap, .int .i64 a, .int .i64 b, .int .i64 n, .func (.func g) #[] cb] w fun e w' => e = .returned (.tuple #[]) ∧
      ∃ d' : Array α, d'.size = d.size ∧ (∀ t, t < d.size → d'[t]! = swr (fun t => d[t]!) a b n t) ∧ SWK enc k w0 blk off d' w' := by
  have mixed := L.mixed; have t0 := L.t0; have a0 := L.a0; have z0 := L.z0; have v0 := L.v0; have t3 := L.t3; have a3 := L.a3; have z3 := L.z3; have v3 := L.v3; have t4 := L.t4; have a4 := L.a4; have z4 := L.z4; have v4 := L.v4; have t145 := L.t145; have a145 := L.a145; have z145 := L.z145; have v145 := L.v145; have t46 := L.t46; have a46 := L.a46; have z46 := L.z46; have v46 := L.v46; have t121 := L.t121; have a121 := L.a121; have z121 := L.z121; have v121 := L.v121; have a49 := L.a49; have z49 := L.z49
  have S0 : Aside (SWK enc k w0 blk off d w) := S
  clear S
  go_enter L.f169, Try.ntmps169
  go_wp2
  go_loopg [10] n (fun kx s9 wr => ∃ (i : Nat) (dk : Array α), s9 = .int .i64 i ∧ i ≤ n ∧ n - i ≤ kx ∧ dk.size = d.size ∧ Aside (SWK enc k w0 blk off dk wr) ∧ Aside (∀ t, t < d.size → dk[t]! = swr (fun t => d[t]!) a b i t))
  case atStart => exact ⟨0, d, rfl, Nat.zero_le _, Nat.le_refl _, rfl, S0, fun t _ => by rw [swr_zero]⟩
  case round =>
    clear S0
    obtain ⟨i, dk, rfl, hi, hkx, hds, S1, HE⟩ := hrel
    by_cases hlt : i < n
    · have hltz : (i : Int) < (n : Int) := by omega
      go_wp2_with fail
      have ea1 : ((a : Int) + (i : Int)).toNat = a + i := by omega
      have pa1 : (0 : Int) ≤ (a : Int) + (i : Int) := by omega
      have ba1 : (a : Int) + (i : Int) < (d.size : Int) := by omega
      have ra1 : IntKind.i64.wrap ((a : Int) + (i : Int)) = (a : Int) + (i : Int) := by rw [IntKind.wrap_i64]; omega
      have ec1 : ((b : Int) + (i : Int)).toNat = b + i := by omega
      have pc1 : (0 : Int) ≤ (b : Int) + (i : Int) := by omega
      have bc1 : (b : Int) + (i : Int) < (d.size : Int) := by omega
      have rc1 : IntKind.i64.wrap ((b : Int) + (i : Int)) = (b : Int) + (i : Int) := by rw [IntKind.wrap_i64]; omega

      have S2 : Aside (SWK enc k w0 blk off (swp dk (a + i) (b + i)) ((wr.drew.setCells blk (off + (a + i) * k) (enc dk[b + i]!)).setCells blk (off + (b + i) * k) (enc dk[a + i]!))) := S1.out.swapped R (a + i) (b + i) (by omega) (by omega)
      have l1a := S1.out.ld1 R (by omega) P (a + i) (by omega)
      have l1b := S1.out.ld1 R (by omega) P (b + i) (by omega)
      have s1a := S1.out.st1 R (by omega) P (a + i) (by omega) dk[b + i]!
      have s1b := S1.out.st2 R (by omega) P (a + i) (b + i) (by omega) (by omega) dk[b + i]! dk[a + i]!
      have n1a : (enc dk[a + i]!).length = k := R.hk _
      have n1b : (enc dk[b + i]!).length = k := R.hk _
      generalize enc dk[a + i]! = cI1 at S2 l1a s1b n1a
      generalize enc dk[b + i]! = cJ1 at S2 l1b s1a s1b n1b
      clear S1
      go_wp2_with fail
      go_big_region_o
      clear l1a l1b s1a s1b
      generalize (wr.drew.setCells blk (off + (a + i) * k) cJ1).setCells blk (off + (b + i) * k) cI1 = w2 at S2 ⊢

      go_wp2
      go_roundg (n - (i + 1))
      case measure => omega
      case rel => exact ⟨i + 1, swp dk (a + i) (b + i), by go_num, by omega, Nat.le_refl _, by rw [size_swp]; exact hds, S2, fun t ht => swr_step HE.out hds hlt hab hb t ht⟩
    · have hltz : ¬ (i : Int) < (n : Int) := by omega
      go_wp2
      go_end0
      obtain rfl : i = n := by omega
      exact ⟨rfl, dk, hds, HE.out, S1.out⟩

set_option maxHeartbeats 4000000 in
set_option maxRecDepth 1000000 in
theorem rotate (k : Nat) (L : SLay P k) (enc : α → List Value) (g : Nat) (cb : Array Value) (blk off cap a m b : Nat) (d0 d : Array α) (w0 w : World)
    (R : RowK enc k w0 blk off d0) (hs : d0.size = d.size) (S : SWK enc k w0 blk off d w) (ham : a < m) (hmb : m < b) (hb : b ≤ d.size) (hsz : d.size < 4611686018427387904) :
    Calls P 148 #[.slice (some ⟨blk, off, none⟩) d.size cap, .int .i64 a, .int .i64 m, .int .i64 b, .func (.func g) #[] cb] w fun e w' => e = .returned (.tuple #[]) ∧
      ∃ d' : Array α, d'.size = d.size ∧ (∀ t, t < d.size → d'[t]! = rot (fun t => d[t]!) a m b t) ∧ SWK enc k w0 blk off d' w' := by
  have mixed := L.mixed; have t0 := L.t0; have a0 := L.a0; have z0 := L.z0; have v0 := L.v0; have t3 := L.t3; have a3 := L.a3; have z3 := L.z3; have v3 := L.v3; have t4 := L.t4; have a4 := L.a4; have z4 := L.z4; have v4 := L.v4; have t145 := L.t145; have a145 := L.a145; have z145 := L.z145; have v145 := L.v145; have t46 := L.t46; have a46 := L.a46; have z46 := L.z46; have v46 := L.v46; have t121 := L.t121; have a121 := L.a121; have z121 := L.z121; have v121 := L.v121; have a49 := L.a49; have z49 := L.z49
  have S0 : Aside (SWK enc k w0 blk off d w) := S
  have es : ∀ args w, (callFunc 169 args).run P w = .ok (.enter 169 args) w := enters_of L.f169 (by kernel_rfl) rfl
  clear S
  go_enter L.f148, Try.ntmps148
  go_wp2
  go_loopg [10, 11] (b - a) (fun kx s10 s11 wr => ∃ (i j : Nat) (dk : Array α), s10 = .int .i64 i ∧ s11 = .int .i64 j ∧ 0 < i ∧ 0 < j ∧ i ≤ m ∧ m + j ≤ d.size ∧ i + j ≤ kx ∧ dk.size = d.size ∧ Aside (SWK enc k w0 blk off dk wr) ∧
    Aside (∀ t, t < d.size → rot (fun t => dk[t]!) (m - i) m (m + j) t = rot (fun t => d[t]!) a m b t))
  case atStart => exact ⟨m - a, b - m, d, by rw [show ((m - a : Nat) : Int) = (m : Int) - (a : Int) by omega], by rw [show ((b - m : Nat) : Int) = (b : Int) - (m : Int) by omega], by omega, by omega, by omega, by omega, by omega, rfl, S0, fun t _ => by rw [show m - (m - a) = a by omega, show m + (b - m) = b by omega]⟩
  case round =>
    clear S0
    obtain ⟨i, j, dk, rfl, rfl, hi, hj, him, hjd, hkx, hds, S1, HE⟩ := hrel
    by_cases hij : i = j
    · subst hij
      have hcall := swapRange k L enc g cb blk off cap (m - i) m i d0 dk w0 wr R (by omega) S1.out (by omega) (by omega) (by omega)
      rw [show ((m - i : Nat) : Int) = (m : Int) - (i : Int) by omega, hds] at hcall
      clear S1
      have hne : ((i : Int) == (i : Int)) = true := by simp
      go_wp2_with (go_at_fn 169; refine hcall.mono ?_; rintro e w1 ⟨rfl, d1, hd1, hr1, S2⟩)
      go_end0
      exact ⟨rfl, d1, hd1, fun t ht => by rw [hr1 t ht, rot_even _ m i him t]; exact HE.out t ht, S2⟩
    · have hne : ¬ (i : Int) = (j : Int) := by omega
      have hneb : ((i : Int) == (j : Int)) = false := beq_eq_false_iff_ne.2 hne
      by_cases hlt : j < i
      · have hltz : (j : Int) < (i : Int) := by omega
        have hcall := swapRange k L enc g cb blk off cap (m - i) m j d0 dk w0 wr R (by omega) S1.out (by omega) (by omega) (by omega)
        rw [show ((m - i : Nat) : Int) = (m : Int) - (i : Int) by omega, hds] at hcall
        clear S1
        go_wp2_with (go_at_fn 169; refine hcall.mono ?_; rintro e w1 ⟨rfl, d1, hd1, hr1, S2⟩)
        go_roundg (i - j + j)
        case measure => omega
        case rel => exact ⟨i - j, j, d1, by rw [show ((i - j : Nat) : Int) = (i : Int) - (j : Int) by omega], rfl, by omega, hj, by omega, hjd, Nat.le_refl _, hd1, S2, fun t ht => by
            rw [rot_congr (n := d.size) hr1 (by omega) (by omega) hjd t ht, rot_big _ m i j him hlt hj t]; exact HE.out t ht⟩
      · have hltz : ¬ (j : Int) < (i : Int) := by omega
        have hcall := swapRange k L enc g cb blk off cap (m - i) (m + j - i) i d0 dk w0 wr R (by omega) S1.out (by omega) (by omega) (by omega)
        rw [show ((m - i : Nat) : Int) = (m : Int) - (i : Int) by omega, show ((m + j - i : Nat) : Int) = (m : Int) + (j : Int) - (i : Int) by omega, hds] at hcall
        clear S1
        go_wp2_with (go_at_fn 169; refine hcall.mono ?_; rintro e w1 ⟨rfl, d1, hd1, hr1, S2⟩)
        go_roundg (i + (j - i))
        case measure => omega
        case rel => exact ⟨i, j - i, d1, rfl, by rw [show ((j - i : Nat) : Int) = (j : Int) - (i : Int) by omega], hi, by omega, him, by omega, Nat.le_refl _, hd1, S2, fun t ht => by
            rw [rot_congr (n := d.size) hr1 (by omega) (by omega) (by omega) t ht, rot_small _ m i j him (by omega) hi t]; exact HE.out t ht⟩

set_option maxHeartbeats 4000000 in
set_option maxRecDepth 1000000 in
theorem insertion (k : Nat) (L : SLay P k) (enc : α → List Value) (cf : α → α → Int) (g : Nat) (cb : Array Value) (blk off cap a b : Nat) (d0 d : Array α) (w0 w : World)
    (eg : ∀ args w, (callFunc g args).run P w = .ok (.enter g args) w) (hcmp : CmpLays P g cb enc k cf blk off d0.size w0) (R : RowK enc k w0 blk off d0) (hs : d0.size = d.size) (S : SWK enc k w0 blk off d w) (hab : a ≤ b) (hb : b ≤ d.size) (hsz : d.size < 4611686018427387904) :
    Calls P 125 #[.slice (some ⟨blk, off, none⟩) d.size cap, .int .i64 a, .int .i64 b, .func (.func g) #[] cb] w fun e w' => e = .returned (.tuple #[]) ∧ SWK enc k w0 blk off (insertionSort (ltOf cf) d a b) w' := by
  have mixed := L.mixed; have t0 := L.t0; have a0 := L.a0; have z0 := L.z0; have v0 := L.v0; have t3 := L.t3; have a3 := L.a3; have z3 := L.z3; have v3 := L.v3; have t4 := L.t4; have a4 := L.a4; have z4 := L.z4; have v4 := L.v4; have t145 := L.t145; have a145 := L.a145; have z145 := L.z145; have v145 := L.v145; have t46 := L.t46; have a46 := L.a46; have z46 := L.z46; have v46 := L.v46; have t121 := L.t121; have a121 := L.a121; have z121 := L.z121; have v121 := L.v121; have a49 := L.a49; have z49 := L.z49
  have HC : Aside _ := hcmp
  have S0 : Aside (SWK enc k w0 blk off d w) := S
  clear hcmp S
  go_enter L.f125, Try.ntmps125
  go_wp2
  go_loopg [8] (b - a) (fun g1 vi wr => ∃ (i : Nat) (dk : Array α), vi = .int .i64 i ∧ a < i ∧ i ≤ b + 1 ∧ b + 1 - i ≤ g1 + 1 ∧ dk.size = d.size ∧ Aside (SWK enc k w0 blk off dk wr) ∧ Hid (insOuter (ltOf cf) a b i dk = insOuter (ltOf cf) a b (a + 1) d))
  case atStart => exact ⟨a + 1, d, by go_num, by omega, by omega, by omega, rfl, S0, rfl⟩
  case round =>
    clear S0
    obtain ⟨i, dk, rfl, hai, hib, hg1, hsk, S1, HO⟩ := hrel
    by_cases hlt : i < b
    · have hltz : (i : Int) < (b : Int) := by omega
      go_wp2
      go_loopg [9] i (fun g2 vj wr2 => ∃ (j : Nat) (dj : Array α), vj = .int .i64 j ∧ a ≤ j ∧ j ≤ i ∧ j ≤ g2 ∧ dj.size = d.size ∧ Aside (SWK enc k w0 blk off dj wr2) ∧ Hid (insInner (ltOf cf) a j dj = insInner (ltOf cf) a i dk))
      case atStart => exact ⟨i, dk, rfl, by omega, Nat.le_refl _, Nat.le_refl _, hsk, S1, rfl⟩
      case round =>
        clear S1
        obtain ⟨j, dj, rfl, haj, hji, hg2, hsj, S1, HI⟩ := hrel
        have out : (j ≤ a ∨ ltOf cf dj[j]! dj[j - 1]! = false) → Hid (insOuter (ltOf cf) a b (i + 1) dj = insOuter (ltOf cf) a b (a + 1) d) := fun hs => by
          show _ = _
          rw [← HO.out, insOuter_go _ _ _ _ _ hlt, ← HI.out, insInner_stop _ _ _ _ hs]
        have OUT : Aside _ := out
        clear out
        by_cases hja : a < j
        · have hjaz : (a : Int) < (j : Int) := by omega
          obtain ⟨jp, rfl⟩ : ∃ jp, j = jp + 1 := ⟨j - 1, by omega⟩
          have hjaz' : (a : Int) < (jp : Int) + 1 := by omega
          cases hL : ltOf cf dj[jp + 1]! dj[jp]! with
          | true =>
            have ea5 : ((jp : Int) + 1).toNat = jp + 1 := by omega
            have pa5 : (0 : Int) ≤ (jp : Int) + 1 := by omega
            have ba5 : (jp : Int) + 1 < (d.size : Int) := by omega
            have ra5 : IntKind.i64.wrap ((jp : Int) + 1) = (jp : Int) + 1 := by rw [IntKind.wrap_i64]; omega
            have ec5 : ((jp : Int)).toNat = jp := by omega
            have pc5 : (0 : Int) ≤ (jp : Int) := by omega
            have bc5 : (jp : Int) < (d.size : Int) := by omega
            have rc5 : IntKind.i64.wrap ((jp : Int)) = (jp : Int) := by rw [IntKind.wrap_i64]; omega

            obtain ⟨x5, hx5⟩ : ∃ x, x = dj[jp + 1]! := ⟨_, rfl⟩
            obtain ⟨y5, hy5⟩ : ∃ x, x = dj[jp]! := ⟨_, rfl⟩
            have l5a := S1.out.ld R (by omega) P (jp + 1) (by omega)
            have l5b := S1.out.ld R (by omega) P (jp) (by omega)
            rw [← hx5] at l5a
            rw [← hy5] at l5b
            have hc5 := S1.out.cmp HC.out (by omega) x5 y5
            have hv5 : cf x5 y5 < 0 := by rw [hx5, hy5]; exact of_decide_eq_true hL
            have hd5 : decide (cf x5 y5 < 0) = true := decide_eq_true hv5
            clear hx5 hy5
            go_wp2_with fail
            go_quiet_grown (first | (go_at_fn g; refine Calls.grown_of (hc5 _ _)))
            have S2 : Aside (SWK enc k w0 blk off dj (grow (wr.drewN nq) osq)) := S1.out.grown nq osq
            clear l5a l5b hc5 S1
            generalize grow (wr.drewN nq) osq = w2 at S2 ⊢
            clear nq osq
            go_wp2_with fail
            have ea6 : ((jp : Int) + 1).toNat = jp + 1 := by omega
            have pa6 : (0 : Int) ≤ (jp : Int) + 1 := by omega
            have ba6 : (jp : Int) + 1 < (d.size : Int) := by omega
            have ra6 : IntKind.i64.wrap ((jp : Int) + 1) = (jp : Int) + 1 := by rw [IntKind.wrap_i64]; omega
            have ec6 : ((jp : Int)).toNat = jp := by omega
            have pc6 : (0 : Int) ≤ (jp : Int) := by omega
            have bc6 : (jp : Int) < (d.size : Int) := by omega
            have rc6 : IntKind.i64.wrap ((jp : Int)) = (jp : Int) := by rw [IntKind.wrap_i64]; omega

            have S3 : Aside (SWK enc k w0 blk off (swp dj (jp + 1) (jp)) ((w2.drew.setCells blk (off + (jp + 1) * k) (enc dj[jp]!)).setCells blk (off + (jp) * k) (enc dj[jp + 1]!))) := S2.out.swapped R (jp + 1) (jp) (by omega) (by omega)
            have l6a := S2.out.ld1 R (by omega) P (jp + 1) (by omega)
            have l6b := S2.out.ld1 R (by omega) P (jp) (by omega)
            have s6a := S2.out.st1 R (by omega) P (jp + 1) (by omega) dj[jp]!
            have s6b := S2.out.st2 R (by omega) P (jp + 1) (jp) (by omega) (by omega) dj[jp]! dj[jp + 1]!
            have n6a : (enc dj[jp + 1]!).length = k := R.hk _
            have n6b : (enc dj[jp]!).length = k := R.hk _
            generalize enc dj[jp + 1]! = cI6 at S3 l6a s6b n6a
            generalize enc dj[jp]! = cJ6 at S3 l6b s6a s6b n6b
            clear S2
            go_wp2_with fail
            go_big_region_o
            clear l6a l6b s6a s6b
            generalize (w2.drew.setCells blk (off + (jp + 1) * k) cJ6).setCells blk (off + (jp) * k) cI6 = w3 at S3 ⊢

            go_wp2
            go_roundg jp
            case measure => omega
            case rel =>
              refine ⟨jp, swp dj (jp + 1) jp, by first | rfl | go_num | (congr 1; omega), by omega, by omega, Nat.le_refl _, by rw [size_swp]; exact hsj, S3, (show Hid _ from ?_)⟩
              show _ = _
              have := insInner_go (ltOf cf) a (jp + 1) dj hja (by simp only [Nat.add_sub_cancel]; exact hL)
              simp only [Nat.add_sub_cancel] at this
              rw [← HI.out, this]
          | false =>
            have ea7 : ((jp : Int) + 1).toNat = jp + 1 := by omega
            have pa7 : (0 : Int) ≤ (jp : Int) + 1 := by omega
            have ba7 : (jp : Int) + 1 < (d.size : Int) := by omega
            have ra7 : IntKind.i64.wrap ((jp : Int) + 1) = (jp : Int) + 1 := by rw [IntKind.wrap_i64]; omega
            have ec7 : ((jp : Int)).toNat = jp := by omega
            have pc7 : (0 : Int) ≤ (jp : Int) := by omega
            have bc7 : (jp : Int) < (d.size : Int) := by omega
            have rc7 : IntKind.i64.wrap ((jp : Int)) = (jp : Int) := by rw [IntKind.wrap_i64]; omega

            obtain ⟨x7, hx7⟩ : ∃ x, x = dj[jp + 1]! := ⟨_, rfl⟩
            obtain ⟨y7, hy7⟩ : ∃ x, x = dj[jp]! := ⟨_, rfl⟩
            have l7a := S1.out.ld R (by omega) P (jp + 1) (by omega)
            have l7b := S1.out.ld R (by omega) P (jp) (by omega)
            rw [← hx7] at l7a
            rw [← hy7] at l7b
            have hc7 := S1.out.cmp HC.out (by omega) x7 y7
            have hv7 : ¬ cf x7 y7 < 0 := by rw [hx7, hy7]; exact of_decide_eq_false hL
            have hd7 : decide (cf x7 y7 < 0) = false := decide_eq_false hv7
            clear hx7 hy7
            go_wp2_with fail
            go_quiet_grown (first | (go_at_fn g; refine Calls.grown_of (hc7 _ _)))
            have S2 : Aside (SWK enc k w0 blk off dj (grow (wr.drewN nq) osq)) := S1.out.grown nq osq
            clear l7a l7b hc7 S1
            generalize grow (wr.drewN nq) osq = w2 at S2 ⊢
            clear nq osq

            go_wp2
            go_roundg (b - (i + 1))
            case measure => omega
            case rel => exact ⟨i + 1, dj, by go_num, by omega, by omega, by omega, hsj, S2, OUT.out (Or.inr (by simp only [Nat.add_sub_cancel]; exact hL))⟩
        · have hjaz : decide ((j : Int) > (a : Int)) = false := decide_eq_false (by omega)
          have hjaz' : ¬ (a : Int) < (j : Int) := by omega
          have S2 : Aside (SWK enc k w0 blk off dj wr.drew) := S1.out.drew
          clear S1
          go_wp2_with fail
          go_big_region_o
          all_goals go_wp2
          go_roundg (b - (i + 1))
          case measure => omega
          case rel => exact ⟨i + 1, dj, by go_num, by omega, by omega, by omega, hsj, S2, OUT.out (Or.inl (by omega))⟩
    · have hltz : ¬ (i : Int) < (b : Int) := by omega
      go_wp2
      go_end0
      exact ⟨rfl, by unfold Sort.insertionSort; rw [← HO.out, insOuter_stop _ _ _ _ _ hlt]; exact S1.out⟩
end Go.Proofs.Ytacglolggaobdab.StR
