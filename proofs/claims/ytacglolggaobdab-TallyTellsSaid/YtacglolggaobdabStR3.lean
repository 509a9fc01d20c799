/- slices.SortStableFunc's family at rows of the tally: stable, SortStableFunc: the row holds its own elements in their one stable order. -/
import Derived.Test.YtacglolggaobdabStR2
namespace Go.Proofs.Ytacglolggaobdab.StR
open Go.Shelf Go.RowKit Go.Lib Go.Sort Go.Proofs.Ytacglolggaobdab.St
set_option linter.unusedVariables false
set_option linter.unusedSimpArgs false
variable {P : Program} {α : Type} [Inhabited α]

set_option maxHeartbeats 8000000 in
set_option maxRecDepth 1000000 in
theorem stable (k : Nat) (L : SLay P k) (enc : α → List Value) (cf : α → α → Int) (hO : SWO (ltOf cf)) (g : Nat) (cb : Array Value) (blk off cap : Nat) (d0 d : Array α) (w0 w : World)
    (eg : ∀ args w, (callFunc g args).run P w = .ok (.enter g args) w) (hcmp : CmpLays P g cb enc k cf blk off d0.size w0) (R : RowK enc k w0 blk off d0) (hs : d0.size = d.size) (hsz : d.size ≤ 1000000000) (S : SWK enc k w0 blk off d w) :
    Calls P 109 #[.slice (some ⟨blk, off, none⟩) d.size cap, .int .i64 d.size, .func (.func g) #[] cb] w fun e w' => e = .returned (.tuple #[]) ∧
      ∃ d' : Array α, Mv (ltOf cf) 0 d.size d d' ∧ SortedIn (ltOf cf) 0 d.size d' ∧ SWK enc k w0 blk off d' w' := by
  have mixed := L.mixed; have t0 := L.t0; have a0 := L.a0; have z0 := L.z0; have v0 := L.v0; have t3 := L.t3; have a3 := L.a3; have z3 := L.z3; have v3 := L.v3; have t4 := L.t4; have a4 := L.a4; have z4 := L.z4; have v4 := L.v4; have t145 := L.t145; have a145 := L.a145; have z145 := L.z145; have v145 := L.v145; have t46 := L.t46; have a46 := L.a46; have z46 := L.z46; have v46 := L.v46; have t121 := L.t121; have a121 := L.a121; have z121 := L.z121; have v121 := L.v121; have a49 := L.a49; have z49 := L.z49
  have HC : Aside _ := hcmp
  have ei : ∀ args w, (callFunc 125 args).run P w = .ok (.enter 125 args) w := enters_of L.f125 (by kernel_rfl) rfl
  have em : ∀ args w, (callFunc 126 args).run P w = .ok (.enter 126 args) w := enters_of L.f126 (by kernel_rfl) rfl
  have S0 : Aside (SWK enc k w0 blk off d w) := S
  clear hcmp S
  obtain ⟨n, hn⟩ : ∃ n, n = d.size := ⟨_, rfl⟩
  have HN : Hid (n = d.size) := hn
  rw [← hn] at hs hsz ⊢
  clear hn
  go_enter L.f109, Try.ntmps109
  go_wp2
  go_loopg [7, 8] n (fun kx s1 s2 wr => ∃ (A q : Nat) (dk : Array α), s1 = .int .i64 A ∧ s2 = .int .i64 ((A : Int) + 20) ∧ A ≤ n ∧ n - A ≤ kx ∧ Hid (A = 20 * q) ∧ Aside (dk.size = n) ∧ Aside (SWK enc k w0 blk off dk wr) ∧ Aside (Mv (ltOf cf) 0 n d dk ∧ Upto (ltOf cf) 20 A dk))
  case atStart => exact ⟨0, 0, d, rfl, by go_num, Nat.zero_le _, Nat.le_refl _, rfl, HN.out.symm, S0, Mv.refl _ _ _, Upto.zero _ _⟩
  case round =>
    clear S0
    obtain ⟨A, q, dk, rfl, rfl, hAn, hkx, hAq, hds, S1, HI⟩ := hrel
    by_cases hlt : A + 20 ≤ n
    · have hltz : (A : Int) + 20 ≤ (n : Int) := by omega
      have hcall := insertion k L enc cf g cb blk off cap A (A + 20) d0 dk w0 wr eg HC.out R (hs.trans hds.out.symm) S1.out (by omega) (by rw [hds.out]; exact hlt) (by rw [hds.out]; omega)
      rw [hds.out, show ((A + 20 : Nat) : Int) = (A : Int) + 20 by omega] at hcall
      have im := insertion_mv hO dk A (A + 20) (by omega) (by rw [hds.out]; exact hlt)
      obtain ⟨d1, hd1⟩ : ∃ x, x = insertionSort (ltOf cf) dk A (A + 20) := ⟨_, rfl⟩
      rw [← hd1] at hcall im
      have IM : Aside _ := im
      clear S1 im hd1
      go_wp2_with (go_at_fn 125; refine hcall.mono ?_; rintro e w1 ⟨rfl, S2⟩)
      go_roundg (n - (A + 20))
      case measure => omega
      case rel =>
        refine ⟨A + 20, q + 1, d1, by go_num, by go_num, hlt, Nat.le_refl _, ?_, IM.out.1.size.trans hds.out, S2, ?_, ?_⟩
        · show A + 20 = 20 * (q + 1)
          have := hAq.out
          omega
        · exact HI.out.1.trans (IM.out.1.wide (Nat.zero_le _) hlt)
        · have e := hAq.out
          have := HI.out.2
          rw [e] at this
          have := this.step (c' := A + 20) (by omega) (by rw [← e]; exact IM.out.1) (by rw [← e]; exact IM.out.2)
          exact this
    · have hltz : ¬ (A : Int) + 20 ≤ (n : Int) := by omega
      have hcall := insertion k L enc cf g cb blk off cap A n d0 dk w0 wr eg HC.out R (hs.trans hds.out.symm) S1.out (by omega) (by rw [hds.out]; exact Nat.le_refl _) (by rw [hds.out]; omega)
      rw [hds.out] at hcall
      have im := insertion_mv hO dk A n (by omega) (by rw [hds.out]; exact Nat.le_refl _)
      obtain ⟨d1, hd1⟩ : ∃ x, x = insertionSort (ltOf cf) dk A n := ⟨_, rfl⟩
      rw [← hd1] at hcall im
      have S2' : Aside (d1.size = n ∧ Mv (ltOf cf) 0 n d d1 ∧ Upto (ltOf cf) 20 n d1) := by
        refine ⟨im.1.size.trans hds.out, HI.out.1.trans (im.1.wide (Nat.zero_le _) (Nat.le_refl _)), ?_⟩
        have e := hAq.out
        have := HI.out.2
        rw [e] at this
        exact this.step (by omega) (by rw [← e]; exact im.1) (by rw [← e]; exact im.2)
      clear S1 im hd1 HI hds hAq
      go_wp2_with (go_at_fn 125; refine hcall.mono ?_; rintro e w1 ⟨rfl, S2⟩)
      clear hcall
      have S2 : Aside _ := S2
      go_loopg [6] n (fun kx s1 wr2 => ∃ (B : Nat) (dk : Array α), s1 = .int .i64 B ∧ 0 < B ∧ B ≤ 2 * n + 20 ∧ n - B ≤ kx ∧ Aside (SWK enc k w0 blk off dk wr2) ∧ Aside (dk.size = n ∧ Mv (ltOf cf) 0 n d dk ∧ Upto (ltOf cf) B n dk))
      case atStart => exact ⟨20, d1, rfl, by omega, by omega, by omega, S2, S2'.out⟩
      case round =>
        clear S2 S2' hltz hlt hkx hAn
        obtain ⟨B, dk, rfl, hB, hBn, hkx, S1, HI⟩ := hrel
        by_cases hlt : B < n
        · have hltz : (B : Int) < (n : Int) := by omega
          go_wp2
          go_loopg [7, 8] n (fun kx s1 s2 wr2 => ∃ (A q : Nat) (dk : Array α), s1 = .int .i64 A ∧ s2 = .int .i64 ((A : Int) + 2 * (B : Int)) ∧ A ≤ n ∧ n - A ≤ kx ∧ Hid (A = (2 * B) * q) ∧ Aside (SWK enc k w0 blk off dk wr2) ∧ Aside (dk.size = n ∧ Mv (ltOf cf) 0 n d dk ∧ Upto (ltOf cf) (2 * B) A dk ∧ From (ltOf cf) B A n dk))
          case atStart => exact ⟨0, 0, dk, rfl, by go_num, Nat.zero_le _, Nat.le_refl _, rfl, S1, HI.out.1, HI.out.2.1, Upto.zero _ _, HI.out.2.2.from0⟩
          case round =>
            clear S1 HI
            obtain ⟨A, q, dk, rfl, rfl, hAn, hkx2, hAq, S1, HI⟩ := hrel
            by_cases hle : A + 2 * B ≤ n
            · have hlez : (A : Int) + 2 * (B : Int) ≤ (n : Int) := by omega
              have hcall := symMerge_all k L enc cf hO g cb blk off cap d0 w0 eg HC.out R (by omega) (2 * B) A (A + B) (A + 2 * B) dk wr (by omega) (by omega) (by omega) (by rw [HI.out.1]; exact hle) (hs.trans HI.out.1.symm) S1.out
                (HI.out.2.2.2.stretch (2 * q) (Nat.le_refl _) (by omega) (by rw [hAq.out, show B * (2 * q) = 2 * B * q by rw [← Nat.mul_assoc, Nat.mul_comm B 2]]; exact Nat.le_refl _) (by rw [hAq.out, show B * (2 * q) = 2 * B * q by rw [← Nat.mul_assoc, Nat.mul_comm B 2]]; exact Nat.le_refl _))
                (HI.out.2.2.2.stretch (2 * q + 1) (by omega) hle (by rw [hAq.out, show B * (2 * q + 1) = 2 * B * q + B by rw [Nat.mul_add, ← Nat.mul_assoc, Nat.mul_comm B 2, Nat.mul_one]]; exact Nat.le_refl _) (by rw [hAq.out, show B * (2 * q + 1) = 2 * B * q + B by rw [Nat.mul_add, ← Nat.mul_assoc, Nat.mul_comm B 2, Nat.mul_one]]; omega))
              rw [HI.out.1, show ((A + B : Nat) : Int) = (A : Int) + (B : Int) by omega, show ((A + 2 * B : Nat) : Int) = (A : Int) + 2 * (B : Int) by omega] at hcall
              clear S1
              go_wp2_with (go_at_fn 126; refine hcall.mono ?_; rintro e w1 ⟨rfl, d1, m1, o1, S2⟩)
              have M1 : Aside (Mv (ltOf cf) A (A + 2 * B) dk d1 ∧ SortedIn (ltOf cf) A (A + 2 * B) d1) := ⟨m1, o1⟩
              clear m1 o1
              go_roundg (n - (A + 2 * B))
              case measure => omega
              case rel =>
                refine ⟨A + 2 * B, q + 1, d1, by go_num, by go_num, hle, Nat.le_refl _, ?_, S2, M1.out.1.size.trans HI.out.1, HI.out.2.1.trans (M1.out.1.wide (Nat.zero_le _) hle), ?_, HI.out.2.2.2.next M1.out.1 (by omega)⟩
                · show A + 2 * B = 2 * B * (q + 1)
                  rw [Nat.mul_add, ← hAq.out, Nat.mul_one]
                · have e := hAq.out
                  have := HI.out.2.2.1
                  rw [e] at this
                  have := this.step (c' := A + 2 * B) (by omega) (by rw [← e]; exact M1.out.1) (by rw [← e]; exact M1.out.2)
                  exact this
            · have hlez : ¬ (A : Int) + 2 * (B : Int) ≤ (n : Int) := by omega
              by_cases hm : A + B < n
              · have hmz : (A : Int) + (B : Int) < (n : Int) := by omega
                have hcall := symMerge_all k L enc cf hO g cb blk off cap d0 w0 eg HC.out R (by omega) (2 * B) A (A + B) n dk wr (by omega) (by omega) hm (by rw [HI.out.1]; exact Nat.le_refl _) (hs.trans HI.out.1.symm) S1.out
                  (HI.out.2.2.2.stretch (2 * q) (Nat.le_refl _) (by omega) (by rw [hAq.out, show B * (2 * q) = 2 * B * q by rw [← Nat.mul_assoc, Nat.mul_comm B 2]]; exact Nat.le_refl _) (by rw [hAq.out, show B * (2 * q) = 2 * B * q by rw [← Nat.mul_assoc, Nat.mul_comm B 2]]; exact Nat.le_refl _))
                  (HI.out.2.2.2.stretch (2 * q + 1) (by omega) (Nat.le_refl _) (by rw [hAq.out, show B * (2 * q + 1) = 2 * B * q + B by rw [Nat.mul_add, ← Nat.mul_assoc, Nat.mul_comm B 2, Nat.mul_one]]; exact Nat.le_refl _) (by have := hAq.out; rw [show B * (2 * q + 1) = 2 * B * q + B by rw [Nat.mul_add, ← Nat.mul_assoc, Nat.mul_comm B 2, Nat.mul_one]]; omega))
                rw [HI.out.1, show ((A + B : Nat) : Int) = (A : Int) + (B : Int) by omega] at hcall
                clear S1
                go_wp2_with (go_at_fn 126; refine hcall.mono ?_; rintro e w1 ⟨rfl, d1, m1, o1, S2⟩)
                have M1 : Aside (Mv (ltOf cf) A n dk d1 ∧ SortedIn (ltOf cf) A n d1) := ⟨m1, o1⟩
                clear m1 o1
                go_roundg (n - 2 * B)
                case measure => omega
                case rel =>
                  refine ⟨2 * B, d1, by go_num, by omega, by omega, Nat.le_refl _, S2, M1.out.1.size.trans HI.out.1, HI.out.2.1.trans (M1.out.1.wide (Nat.zero_le _) (Nat.le_refl _)), ?_⟩
                  have e := hAq.out
                  have := HI.out.2.2.1
                  rw [e] at this
                  have := this.step (c' := n) (by omega) (by rw [← e]; exact M1.out.1) (by rw [← e]; exact M1.out.2)
                  exact this
              · have hmz : ¬ (A : Int) + (B : Int) < (n : Int) := by omega
                go_wp2
                go_roundg (n - 2 * B)
                case measure => omega
                case rel =>
                  refine ⟨2 * B, dk, by go_num, by omega, by omega, Nat.le_refl _, S1, HI.out.1, HI.out.2.1, ?_⟩
                  have e := hAq.out
                  have hst : SortedIn (ltOf cf) A n dk := HI.out.2.2.2.stretch (2 * q) (Nat.le_refl _) (Nat.le_refl _) (by rw [e, show B * (2 * q) = 2 * B * q by rw [← Nat.mul_assoc, Nat.mul_comm B 2]]; exact Nat.le_refl _) (by rw [show B * (2 * q) = 2 * B * q by rw [← Nat.mul_assoc, Nat.mul_comm B 2], ← e]; omega)
                  have := HI.out.2.2.1
                  rw [e] at this
                  exact this.step (c' := n) (by omega) (Mv.refl _ _ _) (by rw [← e]; exact hst)
        · have hltz : ¬ (B : Int) < (n : Int) := by omega
          go_wp2
          go_end0
          exact ⟨rfl, dk, HI.out.2.1, HI.out.2.2.all (by omega), S1.out⟩

set_option maxHeartbeats 1000000 in
theorem sortStable (k : Nat) (L : SLay P k) (enc : α → List Value) (cf : α → α → Int) (hO : SWO (ltOf cf)) (g : Nat) (cb : Array Value) (blk off cap : Nat) (d : Array α) (w : World)
    (eg : ∀ args w, (callFunc g args).run P w = .ok (.enter g args) w) (hcmp : CmpLays P g cb enc k cf blk off d.size w) (R : RowK enc k w blk off d) (hsz : d.size ≤ 1000000000) :
    Calls P 86 #[.slice (some ⟨blk, off, none⟩) d.size cap, .func (.func g) #[] cb] w fun e w' => e = .returned (.tuple #[]) ∧
      ∃ d' : Array α, d'.toList = isort (ltOf cf) d.toList ∧ SWK enc k w blk off d' w' := by
  have mixed := L.mixed; have t0 := L.t0; have a0 := L.a0; have z0 := L.z0; have v0 := L.v0; have t3 := L.t3; have a3 := L.a3; have z3 := L.z3; have v3 := L.v3; have t4 := L.t4; have a4 := L.a4; have z4 := L.z4; have v4 := L.v4; have t145 := L.t145; have a145 := L.a145; have z145 := L.z145; have v145 := L.v145; have t46 := L.t46; have a46 := L.a46; have z46 := L.z46; have v46 := L.v46; have t121 := L.t121; have a121 := L.a121; have z121 := L.z121; have v121 := L.v121; have a49 := L.a49; have z49 := L.z49
  have hcall := stable k L enc cf hO g cb blk off cap d d w w eg hcmp R rfl hsz (SWK.start R.hH)
  have es : ∀ args w, (callFunc 109 args).run P w = .ok (.enter 109 args) w := enters_of L.f109 (by kernel_rfl) rfl
  clear hcmp R
  go_enter L.f86, Try.ntmps86
  go_wp2_with (go_at_fn 109; refine hcall.mono ?_; rintro e w' ⟨rfl, d', m1, o1, S2⟩)
  go_end0
  exact ⟨rfl, d', stable_eq hO m1 o1, S2⟩

set_option maxHeartbeats 1000000 in
theorem insertion_nil (g : Nat) (cb : Array Value) (w : World) :
    Calls Try.prog 125 #[.slice none 0 0, .int .i64 0, .int .i64 0, .func (.func g) #[] cb] w fun e w' => e = .returned (.tuple #[]) ∧ w' = w := by
  go_enter Try.func125, Try.ntmps125
  go_wp2
  go_loopg [8] 0 (fun _ vi wr => vi = .int .i64 1 ∧ wr = w)
  case atStart => exact ⟨rfl, rfl⟩
  case round =>
    obtain ⟨rfl, rfl⟩ := hrel
    go_wp2
    go_end0
    exact ⟨rfl, rfl⟩
set_option maxHeartbeats 1000000 in
theorem stable_nil (g : Nat) (cb : Array Value) (w : World) :
    Calls Try.prog 109 #[.slice none 0 0, .int .i64 0, .func (.func g) #[] cb] w fun e w' => e = .returned (.tuple #[]) ∧ w' = w := by
  go_enter Try.func109, Try.ntmps109
  go_wp2
  go_loopg [7, 8] 0 (fun _ s1 s2 wr => s1 = .int .i64 0 ∧ s2 = .int .i64 20 ∧ wr = w)
  case atStart => exact ⟨rfl, rfl, rfl⟩
  case round =>
    obtain ⟨rfl, rfl, rfl⟩ := hrel
    have hcall := insertion_nil g cb wr
    go_wp2_with (go_at_call 125; refine hcall.mono ?_; rintro e w1 ⟨rfl, rfl⟩)
    go_loopg [6] 0 (fun _ s1 wr2 => s1 = .int .i64 20 ∧ wr2 = w1)
    case atStart => exact ⟨rfl, rfl⟩
    case round =>
      obtain ⟨rfl, rfl⟩ := hrel
      go_wp2
      go_end0
      exact ⟨rfl, rfl⟩
set_option maxHeartbeats 1000000 in
theorem sortStable_nil (g : Nat) (cb : Array Value) (w : World) :
    Calls Try.prog 86 #[.slice none 0 0, .func (.func g) #[] cb] w fun e w' => e = .returned (.tuple #[]) ∧ w' = w := by
  have hcall := stable_nil g cb w
  go_enter Try.func86, Try.ntmps86
  go_wp2_with (go_at_call 109; refine hcall.mono ?_; rintro e w1 ⟨rfl, rfl⟩)
  go_end0
  exact ⟨rfl, rfl⟩
end Go.Proofs.Ytacglolggaobdab.StR
