/- octet.Fold compares two names without regard to case; the predicate that header.named makes. -/
import Derived.Test.YtacglolggaobdaaPAllx0
import Derived.Test.YtacglolggaobdaaOct
import Derived.BigQuiet
namespace Go.Proofs.Ytacglolggaobdaa.Hn
open Go.RowKit Go.Proofs.YtacglolggaobdaaW.PrintWords Go.Proofs.YtacglolggaobdaaW.PrintLast Go.Proofs.YtacglolggaobdaaW.PrintMore Go.Proofs.Ytacglolggaobdaa.PAll
set_option linter.unusedVariables false
set_option linter.unusedSimpArgs false

def low (c : UInt8) : UInt8 := if 65 ≤ c.toNat ∧ c.toNat ≤ 90 then c + 32 else c
def lowL (s : ByteArray) : List UInt8 := s.data.toList.map low
def foldB (a b : ByteArray) : Bool := decide (lowL a = lowL b)

theorem low_nat (c : UInt8) : ((low c).toNat : Int) = if 65 ≤ c.toNat ∧ c.toNat ≤ 90 then (c.toNat : Int) + 32 else (c.toNat : Int) := by
  unfold low
  split
  · have := c.toNat_lt
    rw [UInt8.toNat_add]
    simp
    omega
  · rfl

theorem lower_any (c : UInt8) (w : World) : Calls Try.prog 120 #[.int .u8 (c.toNat : Int)] w fun e w' => e = .returned (.int .u8 ((low c).toNat : Int)) ∧ w = w' := by
  have h0 := low_nat c
  have h1 := c.toNat_lt
  by_cases h : 65 ≤ c.toNat ∧ c.toNat ≤ 90
  · rw [if_pos h] at h0
    obtain ⟨ha, hb⟩ := h
    rw [h0]
    obtain ⟨n, hn⟩ : ∃ n : Nat, n = c.toNat := ⟨_, rfl⟩
    rw [← hn] at ha hb h1 ⊢
    clear h0 hn
    go_enter Try.func120, Try.ntmps120
    go_wp2
    go_ret
    refine ⟨?_, rfl⟩
    refine congrArg (fun z => Ending.returned (.int .u8 z)) ?_
    first | omega | (simp [IntKind.wrap, IntKind.bits, IntKind.signed]; omega)
  · rw [if_neg h] at h0
    rw [h0]
    obtain ⟨n, hn⟩ : ∃ n : Nat, n = c.toNat := ⟨_, rfl⟩
    rw [← hn] at h ⊢
    clear h0 hn
    by_cases h3 : 65 ≤ n
    · have h4 : ¬ n ≤ 90 := fun h4 => h ⟨h3, h4⟩
      clear h
      go_enter Try.func120, Try.ntmps120
      go_wp2
      go_ret
      exact ⟨rfl, rfl⟩
    · clear h
      go_enter Try.func120, Try.ntmps120
      go_wp2
      go_ret
      exact ⟨rfl, rfl⟩

theorem index_at (s : ByteArray) (i : Nat) (h : i < s.data.toList.length) (W : World) : (Instr.index 9 (.string s) (.int .i64 (i : Int))).run Try.prog W = .ok (.int .u8 ((s.data.toList[i]).toNat : Int)) W := by
  have hs : i < s.size := by simpa using h
  rw [run_index_string W 9 _ .i64 _ Try.underlying9, dif_pos ⟨by omega, by omega⟩]
  rfl
theorem lowL_get (s : ByteArray) (i : Nat) (h : i < s.data.toList.length) : (lowL s)[i]? = some (low (s.data.toList[i])) := by
  unfold lowL
  rw [List.getElem?_map, List.getElem?_eq_getElem h]; rfl

set_option maxHeartbeats 1000000 in
set_option maxRecDepth 100000 in
theorem fold_any (a b : ByteArray) (w : World) (ha : a.size ≤ 9223372036854775807) (hb : b.size ≤ 9223372036854775807) : Calls Try.prog 112 #[.string a, .string b] w fun e w' => e = .returned (.bool (foldB a b)) ∧ Drawn0 w w' := by
  by_cases hl : a.size = b.size
  · obtain ⟨r, hr⟩ : ∃ r, r = foldB a b := ⟨_, rfl⟩
    rw [← hr]
    have HR := Aside0.mk hr
    have hsa : a.size = a.data.toList.length := by simp
    have hsb : b.size = b.data.toList.length := by simp
    have SA := Aside0.mk hsa
    have SB := Aside0.mk hsb
    clear hr hsa hsb
    go_enter Try.func112, Try.ntmps112
    go_wp2
    go_loopw [13] (fun v13 wr => ∃ (i : Nat), v13 = .int .i64 (i : Int) ∧ Aside0 (i ≤ a.size ∧ (lowL a).take i = (lowL b).take i ∧ Drawn0 w wr)) (fun v13 _ => a.size - (intOf v13).toNat)
    case atStart => exact ⟨0, rfl, ⟨by omega, by simp, Drawn0.refl _⟩⟩
    case round =>
      obtain ⟨i, rfl, HA⟩ := hrel
      obtain ⟨hi, heq, ⟨m1, rfl⟩⟩ := HA.out
      clear HA
      have HE := Aside0.mk heq
      clear heq
      by_cases hlt : i < a.size
      · have hia : i < a.data.toList.length := by rw [← SA.out]; exact hlt
        have hib : i < b.data.toList.length := by rw [← SB.out]; omega
        have hxa := index_at a i hia
        have hxb := index_at b i hib
        have ga := lowL_get a i hia
        have gb := lowL_get b i hib
        obtain ⟨x, hx⟩ : ∃ x, x = a.data.toList[i] := ⟨_, rfl⟩
        obtain ⟨y, hy⟩ : ∃ y, y = b.data.toList[i] := ⟨_, rfl⟩
        rw [← hx] at hxa ga
        rw [← hy] at hxb gb
        have GA := Aside0.mk ga
        have GB := Aside0.mk gb
        clear ga gb hx hy
        by_cases he : low x = low y
        · have he1 : (((low x).toNat : Int) != ((low y).toNat : Int)) = false := by rw [he]; simp
          have HE2 := Aside0.mk he
          clear he
          go_wp2
          go_quiet (first | (go_at_call 120; (with_reducible refine (lower_any x _).mono ?_); rintro e w' ⟨rfl, rfl⟩; try exact ⟨rfl, _, rfl⟩) | (go_at_call 120; (with_reducible refine (lower_any y _).mono ?_); rintro e w' ⟨rfl, rfl⟩; try exact ⟨rfl, _, rfl⟩))
          go_wp2
          go_roundw
          case rel =>
            refine ⟨i + 1, by go_num, ⟨by omega, ?_, ?_⟩⟩
            · rw [List.take_add_one, List.take_add_one, HE.out, GA.out, GB.out, HE2.out]
            · exact ⟨m1 + nq, rfl⟩
          case measure => simp [intOf]; omega
        · have he1 : (((low x).toNat : Int) != ((low y).toNat : Int)) = true := by
            refine bne_iff_ne.2 (fun h => he ?_)
            exact UInt8.toNat_inj.1 (Int.ofNat_inj.1 h)
          have hr : r = false := by
            rw [HR.out]; unfold foldB
            refine decide_eq_false (fun h => he ?_)
            have g := GA.out
            rw [h, GB.out] at g
            exact (Option.some.inj g).symm
          subst hr
          clear he
          go_wp2
          go_quiet (first | (go_at_call 120; (with_reducible refine (lower_any x _).mono ?_); rintro e w' ⟨rfl, rfl⟩; try exact ⟨rfl, _, rfl⟩) | (go_at_call 120; (with_reducible refine (lower_any y _).mono ?_); rintro e w' ⟨rfl, rfl⟩; try exact ⟨rfl, _, rfl⟩))
          go_wp2
          go_ret
          exact ⟨rfl, m1 + nq, World.drewN_drewN _ _ _⟩
      · have hr : r = true := by
          rw [HR.out]; unfold foldB
          refine decide_eq_true ?_
          have e := HE.out
          rw [List.take_of_length_le (by unfold lowL; rw [List.length_map, ← SA.out]; omega), List.take_of_length_le (by unfold lowL; rw [List.length_map, ← SB.out]; omega)] at e
          exact e
        subst hr
        go_wp2
        go_ret
        exact ⟨rfl, _, rfl⟩
  · have hr : foldB a b = false := by
      unfold foldB
      refine decide_eq_false (fun h => hl ?_)
      have := congrArg List.length h
      simpa [lowL] using this
    rw [hr]
    clear hr
    go_enter Try.func112, Try.ntmps112
    go_wp2
    go_ret
    exact ⟨rfl, Drawn0.refl _⟩
end Go.Proofs.Ytacglolggaobdaa.Hn
