/- header.Get comes to what header_Get.f says: the first field so named. -/
import Derived.Test.YtacglolggaobdaaHidx
namespace Go.Proofs.Ytacglolggaobdaa.PAll
open Go.RowKit Go.Proofs.YtacglolggaobdaaW.PrintWords Go.Proofs.YtacglolggaobdaaW.PrintLast Go.Proofs.YtacglolggaobdaaW.PrintMore Go.Proofs.Ytacglolggaobdaa.Hn
set_option linter.unusedVariables false
set_option linter.unusedSimpArgs false

def getOf (l : List S84) (nm : ByteArray) : ByteArray × Bool := match l.find? (isN nm) with | some x => (x.f1, true) | none => (⟨#[]⟩, false)
def header_Get.f (l0 : List (S84)) (a1 : ByteArray) : Option (ByteArray × Bool) := if fit l0 ∧ a1.size ≤ 9223372036854775807 then some (getOf l0 a1) else none

/-- header.named, of one name that was laid just ahead. -/
theorem named_one (s : ByteArray) (w : World) (hs : s.size ≤ 9223372036854775807) : IsNamed ((w.alloc (.cells #[.string s] 9)).alloc (.cells #[.slice (some ⟨w.heap.size, 0, none⟩) 1 1] 77)) (w.heap.size + 1) [s] := by
  refine ⟨⟨some ⟨w.heap.size, 0, none⟩, 1, ?_, one_name _ w.heap.size s 9 ?_⟩, by simp, by simpa using hs⟩
  · have := heap_alloc_new (w.alloc (.cells #[.string s] 9)) (.cells #[.slice (some ⟨w.heap.size, 0, none⟩) 1 1] 77)
    simpa [World.size_alloc] using this
  · rw [Below.heap_alloc _ _ _ (by simp [World.size_alloc])]
    exact heap_alloc_new w _
theorem idx_none {l : List S84} {p : S84 → Bool} (h : idx p l < 0) : l.find? p = none := by
  unfold idx at h
  cases hf : l.findIdx? p with
  | some i => rw [hf] at h; simp at h; omega
  | none =>
    refine List.find?_eq_none.2 fun x hx => ?_
    simp [List.findIdx?_eq_none_iff.1 hf x hx]
theorem idx_some {l : List S84} {p : S84 → Bool} (h : ¬ idx p l < 0) : ∃ (i : Nat) (hi : i < l.length), idx p l = (i : Int) ∧ l.find? p = some l[i] ∧ p l[i] = true := by
  unfold idx at h ⊢
  cases hf : l.findIdx? p with
  | some i =>
    obtain ⟨hi, hp, hj⟩ := List.findIdx?_eq_some_iff_getElem.1 hf
    refine ⟨i, hi, rfl, ?_, hp⟩
    rw [List.find?_eq_some_iff_getElem]
    exact ⟨hp, i, hi, rfl, fun j hj' => by simp [hj j hj']⟩
  | none => rw [hf] at h; simp at h

set_option maxHeartbeats 1000000 in
set_option maxRecDepth 100000 in
theorem header_Get.calls (A0 : Option Addr) (c0 : Nat) (l0 : List (S84)) (a1 : ByteArray) (r1 : ByteArray) (r2 : Bool) (w : World) (hr0 : Kd.C k84 w A0 l0.length l0) (hc0 : l0.length ≤ c0) (h : header_Get.f l0 a1 = some (r1, r2)) :
    Calls Try.prog 56 #[.slice A0 l0.length c0, .string a1] w fun e w' => e = .returned (.tuple #[.string r1, .bool r2]) ∧ Below w.heap.size w w' := by
  unfold header_Get.f at h
  by_cases hb : fit l0 ∧ a1.size ≤ 9223372036854775807
  · rw [if_pos hb] at h
    have h := Option.some.inj h
    obtain ⟨hfit, hnm⟩ := hb
    have HR := Aside0.mk hr0
    have HF := Aside0.mk hfit
    have hlen := hfit.1
    have hbel : Below w.heap.size w ((w.alloc (.cells #[.string a1] 9)).alloc (.cells #[.slice (some ⟨w.heap.size, 0, none⟩) 1 1] 77)) := ((Below.refl _ _).alloc (Nat.le_refl _) _).alloc (by simp [World.size_alloc]) _
    have HB := Aside0.mk hbel
    have HN := Aside0.mk (named_one a1 w hnm)
    obtain ⟨k, hk⟩ : ∃ k : Int, k = idx (isAny [a1]) l0 := ⟨_, rfl⟩
    have HK := Aside0.mk hk
    clear hr0 hfit hbel
    rw [isAny_one] at hk
    by_cases hneg : k < 0
    · rw [hk] at hneg
      have hf := idx_none hneg
      unfold getOf at h
      rw [hf] at h
      obtain ⟨rfl, rfl⟩ := Prod.mk.inj h
      rw [← hk] at hneg
      clear h hf hk
      go_enter Try.func56, Try.ntmps56
      go_wp2_with (first | (go_at_call 94; refine (named_any _ _ _ _).mono ?_; rintro e w0 ⟨rfl, rfl⟩) | (go_at_call 93; go_loud (refine (indexF_any A0 c0 l0 _ [a1] _ (Kd.C_below HR.out HB.out) HF.out HN.out).mono ?_; rw [← HK.out]; rintro e w1 ⟨rfl, hb1⟩; have HB1 := Aside0.mk (below_step HB.out hb1); clear hb1)))
      go_ret2
      exact ⟨rfl, HB1.out⟩
    · rw [hk] at hneg
      obtain ⟨i, hi, hki, hf, _⟩ := idx_some hneg
      unfold getOf at h
      rw [hf] at h
      obtain ⟨rfl, rfl⟩ := Prod.mk.inj h
      obtain rfl : k = (i : Int) := by rw [hk]; exact hki
      obtain ⟨ad, e, hx0, hx1⟩ := at_T84 HR.out (i : Int) (by omega) (by omega)
      cases e
      rw [rd_at l0 i hi, Int.toNat_natCast] at hx0 hx1
      obtain ⟨x, hxe⟩ : ∃ x, x = l0[i] := ⟨_, rfl⟩
      rw [← hxe] at hx0 hx1 ⊢
      clear h hf hk hneg hki hxe
      go_enter Try.func56, Try.ntmps56
      go_wp2_with (first | (go_at_call 94; refine (named_any _ _ _ _).mono ?_; rintro e w0 ⟨rfl, rfl⟩) | (go_at_call 93; go_loud (refine (indexF_any (some ad) c0 l0 _ [a1] _ (Kd.C_below HR.out HB.out) HF.out HN.out).mono ?_; rw [← HK.out]; rintro e w1 ⟨rfl, hb1⟩; have HB1 := Aside0.mk (below_step HB.out hb1); have hy1 := ((below_step HB.out hb1).cell (World.block_lt_of_cell? w _ hx1)).trans hx1; clear hb1)))
      go_ret2
      exact ⟨rfl, HB1.out⟩
  · rw [if_neg hb] at h
    exact absurd h (by simp)
end Go.Proofs.Ytacglolggaobdaa.PAll
