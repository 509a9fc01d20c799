/- canon.Single comes to what canon_Single.f says: is the name one of three. -/
import Derived.Test.YtacglolggaobdabHpredSingle
namespace Go.Proofs.Ytacglolggaobdab.PAll
open Go.RowKit Go.Proofs.YtacglolggaobdabW.PrintWords Go.Proofs.YtacglolggaobdabW.PrintLast Go.Proofs.YtacglolggaobdabW.PrintMore Go.Proofs.Ytacglolggaobdab.Hn
set_option linter.unusedVariables false
set_option linter.unusedSimpArgs false

def singles : List ByteArray := [⟨#[83, 101, 116, 45, 67, 111, 111, 107, 105, 101]⟩, ⟨#[87, 87, 87, 45, 65, 117, 116, 104, 101, 110, 116, 105, 99, 97, 116, 101]⟩, ⟨#[80, 114, 111, 120, 121, 45, 65, 117, 116, 104, 101, 110, 116, 105, 99, 97, 116, 101]⟩]
def singleB (s : ByteArray) : Bool := singles.any fun n => foldB n s
def canon_Single.f (a0 : ByteArray) : Option (Bool) := if a0.size ≤ 9223372036854775807 then some (singleB a0) else none

theorem single1_any (F : Nat) (s : ByteArray) (w : World) (hF : w.heap[F]? = some (.cells #[.string s] 9 (0, 0))) (hs : s.size ≤ 9223372036854775807) : Pred 70 F Value.string (fun n => foldB n s) singles w := by
  intro W x hx hW
  have hF' : W.heap[F]? = some (.cells #[.string s] 9 (0, 0)) := (hW.block F (blk_lt hF)).trans hF
  have hc : W.cell? ⟨F, 0, none⟩ = some (.string s) := (blk_cell hF' 0).trans rfl
  have hxs : x.size ≤ 9223372036854775807 := by
    have : ∀ x ∈ singles, x.size ≤ 100 := by decide
    have := this x hx
    omega
  have hfold := fold_any x s
  obtain ⟨p, hp⟩ : ∃ p, p = foldB x s := ⟨_, rfl⟩
  rw [← hp] at hfold
  have HF := Aside0.mk hfold
  show Calls Try.prog _ _ _ fun e w' => e = .returned (.bool (foldB x s)) ∧ _
  rw [← hp]
  clear hF hF' hfold hp hx hW
  go_enter Try.func70, Try.ntmps70
  go_wp2_with (go_at_call 43; refine (HF.out _ hxs hs).mono ?_; rintro e w' ⟨rfl, ⟨m, rfl⟩⟩)
  go_ret
  exact ⟨rfl, pw_below_drewN (Below.refl _ _) m⟩

theorem slice_three (B : Nat) (W : World) : (Instr.sliceAt 90 (.pointer (some ⟨B, 0, none⟩)) none none none).run Try.prog W = .ok (.slice (some ⟨B, 0, none⟩) 3 3) W := by
  have e : Try.prog.arrayLen 90 = 3 := by kernel_rfl
  have e2 : Try.prog.elem 90 = 9 := by kernel_rfl
  have e3 : (Go.sizeOf 9).run Try.prog W = .ok 1 W := by
    obtain ⟨i0, hi, hz0, hz1, hz2⟩ := info_parts (show (Try.prog.info? 9).map (fun i => (i.zero, i.size, i.bytes)) = some (some (.string ⟨#[]⟩), 1, 16) by kernel_rfl)
    simp [sizeOf, typeInfo, hi, hz1]
  rw [run_sliceAt_array_all W 90 ⟨B, 0, none⟩ (by rw [e, e2]; kernel_rfl), e2, e3, e]
  rfl

theorem singles_row (w : World) (g : Nat) (h : w.heap[g]? = some (.cells #[.string ⟨#[83, 101, 116, 45, 67, 111, 111, 107, 105, 101]⟩, .string ⟨#[87, 87, 87, 45, 65, 117, 116, 104, 101, 110, 116, 105, 99, 97, 116, 101]⟩, .string ⟨#[80, 114, 111, 120, 121, 45, 65, 117, 116, 104, 101, 110, 116, 105, 99, 97, 116, 101]⟩] 90 (0, 0))) :
    Kd.C Kd.string w (some ⟨g, 0, none⟩) singles.length singles := by
  refine Kd.C_of_reads (d := ByteArray.empty) ⟨rfl, by decide, fun _ => ⟨_, rfl, fun j hj => ?_⟩⟩
  have hj' : j < 3 := hj
  match j, hj' with
  | 0, _ => exact (blk_cell h 0).trans rfl
  | 1, _ => exact (blk_cell h 1).trans rfl
  | 2, _ => exact (blk_cell h 2).trans rfl

set_option maxHeartbeats 1000000 in
set_option maxRecDepth 100000 in
theorem canon_Single.calls (a0 : ByteArray) (r : Bool) (w : World) (h : canon_Single.f a0 = some r) :
    Calls Try.prog 41 #[.string a0] w fun e w' => e = .returned (.bool r) ∧ Below w.heap.size w w' := by
  unfold canon_Single.f at h
  by_cases hb : a0.size ≤ 9223372036854775807
  · rw [if_pos hb] at h
    obtain rfl := Option.some.inj h
    clear h
    have hsl := slice_three (w.heap.size + 1)
    go_enter Try.func41, Try.ntmps41
    obtain ⟨W, hW⟩ : ∃ W, W = (w.alloc (.cells #[.string a0] 9)).alloc (.cells #[.string ⟨#[83, 101, 116, 45, 67, 111, 111, 107, 105, 101]⟩, .string ⟨#[87, 87, 87, 45, 65, 117, 116, 104, 101, 110, 116, 105, 99, 97, 116, 101]⟩, .string ⟨#[80, 114, 111, 120, 121, 45, 65, 117, 116, 104, 101, 110, 116, 105, 99, 97, 116, 101]⟩] 90) := ⟨_, rfl⟩
    have hF : W.heap[w.heap.size]? = some (.cells #[.string a0] 9 (0, 0)) := by
      rw [hW, Below.heap_alloc _ _ _ (by simp [World.size_alloc])]
      exact heap_alloc_new w _
    have hA : W.heap[w.heap.size + 1]? = some (.cells #[.string ⟨#[83, 101, 116, 45, 67, 111, 111, 107, 105, 101]⟩, .string ⟨#[87, 87, 87, 45, 65, 117, 116, 104, 101, 110, 116, 105, 99, 97, 116, 101]⟩, .string ⟨#[80, 114, 111, 120, 121, 45, 65, 117, 116, 104, 101, 110, 116, 105, 99, 97, 116, 101]⟩] 90 (0, 0)) := by
      rw [hW]
      have := heap_alloc_new (w.alloc (.cells #[.string a0] 9)) (.cells #[.string ⟨#[83, 101, 116, 45, 67, 111, 111, 107, 105, 101]⟩, .string ⟨#[87, 87, 87, 45, 65, 117, 116, 104, 101, 110, 116, 105, 99, 97, 116, 101]⟩, .string ⟨#[80, 114, 111, 120, 121, 45, 65, 117, 116, 104, 101, 110, 116, 105, 99, 97, 116, 101]⟩] 90)
      simpa [World.size_alloc] using this
    have hbel : Below w.heap.size w W := by rw [hW]; exact ((Below.refl _ _).alloc (Nat.le_refl _) _).alloc (by simp [World.size_alloc]) _
    have hcall := containsS_single (some ⟨w.heap.size + 1, 0, none⟩) 3 singles w.heap.size (fun n => foldB n a0) W (singles_row W _ hA) (by decide) (single1_any w.heap.size a0 W hF hb)
    have HC := Aside0.mk hcall
    have HL := Aside0.mk hbel
    have HW := Aside0.mk hW
    clear hcall hbel hF hA hW
    go_wp2_with (go_at_call 69; rw [← HW.out]; refine HC.out.mono ?_; rintro e w' ⟨rfl, hb'⟩; have HB := Aside0.mk (below_step HL.out hb'); clear hb')
    go_ret
    exact ⟨rfl, HB.out⟩
  · rw [if_neg hb] at h
    exact absurd h (by simp)
end Go.Proofs.Ytacglolggaobdab.PAll
