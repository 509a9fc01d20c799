/- New, and the law's own examples of a wire. -/
import Derived.Test.YtacglolggaobdaaWAct
namespace Go.Proofs.Ytacglolggaobdaa.Qu
open Go.RowKit Go.Proofs.YtacglolggaobdaaW.PrintWords Go.Proofs.YtacglolggaobdaaW.PrintLast Go.Proofs.YtacglolggaobdaaW.PrintMore
attribute [local go_sem] max2_int min2_int max_two min_two max_three min_three max_four min_four
set_option linter.unusedVariables false
set_option linter.unusedSimpArgs false

/-- a wire that New made -/
structure NewW (w w' : World) (wb sb : Nat) : Prop where
  bel : Below w.heap.size w w'
  hdr : WH w' wb sb (.pointer none) (.slice none 0 0)
  st : ST w' sb [] 0 false
  lw : w.heap.size ≤ wb
  ls : w.heap.size ≤ sb
def NewWP (w : World) (y : Ending) (w' : World) : Prop := ∃ wb sb, y = .returned (.pointer (some ⟨wb, 0, none⟩)) ∧ NewW w w' wb sb
set_option maxHeartbeats 4000000 in
set_option maxRecDepth 100000 in
theorem wnew (w : World) : Calls Try.prog 43 #[] w (NewWP w) := by
  go_enter Try.func43, Try.ntmps43
  go_wp2
  go_ret
  refine ⟨w.heap.size + 1, w.heap.size, rfl, ?_, ?_, ?_, Nat.le_add_right _ _, Nat.le_refl _⟩
  · exact ((Below.refl _ _).alloc (Nat.le_refl _) _).alloc (by simp [World.size_alloc]) _
  · have := heap_alloc_new (w.alloc (.cells #[.string ⟨#[]⟩, .int .i64 0, .bool false] 96)) (.cells #[.pointer (some ⟨w.heap.size, 0, none⟩), .pointer none, .slice none 0 0] 101)
    rw [World.size_alloc] at this
    exact this
  · show _ = _
    rw [Below.heap_alloc _ _ _ (by simp [World.size_alloc])]
    exact heap_alloc_new w _
/-- wire and link are made -/
theorem NewW.wl {w w1 w2 : World} {wb sb : Nat} {L : Lk} {v : LV} (h : NewW w w1 wb sb) (hl : InL w1 w2 L v) (B0 : Nat) (w3 : World) (ho : Only w2 w3 (fun _ => False)) (hB : w2.heap.size ≤ B0) (hB3 : B0 ≤ w3.heap.size) : WL w w3 L ⟨wb, sb, B0⟩ ⟨[], 0, false, []⟩ v := by
  have hlt1 := blk_lt h.hdr
  have hlt2 := blk_lt h.st
  have hs := hl.bel.size
  have h2 : WH w2 wb sb (.pointer none) (.slice none 0 0) := (hl.bel.block wb hlt1).trans h.hdr
  have h3 : ST w2 sb [] 0 false := (hl.bel.block sb hlt2).trans h.st
  refine ⟨?_, ⟨.pointer none, .slice none 0 0, ho.blk h2 (fun e => e), ho.blk h3 (fun e => e), World.ownsRowF_nil _ _ _ _, fun _ => rfl, .inl rfl, by show wb < B0; omega, by show sb < B0; omega, hB3⟩, h.lw, h.ls, fun b hb => by have := hl.lt b hb; show b < B0; omega⟩
  exact (show InL w w2 L v from ⟨hl.ex, below_step h.bel hl.bel, fun b e => Nat.le_trans h.bel.size (hl.new b e)⟩).only ho (fun _ _ e => e) (fun _ e => e.elim)

set_option maxHeartbeats 8000000 in
set_option maxRecDepth 100000 in
theorem wlives_any (w : World) : Calls Try.prog 42 #[] w fun e w' => e = .returned (.bool true) ∧ Below w.heap.size w w' := by
  go_enter Try.func42, Try.ntmps42
  go_wp2_with fail
  refine (wnew w).mono ?_
  rintro e w1 ⟨wb, sb, rfl, hn⟩
  have HN := Aside0.mk hn
  clear hn
  go_wp2_with fail
  refine (lnew_ok w1 5 (by decide)).mono ?_
  rintro e w2 ⟨L, rfl, hl⟩
  have H2 := Aside0.mk (HN.out.wl hl w2.heap.size w2 (Only.refl _ _) (Nat.le_refl _) (Nat.le_refl _))
  clear hl
  obtain ⟨D, hD⟩ : ∃ D, D = (⟨wb, sb, w2.heap.size⟩ : Dk) := ⟨_, rfl⟩
  obtain rfl : wb = D.wb := by rw [hD]
  rw [show sb = D.sb by rw [hD]] at H2
  rw [show (⟨D.wb, D.sb, w2.heap.size⟩ : Dk) = D by rw [hD]] at H2
  clear hD
  go_wp2_with fail
  refine (H2.out.wi.send ⟨#[97, 98, 99]⟩ (by decide)).mono ?_
  rintro e w3 ⟨rfl, hi, ho⟩
  have H3 := Aside0.mk (show WL w w3 L D ⟨[97, 98, 99], 0, false, []⟩ ⟨5, [], [], false, false⟩ from H2.out.byWire hi ho)
  clear hi ho
  go_wp2_with fail
  have hr := wread H3.out ⟨by decide, by decide, by decide⟩ 2
  unfold ReadP at hr
  rw [show gotN ⟨[97, 98, 99], 0, false, []⟩ ⟨5, [], [], false, false⟩ 2 = 2 by decide, show readV ⟨[97, 98, 99], 0, false, []⟩ ⟨5, [], [], false, false⟩ 2 = ⟨5, [97, 98], [], false, false⟩ from rfl] at hr
  refine hr.mono ?_
  rintro e w4 ⟨rfl, hi, ho⟩
  have H4 := Aside0.mk (show WL w w4 L D ⟨[97, 98, 99], 2, false, []⟩ ⟨5, [97, 98], [], false, false⟩ from hi)
  clear hi ho hr
  go_wp2_with fail
  have hab : ((st [97, 98]).toList == [97, 98]) = true := by rw [ByteArray.toList_eq]; rfl
  refine H4.out.inl.left.mono ?_
  rintro e w5 ⟨rfl, nd, rfl⟩
  go_wp2_with fail
  refine (H4.out.wi.left ⟨by decide, by decide, by decide⟩ nd).mono ?_
  rintro e w6 ⟨rfl, nd2, rfl⟩
  go_wp2_with fail
  refine (H4.out.drewN nd2).inl.dry.mono ?_
  rintro e w7 ⟨rfl, rfl⟩
  go_wp2
  go_ret
  exact ⟨rfl, (H4.out.drewN nd2).inl.bel⟩
end Go.Proofs.Ytacglolggaobdaa.Qu
