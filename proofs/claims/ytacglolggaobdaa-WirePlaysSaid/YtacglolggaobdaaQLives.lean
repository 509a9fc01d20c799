/- The law's own examples of a queue. -/
import Derived.Test.YtacglolggaobdaaQRef
namespace Go.Proofs.Ytacglolggaobdaa.Qu
open Go.RowKit Go.Proofs.YtacglolggaobdaaW.PrintWords Go.Proofs.YtacglolggaobdaaW.PrintLast Go.Proofs.YtacglolggaobdaaW.PrintMore
attribute [local go_sem] max2_int min2_int max_two min_two max_three min_three max_four min_four
set_option linter.unusedVariables false
set_option linter.unusedSimpArgs false

theorem IsQ.put_as {w : World} {g r m : Nat} {q : List UInt8} (h : IsQ w g r m q) (s : ByteArray) (hs : s.size ≤ 9223372036854775807) (k : Int) (q' : List UInt8) (hk : ((min s.size (m - q.length) : Nat) : Int) = k) (hq : q ++ s.data.toList.take (min s.size (m - q.length)) = q') :
    Calls Try.prog 16 #[.pointer (some ⟨g, 0, none⟩), .string s] w fun e w' => e = .returned (.int .i64 k) ∧ IsQ w' g r m q' ∧ Only w w' (fun b => b = g ∨ b = r) := by
  subst hk hq
  exact h.put s hs
theorem IsQ.take_as {w : World} {g r m : Nat} {q : List UInt8} (h : IsQ w g r m q) (n : Int) (s : ByteArray) (q' : List UInt8) (hs : (⟨(q.take n.toNat).toArray⟩ : ByteArray) = s) (hq : q.drop n.toNat = q') :
    Calls Try.prog 18 #[.pointer (some ⟨g, 0, none⟩), .int .i64 n] w fun e w' => e = .returned (.string s) ∧ IsQ w' g r m q' ∧ Only w w' (fun b => b = g) := by
  subst hs hq
  exact h.take n

/-- What is known of a queue while it is used: it and its row are new since w0. -/
structure InQ (w0 w : World) (g r m : Nat) (q : List UInt8) : Prop where
  q : IsQ w g r m q
  bel : Below w0.heap.size w0 w
  g0 : w0.heap.size ≤ g
  r0 : w0.heap.size ≤ r
theorem InQ.step {w0 w w' : World} {g r m : Nat} {q q' : List UInt8} (h : InQ w0 w g r m q) (hq : IsQ w' g r m q') (ho : Only w w' (fun b => b = g ∨ b = r)) : InQ w0 w' g r m q' :=
  ⟨hq, h.bel.trans (ho.below h.bel.size (fun k hk => by rcases hk with rfl | rfl; exact h.g0; exact h.r0)), h.g0, h.r0⟩
theorem InQ.step1 {w0 w w' : World} {g r m : Nat} {q q' : List UInt8} (h : InQ w0 w g r m q) (hq : IsQ w' g r m q') (ho : Only w w' (fun b => b = g)) : InQ w0 w' g r m q' :=
  h.step hq (ho.mono (fun k _ hk => Or.inl hk))
theorem InQ.below {w0 w w' : World} {g r m : Nat} {q : List UInt8} (h : InQ w0 w g r m q) (hb : Below w.heap.size w w') : InQ w0 w' g r m q :=
  ⟨h.q.only (Only.of_below (S := fun _ => False) hb) (fun h => h) (fun h => h), below_step h.bel hb, h.g0, h.r0⟩

set_option maxHeartbeats 8000000 in
set_option maxRecDepth 100000 in
theorem lives_any (w : World) : Calls Try.prog 15 #[] w fun e w' => e = .returned (.bool true) ∧ Below w.heap.size w w' := by
  go_enter Try.func15, Try.ntmps15
  go_wp2_with fail
  refine (new_ok w 3 (by decide)).mono ?_
  rintro e w1 ⟨g, r, rfl, hg, hr, hq, hb⟩
  have HQ := Aside0.mk (InQ.mk hq hb hg hr)
  clear hq hb hg hr
  go_wp2_with fail
  refine (HQ.out.q.put_as ⟨#[97, 98, 99, 100]⟩ (by decide) 3 [97, 98, 99] (by decide) (by decide)).mono ?_
  rintro e w2 ⟨rfl, hq2, ho2⟩
  have HQ2 := Aside0.mk (HQ.out.step hq2 ho2)
  clear hq2 ho2
  go_wp2_with fail
  refine (HQ2.out.q.take_as 2 ⟨#[97, 98]⟩ [99] (by decide) (by decide)).mono ?_
  rintro e w3 ⟨rfl, hq3, ho3⟩
  have HQ3 := Aside0.mk (HQ2.out.step1 hq3 ho3)
  clear hq3 ho3
  go_wp2_with fail
  refine (HQ3.out.q.put_as ⟨#[120, 121]⟩ (by decide) 2 [99, 120, 121] (by decide) (by decide)).mono ?_
  rintro e w4 ⟨rfl, hq4, ho4⟩
  have HQ4 := Aside0.mk (HQ3.out.step hq4 ho4)
  clear hq4 ho4
  go_wp2_with fail
  refine (HQ4.out.q.take_as 9 ⟨#[99, 120, 121]⟩ [] (by decide) (by decide)).mono ?_
  rintro e w5 ⟨rfl, hq5, ho5⟩
  have HQ5 := Aside0.mk (HQ4.out.step1 hq5 ho5)
  clear hq5 ho5
  go_wp2_with fail
  refine (new_bad _ (-1) (by decide)).mono ?_
  rintro e w6 ⟨rfl, rfl⟩
  go_wp2_with fail
  refine (new_bad _ 65537 (by decide)).mono ?_
  rintro e w6 ⟨rfl, rfl⟩
  go_wp2
  go_ret
  exact ⟨rfl, HQ5.out.bel⟩
end Go.Proofs.Ytacglolggaobdaa.Qu
