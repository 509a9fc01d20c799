/- The law's own examples of a link. -/
import Derived.Test.YtacglolggaobdaaLAct
namespace Go.Proofs.Ytacglolggaobdaa.Qu
open Go.RowKit Go.Proofs.YtacglolggaobdaaW.PrintWords Go.Proofs.YtacglolggaobdaaW.PrintLast Go.Proofs.YtacglolggaobdaaW.PrintMore
attribute [local go_sem] max2_int min2_int max_two min_two max_three min_three max_four min_four
set_option linter.unusedVariables false
set_option linter.unusedSimpArgs false

theorem InL.give_as {w0 w : World} {L : Lk} {v : LV} (h : InL w0 w L v) (t : ByteArray) (k : Int) (v' : LV) (ht : t.size ≤ 1000000) (hk : (v.give t : Int) = k) (hv : { v with I := v.I ++ t.data.toList.take (v.give t) } = v') :
    Calls Try.prog 39 #[.pointer (some ⟨L.k, 0, none⟩), .string t] w fun x w' => x = .returned (.int .i64 k) ∧ InL w0 w' L v' ∧ Only w w' L.S := by
  subst hk hv
  exact h.give t ht
theorem InL.write_as {w0 w : World} {L : Lk} {v : LV} (h : InL w0 w L v) (t : ByteArray) (v' : LV) (ht : v.Out.length + t.size ≤ 1000000) (hv : { v with Out := if v.s then v.Out else v.Out ++ t.data.toList } = v') :
    Calls Try.prog 37 #[.pointer (some ⟨L.k, 0, none⟩), .string t] w fun x w' => x = .returned (.tuple #[]) ∧ InL w0 w' L v' ∧ Only w w' L.S := by
  subst hv
  exact h.write t ht
theorem InL.take_as {w0 w : World} {L : Lk} {v : LV} (h : InL w0 w L v) (n : Int) (s : ByteArray) (v' : LV) (h1 : -9223372036854775808 ≤ n) (h2 : n ≤ 9223372036854775807) (hO : v.Out.length ≤ 1000000) (hs : st (v.Out.take n.toNat) = s) (hv : { v with Out := v.Out.drop n.toNat } = v') :
    Calls Try.prog 40 #[.pointer (some ⟨L.k, 0, none⟩), .int .i64 n] w fun x w' => x = .returned (.string s) ∧ InL w0 w' L v' ∧ Only w w' L.S := by
  subst hs hv
  exact h.take hO n h1 h2
theorem InL.free_as {w0 w : World} {L : Lk} {v : LV} (h : InL w0 w L v) (r : Bool) (hr : decide (v.Out.length ≤ v.m) = r) : Calls Try.prog 32 #[.pointer (some ⟨L.k, 0, none⟩)] w fun x w' => x = .returned (.bool r) ∧ w = w' := by
  subst hr
  exact h.free
theorem InL.waits_as {w0 w : World} {L : Lk} {v : LV} (h : InL w0 w L v) (r : Int) (hs : v.Out.length ≤ 1000000) (hr : (v.Out.length : Int) = r) : Calls Try.prog 31 #[.pointer (some ⟨L.k, 0, none⟩)] w fun x w' => x = .returned (.int .i64 r) ∧ ∃ nd, w' = w.drewN nd := by
  subst hr
  exact h.waits hs

set_option maxHeartbeats 8000000 in
set_option maxRecDepth 100000 in
theorem llives_any (w : World) : Calls Try.prog 27 #[] w fun e w' => e = .returned (.bool true) ∧ Below w.heap.size w w' := by
  go_enter Try.func27, Try.ntmps27
  go_wp2_with fail
  refine (lnew_ok w 2 (by decide)).mono ?_
  rintro e w1 ⟨L, rfl, hl⟩
  have H1 := Aside0.mk hl
  clear hl
  go_wp2_with fail
  refine (lnew_bad _ (-1) (by decide)).mono ?_
  rintro e w' ⟨rfl, rfl⟩
  go_wp2_with fail
  refine (H1.out.give_as ⟨#[97, 98, 99]⟩ 2 ⟨2, [97, 98], [], false, false⟩ (by decide) (by decide) rfl).mono ?_
  rintro e w2 ⟨rfl, hl, ho⟩
  have H2 := Aside0.mk hl
  clear hl ho
  go_wp2_with fail
  refine (H2.out.write_as ⟨#[120, 121, 122]⟩ ⟨2, [97, 98], [120, 121, 122], false, false⟩ (by decide) rfl).mono ?_
  rintro e w3 ⟨rfl, hl, ho⟩
  have H3 := Aside0.mk hl
  clear hl ho
  go_wp2_with fail
  refine (H3.out.free_as false (by decide)).mono ?_
  rintro e w' ⟨rfl, rfl⟩
  go_wp2_with fail
  refine (H3.out.take_as 1 ⟨#[120]⟩ ⟨2, [97, 98], [121, 122], false, false⟩ (by decide) (by decide) (by decide) rfl rfl).mono ?_
  rintro e w4 ⟨rfl, hl, ho⟩
  have H4 := Aside0.mk hl
  clear hl ho
  go_wp2_with fail
  refine (H4.out.free_as true (by decide)).mono ?_
  rintro e w' ⟨rfl, rfl⟩
  go_wp2_with fail
  refine (H4.out.waits_as 2 (by decide) (by decide)).mono ?_
  rintro e w5 ⟨rfl, nd, rfl⟩
  go_wp2
  go_ret
  exact ⟨rfl, (H4.out.drewN nd).bel⟩
end Go.Proofs.Ytacglolggaobdaa.Qu
