/- The statement HeaderKeeps, for every input: the law returns true and leaves its arguments as they were. (wip/row.py wrote this frame for this session.) -/
import Derived.Test.YtacglolggaobdaaRows
import Derived.Test.YtacglolggaobdaaPAllx9
import Derived.Test.YtacglolggaobdaaPureHeaderKeeps
import Derived.Test.YtacglolggaobdaaRd
import Derived.WalkKit
import Derived.ProofKit
import Derived.OpenShut
import Derived.ShutString
import Derived.ChangeOld
import Derived.Below
import Derived.SizedLaws
namespace Go.Proofs.Ytacglolggaobdaa.headerKeeps
open Go.ChangeShapes Go.WideShapes Go.ChangeAt Go.RowKit Go.Proofs.Ytacglolggaobdaa.Rd Go.Proofs.Ytacglolggaobdaa.PAll Go.Proofs.YtacglolggaobdaaW.PrintWords
open Go.ChangeMaps (open_string shut_string)
set_option linter.unusedVariables false
theorem own : ownKnob Try.prog.godebug = none := by kernel_rfl
theorem laidOut : laidOutB Try.prog = true := by kernel_rfl
def G9 (s : ByteArray) : Prop := s.size ≤ maxLen
theorem op9 : Opens Try.prog 9 Kd.string G9 := opens_string Try.underlying9
def G84 (x : S84) : Prop := G9 x.f0 ∧ G9 x.f1
theorem op84 : Opens Try.prog 84 k84 G84 := opens_struct (fun x : S84 => (x.f0, x.f1)) (fun p => ⟨p.1, p.2⟩) (fun _ => rfl) Try.underlying84 (by kernel_rfl) (tys := [(9, 0), (9, 1)]) (by kernel_rfl) (seq_cons op9 (by kernel_rfl) (seq_one op9 (by kernel_rfl)))
def G73 (xs : List (S84)) : Prop := ∀ x ∈ xs, G84 x
theorem op73 : Opens Try.prog 73 (Kd.slice 84 k84) G73 := opens_slice Try.underlying73 op84 (by kernel_rfl)
set_option maxRecDepth 100000 in
theorem lifted (os : Os) (started : os.Started) (H : Type) (enc : TypeId × Value → H) :
    ReturnsInHanded {} Try.checked os 12 .any (Rows.headerKeepsSpec.pre6 enc Try.prog Try.f12 Rows.headerKeepsRow.domain false) (Rows.headerKeepsSpec.post enc Try.prog Try.f12 false true false false) := by
  refine returnsInHanded_of_change (C := Try.checked) own started (by kernel_rfl) Try.func12
    (ChangeSpec.witness6 (enc := enc) (C := Try.checked) false ⟨#[], #[.slice none 0 0, .agg #[.string ByteArray.empty, .string ByteArray.empty], .string ByteArray.empty], []⟩ 8 (by kernel_rfl) (by kernel_rfl) (by kernel_rfl) (by kernel_rfl)) ?_
  intro W base args ds gs before hval0 hW hcnd _
  have hval : ∀ (j : Nat) t v, Try.f12.params[j]? = some t → args[j]? = some v → Value.okWide Try.prog W .any base t v := hval0
  have hW' := hW
  obtain ⟨p, q, hA0, hV, rfl, hfz, hnd⟩ := hW
  have hA : DataW.TrodAll enc Try.prog W 0 (fun _ => true) true Try.f12.params.toList args.toList ds p := hA0
  rw [Try.params12] at hA hval
  obtain ⟨v0, vs0, d0, ds0, p0, q0, hargs, rfl, rfl, h0, r0⟩ := trodAll_cons hA
  obtain ⟨v1, vs1, d1, ds1, p1, q1, rfl, rfl, rfl, h1, r1⟩ := trodAll_cons r0
  obtain ⟨v2, vs2, d2, ds2, p2, q2, rfl, rfl, rfl, h2, r2⟩ := trodAll_cons r1
  obtain ⟨rfl, rfl, rfl⟩ := trodAll_nil r2
  obtain rfl : args = #[v0, v1, v2] := by cases args; simp_all
  obtain ⟨rfl, rfl⟩ := trodVars_none hV
  have k0 := h0
  have lt0 : ∀ x ∈ p0, x.block < W.heap.size := by obtain ⟨m, hm⟩ := k0; exact DataW.trod_lt m _ _ _ hm
  obtain ⟨a0, len0, cap0, rfl⟩ := okWide_slice Try.underlying73 (hval 0 73 v0 rfl rfl)
  obtain ⟨z0, rfl, hc0, hr0, g0⟩ := arg_slice op73 h0
  have k1 := h1
  have lt1 : ∀ x ∈ p1, x.block < W.heap.size := by obtain ⟨m, hm⟩ := k1; exact DataW.trod_lt m _ _ _ hm
  obtain ⟨cs1, rfl, _⟩ := okWide_struct Try.underlying84 (hval 1 84 v1 rfl rfl)
  obtain ⟨z1, hK1, g1⟩ := arg_struct op84 h1
  have hcs1 := k84_open hK1
  obtain rfl : cs1 = _ := Array.toList_inj.1 (hcs1.trans rfl : cs1.toList = (#[.string z1.f0, .string z1.f1] : Array Value).toList)
  obtain ⟨a2, rfl, rfl, rfl, y2⟩ := open_string Try.underlying9 (hval 2 9 v2 rfl rfl) h2
  clear hA0 hval0
  obtain ⟨k, hk⟩ := Pure.HeaderKeeps z0 z1.f0 z1.f1 a2
  refine (abutmentlaw10_HeaderKeeps.calls k a0 cap0 z0 z1.f0 z1.f1 a2 true W hr0 hc0 hk).mono fun e W' ⟨he, bel0⟩ => ?_
  have bel : Below W.heap.size W W' := bel0
  subst he
  exact ⟨_, rfl, _, _, _, [], _, [], hW', trodAll_mk1 (shut_bool Try.underlying4 _), (trodAll_cons_mk (Below.trod laidOut (by kernel_rfl) (of_decide_eq_true (by kernel_rfl)) k0 bel lt0) (trodAll_cons_mk (Below.trod laidOut (by kernel_rfl) (of_decide_eq_true (by kernel_rfl)) k1 bel lt1) (trodAll_cons_mk (shut_string Try.underlying9 y2) trodAll_mk0))), rfl, bel.frame _, fun h => by cases h⟩
theorem over : Rows.headerKeepsRow.holds Try.pinned (OpenSpec.ofChange Rows.headerKeepsSpec) :=
  OpenClaim.holds_of_wide 12 Try.f12 rfl rfl rfl rfl rfl rfl rfl ⟨rfl, rfl, rfl, rfl, rfl⟩ rfl rfl rfl rfl rfl (by kernel_rfl) Try.func12 (by kernel_rfl)
    (of_decide_eq_true (by kernel_rfl)) (by unfold Func.isWrapper; first | (rw [if_pos (by decide +kernel)]; kernel_rfl) | (rw [if_neg (by decide +kernel)]; exact ⟨rfl, rfl⟩))
    (fun os started H enc _ => lifted os started H enc)
theorem proved : Rows.HeaderKeepsSaid := over
#print axioms proved
end Go.Proofs.Ytacglolggaobdaa.headerKeeps
namespace Go.Proofs.Ytacglolggaobdaa
/-- The row, under a short name, for the claim. -/
theorem headerKeeps_holds : Rows.HeaderKeepsSaid := headerKeeps.proved
end Go.Proofs.Ytacglolggaobdaa
