/- The statement DiffHeads, for every input: the law returns true and leaves its arguments as they were. (wip/row.py wrote this frame for this session.) -/
import Derived.Test.YtacglolggaobdabRows
import Derived.Test.YtacglolggaobdabHDiffHeads
import Derived.Test.YtacglolggaobdabRd
import Derived.WalkKit
import Derived.ProofKit
import Derived.OpenShut
import Derived.ShutString
import Derived.ChangeOld
import Derived.Below
import Derived.SizedLaws
namespace Go.Proofs.Ytacglolggaobdab.diffHeads
open Go.ChangeShapes Go.WideShapes Go.ChangeAt Go.RowKit Go.Proofs.Ytacglolggaobdab.Rd Go.Proofs.Ytacglolggaobdab.PAll Go.Proofs.YtacglolggaobdabW.PrintWords
open Go.ChangeMaps (open_string shut_string)
set_option linter.unusedVariables false
theorem own : ownKnob Try.prog.godebug = none := by kernel_rfl
theorem laidOut : laidOutB Try.prog = true := by kernel_rfl
def G9 (s : ByteArray) : Prop := s.size ≤ maxLen
theorem op9 : Opens Try.prog 9 Kd.string G9 := opens_string Try.underlying9
def G3 (n : Int) : Prop := (Lit.int .i64 n).wf = true
theorem op3 : Opens Try.prog 3 (Kd.int .i64) G3 := opens_int Try.underlying3
def G83 (x : S83) : Prop := G9 x.f0 ∧ G9 x.f1
theorem op83 : Opens Try.prog 83 k83 G83 := opens_struct (fun x : S83 => (x.f0, x.f1)) (fun p => ⟨p.1, p.2⟩) (fun _ => rfl) Try.underlying83 (by kernel_rfl) (tys := [(9, 0), (9, 1)]) (by kernel_rfl) (seq_cons op9 (by kernel_rfl) (seq_one op9 (by kernel_rfl)))
def G39 (xs : List (S83)) : Prop := ∀ x ∈ xs, G83 x
theorem op39 : Opens Try.prog 39 (Kd.slice 83 k83) G39 := opens_slice Try.underlying39 op83 (by kernel_rfl)
def G41 (x : S41) : Prop := G9 x.f0 ∧ G9 x.f1 ∧ G3 x.f2 ∧ G3 x.f3 ∧ G9 x.f4 ∧ G39 x.f5
theorem op41 : Opens Try.prog 41 k41 G41 := opens_struct (fun x : S41 => (x.f0, x.f1, x.f2, x.f3, x.f4, x.f5)) (fun p => ⟨p.1, p.2.1, p.2.2.1, p.2.2.2.1, p.2.2.2.2.1, p.2.2.2.2.2⟩) (fun _ => rfl) Try.underlying41 (by kernel_rfl) (tys := [(9, 0), (9, 1), (3, 2), (3, 3), (9, 4), (39, 5)]) (by kernel_rfl) (seq_cons op9 (by kernel_rfl) (seq_cons op9 (by kernel_rfl) (seq_cons op3 (by kernel_rfl) (seq_cons op3 (by kernel_rfl) (seq_cons op9 (by kernel_rfl) (seq_one op39 (by kernel_rfl)))))))
set_option maxRecDepth 100000 in
theorem lifted (os : Os) (started : os.Started) (H : Type) (enc : TypeId × Value → H) :
    ReturnsInHanded {} Try.checked os 6 .any (Rows.diffHeadsSpec.pre6 enc Try.prog Try.f6 Rows.diffHeadsRow.domain false) (Rows.diffHeadsSpec.post enc Try.prog Try.f6 false true false false) := by
  refine returnsInHanded_of_change (C := Try.checked) own started (by kernel_rfl) Try.func6
    (ChangeSpec.witness6 (enc := enc) (C := Try.checked) false ⟨#[], #[.agg #[.string ByteArray.empty, .string ByteArray.empty, .int .i64 0, .int .i64 0, .string ByteArray.empty, .slice none 0 0], .agg #[.string ByteArray.empty, .string ByteArray.empty, .int .i64 0, .int .i64 0, .string ByteArray.empty, .slice none 0 0]], []⟩ 8 (by kernel_rfl) (by kernel_rfl) (by kernel_rfl) (by kernel_rfl)) ?_
  intro W base args ds gs before hval0 hW hcnd _
  have hval : ∀ (j : Nat) t v, Try.f6.params[j]? = some t → args[j]? = some v → Value.okWide Try.prog W .any base t v := hval0
  have hW' := hW
  obtain ⟨p, q, hA0, hV, rfl, hfz, hnd⟩ := hW
  have hA : DataW.TrodAll enc Try.prog W 0 (fun _ => true) true Try.f6.params.toList args.toList ds p := hA0
  rw [Try.params6] at hA hval
  obtain ⟨v0, vs0, d0, ds0, p0, q0, hargs, rfl, rfl, h0, r0⟩ := trodAll_cons hA
  obtain ⟨v1, vs1, d1, ds1, p1, q1, rfl, rfl, rfl, h1, r1⟩ := trodAll_cons r0
  obtain ⟨rfl, rfl, rfl⟩ := trodAll_nil r1
  obtain rfl : args = #[v0, v1] := by cases args; simp_all
  obtain ⟨rfl, rfl⟩ := trodVars_none hV
  have k0 := h0
  have lt0 : ∀ x ∈ p0, x.block < W.heap.size := by obtain ⟨m, hm⟩ := k0; exact DataW.trod_lt m _ _ _ hm
  obtain ⟨cs0, rfl, _⟩ := okWide_struct Try.underlying41 (hval 0 41 v0 rfl rfl)
  obtain ⟨z0, hK0, g0⟩ := arg_struct op41 h0
  obtain ⟨A0_5, c0_5, hcs0, hc0_5, hr0_5⟩ := k41_open hK0
  obtain rfl : cs0 = _ := Array.toList_inj.1 (hcs0.trans rfl : cs0.toList = (#[.string z0.f0, .string z0.f1, .int .i64 z0.f2, .int .i64 z0.f3, .string z0.f4, .slice A0_5 z0.f5.length c0_5] : Array Value).toList)
  have k1 := h1
  have lt1 : ∀ x ∈ p1, x.block < W.heap.size := by obtain ⟨m, hm⟩ := k1; exact DataW.trod_lt m _ _ _ hm
  obtain ⟨cs1, rfl, _⟩ := okWide_struct Try.underlying41 (hval 1 41 v1 rfl rfl)
  obtain ⟨z1, hK1, g1⟩ := arg_struct op41 h1
  obtain ⟨A1_5, c1_5, hcs1, hc1_5, hr1_5⟩ := k41_open hK1
  obtain rfl : cs1 = _ := Array.toList_inj.1 (hcs1.trans rfl : cs1.toList = (#[.string z1.f0, .string z1.f1, .int .i64 z1.f2, .int .i64 z1.f3, .string z1.f4, .slice A1_5 z1.f5.length c1_5] : Array Value).toList)
  clear hA0 hval0
  have hk := Pure.DiffHeads z0.f0 z0.f1 z0.f2 z0.f3 z0.f4 z0.f5 z1.f0 z1.f1 z1.f2 z1.f3 z1.f4 z1.f5 g0.2.2.2.1 g1.2.2.2.1
  refine (abutmentlaw51_DiffHeads.calls z0.f0 z0.f1 z0.f2 z0.f3 z0.f4 A0_5 c0_5 z0.f5 z1.f0 z1.f1 z1.f2 z1.f3 z1.f4 A1_5 c1_5 z1.f5 true W hr0_5 hc0_5 hr1_5 hc1_5 hk).mono fun e W' ⟨he, bel0⟩ => ?_
  have bel : Below W.heap.size W W' := bel0
  subst he
  exact ⟨_, rfl, _, _, _, [], _, [], hW', trodAll_mk1 (shut_bool Try.underlying4 _), (trodAll_cons_mk (Below.trod laidOut (by kernel_rfl) (of_decide_eq_true (by kernel_rfl)) k0 bel lt0) (trodAll_cons_mk (Below.trod laidOut (by kernel_rfl) (of_decide_eq_true (by kernel_rfl)) k1 bel lt1) trodAll_mk0)), rfl, bel.frame _, fun h => by cases h⟩
theorem over : Rows.diffHeadsRow.holds Try.pinned (OpenSpec.ofChange Rows.diffHeadsSpec) :=
  OpenClaim.holds_of_wide 6 Try.f6 rfl rfl rfl rfl rfl rfl rfl ⟨rfl, rfl, rfl, rfl, rfl⟩ rfl rfl rfl rfl rfl (by kernel_rfl) Try.func6 (by kernel_rfl)
    (of_decide_eq_true (by kernel_rfl)) (by unfold Func.isWrapper; first | (rw [if_pos (by decide +kernel)]; kernel_rfl) | (rw [if_neg (by decide +kernel)]; exact ⟨rfl, rfl⟩))
    (fun os started H enc _ => lifted os started H enc)
theorem proved : Rows.DiffHeadsSaid := over
#print axioms proved
end Go.Proofs.Ytacglolggaobdab.diffHeads
namespace Go.Proofs.Ytacglolggaobdab
/-- The row, under a short name, for the claim. -/
theorem diffHeads_holds : Rows.DiffHeadsSaid := diffHeads.proved
end Go.Proofs.Ytacglolggaobdab
