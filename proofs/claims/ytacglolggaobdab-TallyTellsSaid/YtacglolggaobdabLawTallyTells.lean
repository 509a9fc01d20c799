/- The statement TallyTells, for every input: the law returns true and leaves its arguments as they were. (wip/row.py wrote this frame for this session.) -/
import Derived.Test.YtacglolggaobdabRows
import Derived.Test.YtacglolggaobdabPAllx5
import Derived.Test.YtacglolggaobdabPureTallyTells
import Derived.Test.YtacglolggaobdabRd
import Derived.WalkKit
import Derived.ProofKit
import Derived.OpenShut
import Derived.ShutString
import Derived.ChangeOld
import Derived.Below
import Derived.SizedLaws
namespace Go.Proofs.Ytacglolggaobdab.tallyTells
open Go.ChangeShapes Go.WideShapes Go.ChangeAt Go.RowKit Go.Proofs.Ytacglolggaobdab.Rd Go.Proofs.Ytacglolggaobdab.PAll Go.Proofs.YtacglolggaobdabW.PrintWords
open Go.ChangeMaps (open_string shut_string)
set_option linter.unusedVariables false
theorem own : ownKnob Try.prog.godebug = none := by kernel_rfl
theorem laidOut : laidOutB Try.prog = true := by kernel_rfl
def G9 (s : ByteArray) : Prop := s.size ≤ maxLen
theorem op9 : Opens Try.prog 9 Kd.string G9 := opens_string Try.underlying9
def G83 (x : S83) : Prop := G9 x.f0 ∧ G9 x.f1
theorem op83 : Opens Try.prog 83 k83 G83 := opens_struct (fun x : S83 => (x.f0, x.f1)) (fun p => ⟨p.1, p.2⟩) (fun _ => rfl) Try.underlying83 (by kernel_rfl) (tys := [(9, 0), (9, 1)]) (by kernel_rfl) (seq_cons op9 (by kernel_rfl) (seq_one op9 (by kernel_rfl)))
def G39 (xs : List (S83)) : Prop := ∀ x ∈ xs, G83 x
theorem op39 : Opens Try.prog 39 (Kd.slice 83 k83) G39 := opens_slice Try.underlying39 op83 (by kernel_rfl)
def G3 (n : Int) : Prop := (Lit.int .i64 n).wf = true
theorem op3 : Opens Try.prog 3 (Kd.int .i64) G3 := opens_int Try.underlying3
def G41 (x : S41) : Prop := G9 x.f0 ∧ G9 x.f1 ∧ G3 x.f2 ∧ G3 x.f3 ∧ G9 x.f4 ∧ G39 x.f5
theorem op41 : Opens Try.prog 41 k41 G41 := opens_struct (fun x : S41 => (x.f0, x.f1, x.f2, x.f3, x.f4, x.f5)) (fun p => ⟨p.1, p.2.1, p.2.2.1, p.2.2.2.1, p.2.2.2.2.1, p.2.2.2.2.2⟩) (fun _ => rfl) Try.underlying41 (by kernel_rfl) (tys := [(9, 0), (9, 1), (3, 2), (3, 3), (9, 4), (39, 5)]) (by kernel_rfl) (seq_cons op9 (by kernel_rfl) (seq_cons op9 (by kernel_rfl) (seq_cons op3 (by kernel_rfl) (seq_cons op3 (by kernel_rfl) (seq_cons op9 (by kernel_rfl) (seq_one op39 (by kernel_rfl)))))))
def G53 (x : S53) : Prop := G3 x.f0 ∧ G3 x.f1
theorem op53 : Opens Try.prog 53 k53 G53 := opens_struct (fun x : S53 => (x.f0, x.f1)) (fun p => ⟨p.1, p.2⟩) (fun _ => rfl) Try.underlying53 (by kernel_rfl) (tys := [(3, 0), (3, 1)]) (by kernel_rfl) (seq_cons op3 (by kernel_rfl) (seq_one op3 (by kernel_rfl)))
def G54 (xs : List (Int)) : Prop := ∀ x ∈ xs, G3 x
theorem op54 : Opens Try.prog 54 (Kd.slice 3 (Kd.int .i64)) G54 := opens_slice Try.underlying54 op3 (by kernel_rfl)
def G56 (x : S56) : Prop := G41 x.f0 ∧ G53 x.f1 ∧ G9 x.f2 ∧ G54 x.f3 ∧ G39 x.f4
theorem op56 : Opens Try.prog 56 k56 G56 := opens_struct (fun x : S56 => (x.f0, x.f1, x.f2, x.f3, x.f4)) (fun p => ⟨p.1, p.2.1, p.2.2.1, p.2.2.2.1, p.2.2.2.2⟩) (fun _ => rfl) Try.underlying56 (by kernel_rfl) (tys := [(41, 0), (53, 6), (9, 8), (54, 9), (39, 10)]) (by kernel_rfl) (seq_cons op41 (by kernel_rfl) (seq_cons op53 (by kernel_rfl) (seq_cons op9 (by kernel_rfl) (seq_cons op54 (by kernel_rfl) (seq_one op39 (by kernel_rfl))))))
def G51 (xs : List (S56)) : Prop := ∀ x ∈ xs, G56 x
theorem op51 : Opens Try.prog 51 (Kd.slice 56 k56) G51 := opens_slice Try.underlying51 op56 (by kernel_rfl)
set_option maxRecDepth 100000 in
theorem lifted (os : Os) (started : os.Started) (H : Type) (enc : TypeId × Value → H) :
    ReturnsInHanded {} Try.checked os 8 .any (Rows.tallyTellsSpec.pre6 enc Try.prog Try.f8 Rows.tallyTellsRow.domain false) (Rows.tallyTellsSpec.post enc Try.prog Try.f8 false true false false) := by
  refine returnsInHanded_of_change (C := Try.checked) own started (by kernel_rfl) Try.func8
    (ChangeSpec.witness6 (enc := enc) (C := Try.checked) false ⟨#[], #[.slice none 0 0, .slice none 0 0], []⟩ 8 (by kernel_rfl) (by kernel_rfl) (by kernel_rfl) (by kernel_rfl)) ?_
  intro W base args ds gs before hval0 hW hcnd _
  have hval : ∀ (j : Nat) t v, Try.f8.params[j]? = some t → args[j]? = some v → Value.okWide Try.prog W .any base t v := hval0
  have hW' := hW
  obtain ⟨p, q, hA0, hV, rfl, hfz, hnd⟩ := hW
  have hA : DataW.TrodAll enc Try.prog W 0 (fun _ => true) true Try.f8.params.toList args.toList ds p := hA0
  rw [Try.params8] at hA hval
  obtain ⟨v0, vs0, d0, ds0, p0, q0, hargs, rfl, rfl, h0, r0⟩ := trodAll_cons hA
  obtain ⟨v1, vs1, d1, ds1, p1, q1, rfl, rfl, rfl, h1, r1⟩ := trodAll_cons r0
  obtain ⟨rfl, rfl, rfl⟩ := trodAll_nil r1
  obtain rfl : args = #[v0, v1] := by cases args; simp_all
  obtain ⟨rfl, rfl⟩ := trodVars_none hV
  have k0 := h0
  have lt0 : ∀ x ∈ p0, x.block < W.heap.size := by obtain ⟨m, hm⟩ := k0; exact DataW.trod_lt m _ _ _ hm
  obtain ⟨a0, len0, cap0, rfl⟩ := okWide_slice Try.underlying39 (hval 0 39 v0 rfl rfl)
  obtain ⟨z0, rfl, hc0, hr0, g0⟩ := arg_slice op39 h0
  have k1 := h1
  have lt1 : ∀ x ∈ p1, x.block < W.heap.size := by obtain ⟨m, hm⟩ := k1; exact DataW.trod_lt m _ _ _ hm
  obtain ⟨a1, len1, cap1, rfl⟩ := okWide_slice Try.underlying51 (hval 1 51 v1 rfl rfl)
  obtain ⟨z1, rfl, hc1, hr1, g1⟩ := arg_slice op51 h1
  clear hA0 hval0
  obtain ⟨k, hk⟩ := Pure.TallyTells z0 z1
  refine (abutmentlaw49_TallyTells.calls k a0 cap0 z0 a1 cap1 z1 true W hr0 hc0 hr1 hc1 hk).mono fun e W' ⟨he, bel0⟩ => ?_
  have bel : Below W.heap.size W W' := bel0
  subst he
  exact ⟨_, rfl, _, _, _, [], _, [], hW', trodAll_mk1 (shut_bool Try.underlying4 _), (trodAll_cons_mk (Below.trod laidOut (by kernel_rfl) (of_decide_eq_true (by kernel_rfl)) k0 bel lt0) (trodAll_cons_mk (Below.trod laidOut (by kernel_rfl) (of_decide_eq_true (by kernel_rfl)) k1 bel lt1) trodAll_mk0)), rfl, bel.frame _, fun h => by cases h⟩
theorem over : Rows.tallyTellsRow.holds Try.pinned (OpenSpec.ofChange Rows.tallyTellsSpec) :=
  OpenClaim.holds_of_wide 8 Try.f8 rfl rfl rfl rfl rfl rfl rfl ⟨rfl, rfl, rfl, rfl, rfl⟩ rfl rfl rfl rfl rfl (by kernel_rfl) Try.func8 (by kernel_rfl)
    (of_decide_eq_true (by kernel_rfl)) (by unfold Func.isWrapper; first | (rw [if_pos (by decide +kernel)]; kernel_rfl) | (rw [if_neg (by decide +kernel)]; exact ⟨rfl, rfl⟩))
    (fun os started H enc _ => lifted os started H enc)
theorem proved : Rows.TallyTellsSaid := over
#print axioms proved
end Go.Proofs.Ytacglolggaobdab.tallyTells
namespace Go.Proofs.Ytacglolggaobdab
/-- The row, under a short name, for the claim. -/
theorem tallyTells_holds : Rows.TallyTellsSaid := tallyTells.proved
end Go.Proofs.Ytacglolggaobdab
