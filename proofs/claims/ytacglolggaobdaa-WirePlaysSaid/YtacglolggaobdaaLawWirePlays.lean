/- The statement WirePlays, for every input: the law returns true and leaves its arguments as they were. (wip/row.py wrote this frame for this session.) -/
import Derived.Test.YtacglolggaobdaaRows
import Derived.Test.YtacglolggaobdaaWPlays
import Derived.Test.YtacglolggaobdaaRd
import Derived.WalkKit
import Derived.ProofKit
import Derived.OpenShut
import Derived.ShutString
import Derived.ChangeOld
import Derived.Below
import Derived.SizedLaws
namespace Go.Proofs.Ytacglolggaobdaa.wirePlays
open Go.ChangeShapes Go.WideShapes Go.ChangeAt Go.RowKit Go.Proofs.Ytacglolggaobdaa.Rd Go.Proofs.Ytacglolggaobdaa.Qu Go.Proofs.YtacglolggaobdaaW.PrintWords Go.Proofs.Ytacglolggaobdaa.PQueue
open Go.ChangeMaps (open_string shut_string)
set_option linter.unusedVariables false
theorem own : ownKnob Try.prog.godebug = none := by kernel_rfl
theorem laidOut : laidOutB Try.prog = true := by kernel_rfl
def G3 (n : Int) : Prop := (Lit.int .i64 n).wf = true
theorem op3 : Opens Try.prog 3 (Kd.int .i64) G3 := opens_int Try.underlying3
def G9 (s : ByteArray) : Prop := s.size ≤ maxLen
theorem op9 : Opens Try.prog 9 Kd.string G9 := opens_string Try.underlying9
def G63 (x : S63) : Prop := G3 x.f0 ∧ G3 x.f1 ∧ G9 x.f2
theorem op63 : Opens Try.prog 63 k63 G63 := opens_struct (fun x : S63 => (x.f0, x.f1, x.f2)) (fun p => ⟨p.1, p.2.1, p.2.2⟩) (fun _ => rfl) Try.underlying63 (by kernel_rfl) (tys := [(3, 0), (3, 1), (9, 2)]) (by kernel_rfl) (seq_cons op3 (by kernel_rfl) (seq_cons op3 (by kernel_rfl) (seq_one op9 (by kernel_rfl))))
def G54 (xs : List (S63)) : Prop := ∀ x ∈ xs, G63 x
theorem op54 : Opens Try.prog 54 (Kd.slice 63 k63) G54 := opens_slice Try.underlying54 op63 (by kernel_rfl)
set_option maxRecDepth 100000 in
theorem lifted (os : Os) (started : os.Started) (H : Type) (enc : TypeId × Value → H) :
    ReturnsInHanded {} Try.checked os 7 .any (Rows.wirePlaysSpec.pre6 enc Try.prog Try.f7 Rows.wirePlaysRow.domain false) (Rows.wirePlaysSpec.post enc Try.prog Try.f7 false true false false) := by
  refine returnsInHanded_of_change (C := Try.checked) own started (by kernel_rfl) Try.func7
    (ChangeSpec.witness6 (enc := enc) (C := Try.checked) false ⟨#[], #[.int .i64 0, .slice none 0 0], []⟩ 8 (by kernel_rfl) (by kernel_rfl) (by kernel_rfl) (by kernel_rfl)) ?_
  intro W base args ds gs before hval0 hW hcnd _
  have hval : ∀ (j : Nat) t v, Try.f7.params[j]? = some t → args[j]? = some v → Value.okWide Try.prog W .any base t v := hval0
  have hW' := hW
  obtain ⟨p, q, hA0, hV, rfl, hfz, hnd⟩ := hW
  have hA : DataW.TrodAll enc Try.prog W 0 (fun _ => true) true Try.f7.params.toList args.toList ds p := hA0
  rw [Try.params7] at hA hval
  obtain ⟨v0, vs0, d0, ds0, p0, q0, hargs, rfl, rfl, h0, r0⟩ := trodAll_cons hA
  obtain ⟨v1, vs1, d1, ds1, p1, q1, rfl, rfl, rfl, h1, r1⟩ := trodAll_cons r0
  obtain ⟨rfl, rfl, rfl⟩ := trodAll_nil r1
  obtain rfl : args = #[v0, v1] := by cases args; simp_all
  obtain ⟨rfl, rfl⟩ := trodVars_none hV
  obtain ⟨a0, rfl, rfl, rfl, w0⟩ := open_int Try.underlying3 (hval 0 3 v0 rfl rfl) h0
  have k1 := h1
  have lt1 : ∀ x ∈ p1, x.block < W.heap.size := by obtain ⟨m, hm⟩ := k1; exact DataW.trod_lt m _ _ _ hm
  obtain ⟨a1, len1, cap1, rfl⟩ := okWide_slice Try.underlying54 (hval 1 54 v1 rfl rfl)
  obtain ⟨z1, rfl, hc1, hr1, g1⟩ := arg_slice op54 h1
  clear hA0 hval0
  have hk := Pure.WirePlays a0 z1 g1
  refine (abutmentlaw42_WirePlays.calls a0 a1 cap1 z1 true W hr1 hc1 hk).mono fun e W' ⟨he, bel0⟩ => ?_
  have bel : Below W.heap.size W W' := bel0
  subst he
  exact ⟨_, rfl, _, _, _, [], _, [], hW', trodAll_mk1 (shut_bool Try.underlying4 _), (trodAll_cons_mk (shut_int Try.underlying3 w0) (trodAll_cons_mk (Below.trod laidOut (by kernel_rfl) (of_decide_eq_true (by kernel_rfl)) k1 bel lt1) trodAll_mk0)), rfl, bel.frame _, fun h => by cases h⟩
theorem over : Rows.wirePlaysRow.holds Try.pinned (OpenSpec.ofChange Rows.wirePlaysSpec) :=
  OpenClaim.holds_of_wide 7 Try.f7 rfl rfl rfl rfl rfl rfl rfl ⟨rfl, rfl, rfl, rfl, rfl⟩ rfl rfl rfl rfl rfl (by kernel_rfl) Try.func7 (by kernel_rfl)
    (of_decide_eq_true (by kernel_rfl)) (by unfold Func.isWrapper; first | (rw [if_pos (by decide +kernel)]; kernel_rfl) | (rw [if_neg (by decide +kernel)]; exact ⟨rfl, rfl⟩))
    (fun os started H enc _ => lifted os started H enc)
theorem proved : Rows.WirePlaysSaid := over
#print axioms proved
end Go.Proofs.Ytacglolggaobdaa.wirePlays
namespace Go.Proofs.Ytacglolggaobdaa
/-- The row, under a short name, for the claim. -/
theorem wirePlays_holds : Rows.WirePlaysSaid := wirePlays.proved
end Go.Proofs.Ytacglolggaobdaa
