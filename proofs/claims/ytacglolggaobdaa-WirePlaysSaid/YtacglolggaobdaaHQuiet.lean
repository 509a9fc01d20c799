/- A region that draws its order and whose first call writes, while all that follows it only reads: behind the call one walk in the text's order serves. No program is named here. -/
import Derived.Test.YtacglolggaobdaaWLast
import Derived.Deep.Quiet
import Derived.KernelRfl
namespace Go.Proofs.Ytacglolggaobdaa.HQ
open Go.Proofs.YtacglolggaobdaaW.PrintLast
set_option linter.unusedVariables false
variable {P : Program} {ops : Array Oper} {md : Region.Mode} {S : World → Prop} {ds : List Nat} {C : World → Prop}

theorem wpAnyLast_of_quiet {Qq : Act → Prop} {Q' : Exit → Act → World → Prop} (hQ : ∀ a w, C w → Qq a → Q' .normal a w) : ∀ (fuel : Nat) (listed : Array Bool) (a : Act) (w : World), (∀ i, listed.getD i true = false → i ∈ ds) → C w →
    wpAnyQ P md ops C Qq fuel listed a → wpAnyLast P md ops Q' S ds fuel listed a w
  | 0, _, _, _, _, hw, h => ⟨h.1, hQ _ _ hw h.2⟩
  | fuel + 1, listed, _, _, hd, hw, h => ⟨fun h0 => hQ _ _ hw (h.1 h0), fun i hi => by
      have hun := (mem_ready.1 hi).1
      refine wpOp_of_qOp hw (fun a' w' hw' hk => ⟨fun hnd => absurd (hd i hun) hnd, wpAnyLast_of_quiet hQ fuel _ a' w' (fun j hj => ?_) hw' hk⟩) (h.2 i hi)
      by_cases hij : i = j
      · subst hij; exact hd i hun
      · rw [getD_set_ne true hij] at hj; exact hd j hj⟩

def allB (listed : Array Bool) (ds : List Nat) : Bool := (List.range listed.size).all fun i => listed.getD i true || ds.contains i
theorem allB_spec {listed : Array Bool} (h : allB listed ds = true) : ∀ i, listed.getD i true = false → i ∈ ds := by
  intro i hi
  unfold allB at h
  rw [List.all_eq_true] at h
  rcases Nat.lt_or_ge i listed.size with h' | h'
  · have := h i (List.mem_range.2 h')
    rw [hi, Bool.false_or] at this
    simpa using this
  · simp [Array.getElem?_eq_none h'] at hi

/-- What is left of the region, from operation k on, only reads. -/
theorem tail_quiet {Q : Exit → Act → World → Prop} {l0 : List Oper} {fuel : Nat} {listed : Array Bool} {a : Act} {w : World} (k : Nat) (hf : (fuel == (l0.drop k).length) = true) (hs : Region.noSelect l0.toArray = true)
    (hB : Region.lexFrom md l0.toArray (l0.drop k).length k listed = true) (hds : allB listed ds = true)
    (h : wpQuiet P l0.toArray (fun w' => ∃ n, w' = w.drewN n) (fun a' => ∀ w', (∃ n, w' = w.drewN n) → Q .normal a' w') (l0.drop k) a) : wpAnyLast P md l0.toArray Q S ds fuel listed a w := by
  obtain rfl := beq_iff_eq.1 hf
  refine wpAnyLast_of_quiet (C := fun w' => ∃ n, w' = w.drewN n) (Qq := fun a' => ∀ w', (∃ n, w' = w.drewN n) → Q .normal a' w') (fun _ w' hw' h => h w' hw') _ _ _ _ (allB_spec hds) ⟨0, rfl⟩ ?_
  refine wpAnyQ_lex hs (l0.drop k) k listed a (fun j => ?_) hB h
  rw [List.getElem?_drop, List.getElem?_toArray]
end Go.Proofs.Ytacglolggaobdaa.HQ
