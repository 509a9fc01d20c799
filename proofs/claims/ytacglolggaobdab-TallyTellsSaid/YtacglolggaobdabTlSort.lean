/- tally: slices.SortStableFunc over rows, the most ahead. -/
import Derived.Test.YtacglolggaobdabPAllx0
import Derived.Test.YtacglolggaobdabStR3
import Derived.Test.YtacglolggaobdabStRow
import Derived.Test.YtacglolggaobdabTlAdd
namespace Go.Proofs.Ytacglolggaobdab.TL
open Go.RowKit Go.Sort Go.Shelf Go.Lib Go.Proofs.YtacglolggaobdabW.PrintWords Go.Proofs.YtacglolggaobdabW.PrintLast Go.Proofs.YtacglolggaobdabW.PrintMore Go.Proofs.Ytacglolggaobdab.PAll Go.Proofs.Ytacglolggaobdab.St
set_option linter.unusedVariables false

instance : Inhabited S49 := ⟨⟨ByteArray.empty, 0⟩⟩
def encR (x : S49) : List Value := [.string x.f0, .int .i64 x.f1]
def cmpI (x y : Int) : Int := if x < y then -1 else if y < x then 1 else 0
def cfR (x y : S49) : Int := cmpI y.f1 x.f1
theorem ltR (x y : S49) : ltOf cfR x y = decide (y.f1 < x.f1) := by
  unfold ltOf cfR cmpI
  by_cases h : y.f1 < x.f1
  · simp [h]
  · by_cases h2 : x.f1 < y.f1 <;> simp [h, h2]
theorem swoR : SWO (ltOf cfR) where
  irrefl x := by rw [ltR]; simp
  trans x y z h1 h2 := by rw [ltR] at *; simp only [decide_eq_true_eq] at *; omega
  ntrans x y z h1 h2 := by rw [ltR] at *; simp only [decide_eq_false_iff_not] at *; omega

theorem nan110 (x : Int) (W : World) : Calls Try.prog 110 #[.int .i64 x] W fun e w' => e = .returned (.bool false) ∧ w' = W := by
  go_enter Try.func110, Try.ntmps110
  go_wp2
  go_ret
  exact ⟨by simp, rfl⟩
set_option maxHeartbeats 1000000 in
theorem compare88 (x y : Int) (W : World) : Calls Try.prog 88 #[.int .i64 x, .int .i64 y] W fun e w' => e = .returned (.int .i64 (cmpI x y)) ∧ w' = W := by
  by_cases h1 : x < y
  · rw [show cmpI x y = -1 from if_pos h1]
    go_enter Try.func88, Try.ntmps88
    go_wp2_with (go_at_call 110; refine (nan110 _ _).mono ?_; rintro e w' ⟨rfl, rfl⟩)
    go_ret
    exact ⟨rfl, rfl⟩
  by_cases h2 : y < x
  · rw [show cmpI x y = 1 by unfold cmpI; rw [if_neg h1, if_pos h2]]
    go_enter Try.func88, Try.ntmps88
    go_wp2_with (go_at_call 110; refine (nan110 _ _).mono ?_; rintro e w' ⟨rfl, rfl⟩)
    go_ret
    exact ⟨rfl, rfl⟩
  · rw [show cmpI x y = 0 by unfold cmpI; rw [if_neg h1, if_neg h2]]
    go_enter Try.func88, Try.ntmps88
    go_wp2_with (go_at_call 110; refine (nan110 _ _).mono ?_; rintro e w' ⟨rfl, rfl⟩)
    go_ret
    exact ⟨rfl, rfl⟩
set_option maxHeartbeats 1000000 in
theorem closure87 (x y : S49) (W : World) : Calls Try.prog 87 #[.agg #[.string x.f0, .int .i64 x.f1], .agg #[.string y.f0, .int .i64 y.f1]] W fun e w' => e = .returned (.int .i64 (cfR x y)) ∧ ∃ q os', w' = grow (W.drewN q) os' := by
  have hcon := fun W' => compare88 y.f1 x.f1 W'
  unfold cfR
  generalize cmpI y.f1 x.f1 = r at hcon ⊢
  go_enter Try.func87, Try.ntmps87
  go_wp2_with (go_at_call 88; refine (hcon _).mono ?_; rintro e w' ⟨rfl, rfl⟩)
  go_ret
  exact ⟨rfl, 0, _, by rw [alloc_eq_grow, alloc_eq_grow, grow_grow]; rfl⟩
theorem cmpLays87 (blk off size : Nat) (w : World) : CmpLays Try.prog 87 #[] encR 2 cfR blk off size w := fun _ _ _ _ x y => closure87 x y _

/-- block g holds the rows xs, then tl -/
def RRow (w : World) (g : Nat) (xs : List S49) (tl : List Value) : Prop := w.heap[g]? = some (.cells (xs.flatMap encR ++ tl).toArray 49 (0, 0))
theorem sortR (g cap : Nat) (xs : List S49) (tl : List Value) (w : World) (hF : RRow w g xs tl) (hn : xs.length ≤ 1000000000) :
    Calls Try.prog 86 #[.slice (some ⟨g, 0, none⟩) xs.length cap, .func (.func 87) #[] #[]] w fun e w' => e = .returned (.tuple #[]) ∧ RRow w' g (isort (ltOf cfR) xs) tl ∧ (∀ b, b < w.heap.size → b ≠ g → w'.heap[b]? = w.heap[b]?) ∧ ∀ B, B ≤ g → Below B w w' := by
  have eg : ∀ args w, (callFunc 87 args).run Try.prog w = .ok (.enter 87 args) w := enters_of Try.func87 (by kernel_rfl) rfl
  have hk : ∀ x : S49, (encR x).length = 2 := fun _ => rfl
  have hb : w.heap[g]? = some (.cells (xs.toArray.toList.flatMap encR ++ tl).toArray 49 (0, 0)) := by rw [List.toList_toArray]; exact hF
  have hg := lt0 hb
  have R : RowK encR 2 w g 0 xs.toArray := ⟨hk, fun x v hv => by simp [encR] at hv; rcases hv with rfl | rfl <;> rfl, row_holds hk (by decide) hb, hg⟩
  have h := StR.sortStable 2 StR.laid encR cfR swoR 87 #[] g 0 cap xs.toArray w eg (cmpLays87 g 0 _ w) R (by simpa using hn)
  rw [List.size_toArray] at h
  refine h.mono ?_
  rintro e w' ⟨rfl, d', hd', S⟩
  have hs : d'.size = xs.toArray.size := by
    have := congrArg List.length hd'
    rw [isort_length] at this
    simpa using this
  refine ⟨rfl, ?_, fun b h1 h2 => row_others S hg b h1 h2, fun B hB => row_below S hg hB⟩
  have := row_after hk (by decide) hb S hs
  rw [hd', List.toList_toArray] at this
  exact this
end Go.Proofs.Ytacglolggaobdab.TL
