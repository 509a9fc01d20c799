/- canon.sorted: the canonical fields in the one stable order by their names. -/
import Derived.Test.YtacglolggaobdabGcanonFields
import Derived.Test.YtacglolggaobdabStF3
import Derived.Test.YtacglolggaobdabStRow
import Derived.Test.YtacglolggaobdabShelf
section
namespace Go.Proofs.Ytacglolggaobdab.St
open Go.Sort Go.RowKit Go.Shelf Go.Lib
set_option linter.unusedVariables false

theorem cb_cons (a b : UInt8) (p q : List UInt8) : Lib.compareBytes (a :: p) (b :: q) = if a < b then -1 else if b < a then 1 else Lib.compareBytes p q := rfl
theorem u8_lt (a b : UInt8) : a < b ↔ a.toNat < b.toNat := UInt8.lt_iff_toNat_lt
theorem cb_trans : ∀ (a b c : List UInt8), Lib.compareBytes a b < 0 → Lib.compareBytes b c < 0 → Lib.compareBytes a c < 0
  | [], [], c, h, _ => by simp [Lib.compareBytes] at h
  | [], _ :: _, [], _, h => by simp [Lib.compareBytes] at h
  | [], _ :: _, _ :: _, _, _ => by simp [Lib.compareBytes]
  | _ :: _, [], _, h, _ => by simp [Lib.compareBytes] at h
  | _ :: _, _ :: _, [], _, h => by simp [Lib.compareBytes] at h
  | x :: a, y :: b, z :: c, h1, h2 => by
    rw [cb_cons] at h1 h2 ⊢
    simp only [u8_lt] at h1 h2 ⊢
    by_cases p1 : x.toNat < y.toNat
    · by_cases p2 : y.toNat < z.toNat
      · rw [if_pos (by omega)]; decide
      · rw [if_neg p2] at h2
        by_cases p3 : z.toNat < y.toNat
        · rw [if_pos p3] at h2; omega
        · rw [if_pos (by omega)]; decide
    · rw [if_neg p1] at h1
      by_cases p3 : y.toNat < x.toNat
      · rw [if_pos p3] at h1; omega
      · rw [if_neg p3] at h1
        by_cases p2 : y.toNat < z.toNat
        · rw [if_pos (by omega)]; decide
        · rw [if_neg p2] at h2
          by_cases p4 : z.toNat < y.toNat
          · rw [if_pos p4] at h2; omega
          · rw [if_neg p4] at h2
            rw [if_neg (by omega), if_neg (by omega)]
            exact cb_trans a b c h1 h2
theorem cb_ntrans : ∀ (a b c : List UInt8), ¬ Lib.compareBytes a b < 0 → ¬ Lib.compareBytes b c < 0 → ¬ Lib.compareBytes a c < 0
  | [], [], [], _, _ => by simp [Lib.compareBytes]
  | [], [], _ :: _, _, h => by simp [Lib.compareBytes] at h
  | [], _ :: _, _, h, _ => by simp [Lib.compareBytes] at h
  | _ :: _, _, [], _, _ => by simp [Lib.compareBytes]
  | _ :: _, [], _ :: _, _, h => by simp [Lib.compareBytes] at h
  | x :: a, y :: b, z :: c, h1, h2 => by
    rw [cb_cons] at h1 h2 ⊢
    simp only [u8_lt] at h1 h2 ⊢
    by_cases p1 : x.toNat < y.toNat
    · rw [if_pos p1] at h1; omega
    · rw [if_neg p1] at h1
      by_cases q1 : y.toNat < z.toNat
      · rw [if_pos q1] at h2; omega
      · rw [if_neg q1] at h2
        rw [if_neg (by omega)]
        by_cases r1 : z.toNat < x.toNat
        · rw [if_pos r1]; decide
        · rw [if_neg r1]
          rw [if_neg (by omega)] at h1 h2
          exact cb_ntrans a b c h1 h2
theorem cb_self : ∀ (a : List UInt8), Lib.compareBytes a a = 0
  | [] => rfl
  | x :: a => by rw [cb_cons, if_neg (by rw [u8_lt]; omega), if_neg (by rw [u8_lt]; omega)]; exact cb_self a
/-- neither less: the same octets -/
theorem cb_eq : ∀ (a b : List UInt8), ¬ Lib.compareBytes a b < 0 → ¬ Lib.compareBytes b a < 0 → a = b
  | [], [], _, _ => rfl
  | [], _ :: _, h, _ => by simp [Lib.compareBytes] at h
  | _ :: _, [], _, h => by simp [Lib.compareBytes] at h
  | x :: a, y :: b, h1, h2 => by
    rw [cb_cons] at h1 h2
    simp only [u8_lt] at h1 h2
    by_cases p1 : x.toNat < y.toNat
    · rw [if_pos p1] at h1; omega
    · by_cases p2 : y.toNat < x.toNat
      · rw [if_pos p2] at h2; omega
      · rw [if_neg p1, if_neg p2] at h1
        rw [if_neg p2, if_neg p1] at h2
        rw [cb_eq a b h1 h2, show x = y from UInt8.toNat_inj.1 (by omega)]
theorem cb_swo : SWO (ltOf fun (x y : List UInt8) => Lib.compareBytes x y) where
  irrefl x := by unfold ltOf; simp only [cb_self]; rfl
  trans x y z h1 h2 := by unfold ltOf at *; exact decide_eq_true (cb_trans x y z (of_decide_eq_true h1) (of_decide_eq_true h2))
  ntrans x y z h1 h2 := by unfold ltOf at *; exact decide_eq_false (cb_ntrans x y z (of_decide_eq_false h1) (of_decide_eq_false h2))
end Go.Proofs.Ytacglolggaobdab.St

namespace Go.Proofs.Ytacglolggaobdab.PAll
open Go.RowKit Go.Sort Go.Shelf Go.Lib Go.Proofs.YtacglolggaobdabW.PrintWords Go.Proofs.YtacglolggaobdabW.PrintLast Go.Proofs.YtacglolggaobdabW.PrintMore Go.Proofs.Ytacglolggaobdab.Hn Go.Proofs.Ytacglolggaobdab.FR Go.Proofs.Ytacglolggaobdab.CF Go.Proofs.Ytacglolggaobdab.St
set_option linter.unusedVariables false

instance : Inhabited S83 := ⟨⟨ByteArray.empty, ByteArray.empty⟩⟩
def encF (x : S83) : List Value := [.string x.f0, .string x.f1]
def cfF (x y : S83) : Int := Lib.compareBytes x.f0.data.toList y.f0.data.toList
theorem swoF : SWO (ltOf cfF) where
  irrefl x := cb_swo.irrefl x.f0.data.toList
  trans x y z := cb_swo.trans x.f0.data.toList y.f0.data.toList z.f0.data.toList
  ntrans x y z := cb_swo.ntrans x.f0.data.toList y.f0.data.toList z.f0.data.toList

set_option maxHeartbeats 1000000 in
theorem closure99 (x y : S83) (W : World) : Calls Try.prog 99 #[.agg #[.string x.f0, .string x.f1], .agg #[.string y.f0, .string y.f1]] W fun e w' => e = .returned (.int .i64 (cfF x y)) ∧ ∃ q os', w' = grow (W.drewN q) os' := by
  have hcon := fun W' => Try.strings_Compare x.f0 y.f0 W'
  unfold cfF
  generalize Lib.compareBytes x.f0.data.toList y.f0.data.toList = r at hcon ⊢
  go_enter Try.func99, Try.ntmps99
  go_wp2_with (go_at_call 100; refine (hcon _).mono ?_; rintro e w' ⟨rfl, rfl⟩)
  go_ret
  exact ⟨rfl, 0, _, by rw [alloc_eq_grow, alloc_eq_grow, grow_grow]; rfl⟩
theorem cmpLays99 (blk off size : Nat) (w : World) : CmpLays Try.prog 99 #[] encF 2 cfF blk off size w := fun _ _ _ _ x y => closure99 x y _

theorem fc_flat : ∀ (l : List S83), fc l = l.flatMap encF
  | [] => rfl
  | x :: xs => by rw [List.flatMap_cons, ← fc_flat xs]; rfl
/-- SortStableFunc over fields of the call's own. -/
theorem sortF (g cap : Nat) (xs : List S83) (tl : List Value) (w : World) (hF : FRow w g xs tl) (hn : xs.length ≤ 1000000000) :
    Calls Try.prog 98 #[.slice (some ⟨g, 0, none⟩) xs.length cap, .func (.func 99) #[] #[]] w fun e w' => e = .returned (.tuple #[]) ∧ FRow w' g (isort (ltOf cfF) xs) tl ∧ ∀ B, B ≤ g → Below B w w' := by
  have eg : ∀ args w, (callFunc 99 args).run Try.prog w = .ok (.enter 99 args) w := enters_of Try.func99 (by kernel_rfl) rfl
  have hk : ∀ x : S83, (encF x).length = 2 := fun _ => rfl
  have hb : w.heap[g]? = some (.cells (xs.toArray.toList.flatMap encF ++ tl).toArray 83 (0, 0)) := by rw [List.toList_toArray, ← fc_flat]; exact hF
  have R : RowK encF 2 w g 0 xs.toArray := ⟨hk, fun x v hv => by simp [encF] at hv; rcases hv with rfl | rfl <;> rfl, row_holds hk (by decide) hb, hF.size⟩
  have h := StF.sortStable 2 StF.laid encF cfF swoF 99 #[] g 0 cap xs.toArray w eg (cmpLays99 g 0 _ w) R (by simpa using hn)
  rw [List.size_toArray] at h
  refine h.mono ?_
  rintro e w' ⟨rfl, d', hd', S⟩
  have hs : d'.size = xs.toArray.size := by
    have := congrArg List.length hd'
    rw [isort_length] at this
    simpa using this
  refine ⟨rfl, ?_, fun B hB => row_below S hF.size hB⟩
  have := row_after hk (by decide) hb S hs
  rw [hd', List.toList_toArray, ← fc_flat] at this
  exact this

/-! ### canon_sorted: function 77 -/
def canon_sorted.f (l0 : List (S83)) : Option ((List (S83))) := if okF l0 then some (isort (ltOf cfF) (canonF l0)) else none
set_option maxHeartbeats 8000000 in
set_option maxRecDepth 100000 in
theorem canon_sorted.calls (A0 : Option Addr) (c0 : Nat) (l0 : List (S83)) (r : List (S83)) (w : World) (hr0 : Kd.C k83 w A0 l0.length l0) (hc0 : l0.length ≤ c0) (h : canon_sorted.f l0 = some r) :
    Calls Try.prog 77 #[.slice A0 l0.length c0] w fun e w' => ∃ v0_ : Value, e = .returned (v0_) ∧ Kd.R k83 83 w' w.heap.size (fun _ => True) v0_ r ∧ Below w.heap.size w w' := by
  unfold canon_sorted.f at h
  by_cases hb : okF l0
  · rw [if_pos hb] at h
    obtain rfl := Option.some.inj h
    have hlen : (canonF l0).length ≤ 1000000000 := by
      have h1 := cfTo_len l0 l0.length
      have h2 := hb.1
      have h3 : l0.length * (l0.length + 1) ≤ 1000 * 1001 := Nat.mul_le_mul h2 (by omega)
      show (cfTo l0 l0.length).length ≤ _
      omega
    have hcall := canon_Fields.calls A0 c0 l0 (canonF l0) w hr0 hc0 (by unfold canon_Fields.f; rw [if_pos hb])
    clear hr0
    go_enter Try.func77, Try.ntmps77
    go_wp2_with (go_at_call 45; refine hcall.mono ?_; rintro e w1 ⟨v, rfl, hR, hB⟩)
    rcases FRow.of hR with ⟨rfl, hnil⟩ | ⟨g, cap, tl, rfl, hbg, hF, hcap, hmax, htl⟩
    · have h2 := StF.sortStable_nil 99 #[] w1
      go_wp2_with (go_at_call 98; refine h2.mono ?_; rintro e w2 ⟨rfl, rfl⟩)
      go_ret
      refine ⟨_, rfl, ?_, hB⟩
      rw [hnil]
      exact Kd.R_nil _ _ _ _ _
    · have h2 := sortF g cap (canonF l0) tl w1 hF hlen
      go_wp2_with (go_at_call 98; refine h2.mono ?_; rintro e w2 ⟨rfl, hF2, hB2⟩)
      go_ret
      refine ⟨_, rfl, hF2.own w.heap.size _ cap hbg (isort_length _).symm (by rw [isort_length]; exact hcap) hmax (by rw [isort_length]; exact htl), hB.trans (hB2 _ hbg)⟩
  · rw [if_neg hb] at h
    cases h
end Go.Proofs.Ytacglolggaobdab.PAll
