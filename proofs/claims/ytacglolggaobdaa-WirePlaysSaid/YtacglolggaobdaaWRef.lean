/- The reference's wire in the midst of a desk: Send, Read, Grant. -/
import Derived.Test.YtacglolggaobdaaWRead
namespace Go.Proofs.Ytacglolggaobdaa.Qu
open Go.RowKit Go.Proofs.YtacglolggaobdaaW.PrintWords Go.Proofs.YtacglolggaobdaaW.PrintLast Go.Proofs.YtacglolggaobdaaW.PrintMore
attribute [local go_sem] max2_int min2_int max_two min_two max_three min_three max_four min_four
set_option linter.unusedVariables false
set_option linter.unusedSimpArgs false

/-- what the desk holds of the wire -/
def preOf (D : Dk) (L : Lk) (x : WX) : Pre := ⟨.pointer (some ⟨D.wb, 0, none⟩), .pointer (some ⟨L.k, 0, none⟩), .string (st (x.A.drop x.r)), .int .i64 (x.A.length : Int), .bool x.e, .string (st x.T)⟩
theorem RefD.p0 {w : World} {b : Nat} {a : Pre} {v : LV} (h : RefD w b a v) : w.cell? ⟨b, 0, none⟩ = some a.x0 := (blk_cell h 0).trans rfl
theorem RefD.p1 {w : World} {b : Nat} {a : Pre} {v : LV} (h : RefD w b a v) : w.cell? ⟨b, 1, none⟩ = some a.x1 := (blk_cell h 1).trans rfl
theorem RefD.p2 {w : World} {b : Nat} {a : Pre} {v : LV} (h : RefD w b a v) : w.cell? ⟨b, 2, none⟩ = some a.x2 := (blk_cell h 2).trans rfl
theorem RefD.p3 {w : World} {b : Nat} {a : Pre} {v : LV} (h : RefD w b a v) : w.cell? ⟨b, 3, none⟩ = some a.x3 := (blk_cell h 3).trans rfl
theorem RefD.p4 {w : World} {b : Nat} {a : Pre} {v : LV} (h : RefD w b a v) : w.cell? ⟨b, 4, none⟩ = some a.x4 := (blk_cell h 4).trans rfl
theorem RefD.p5 {w : World} {b : Nat} {a : Pre} {v : LV} (h : RefD w b a v) : w.cell? ⟨b, 5, none⟩ = some a.x5 := (blk_cell h 5).trans rfl
theorem RefD.set2 {w : World} {b : Nat} {a : Pre} {v : LV} (h : RefD w b a v) (u : Value) : RefD (w.setCell ⟨b, 2, none⟩ u) b { a with x2 := u } v := blk_set h 2 _
theorem RefD.set3 {w : World} {b : Nat} {a : Pre} {v : LV} (h : RefD w b a v) (u : Value) : RefD (w.setCell ⟨b, 3, none⟩ u) b { a with x3 := u } v := blk_set h 3 _
theorem RefD.set4 {w : World} {b : Nat} {a : Pre} {v : LV} (h : RefD w b a v) (u : Value) : RefD (w.setCell ⟨b, 4, none⟩ u) b { a with x4 := u } v := blk_set h 4 _
theorem RefD.set5 {w : World} {b : Nat} {a : Pre} {v : LV} (h : RefD w b a v) (u : Value) : RefD (w.setCell ⟨b, 5, none⟩ u) b { a with x5 := u } v := blk_set h 5 _
set_option maxHeartbeats 4000000 in
set_option maxRecDepth 100000 in
theorem dsend {w : World} {b : Nat} {D : Dk} {L : Lk} {x : WX} {v : LV} (h : RefD w b (preOf D L x) v) (hr : x.r ≤ x.A.length) (t : ByteArray) (ht : x.A.length + t.size ≤ 900000) : Calls Try.prog 81 #[.pointer (some ⟨b, 2, none⟩), .string t] w fun y w' => y = .returned (.int .i64 ((if x.e then 0 else t.size : Nat) : Int)) ∧ RefD w' b (preOf D L { x with A := if x.e then x.A else x.A ++ t.data.toList }) v ∧ Only w w' (fun k => k = b) := by
  obtain ⟨A, r, e, T⟩ := x
  have c4 := h.p4
  have c2 := h.p2
  have c3 := h.p3
  unfold preOf at c2 c3 c4
  simp only at c2 c3 c4 ht hr
  have H := Aside0.mk h
  cases e with
  | true =>
    clear h ht
    go_enter Try.func81, Try.ntmps81
    go_wp2
    go_ret
    exact ⟨rfl, H.out, Only.refl _ _⟩
  | false =>
    have f2 := blk_frozen h 2
    have f3 := blk_frozen h 3
    have hwr : IntKind.i64.wrap (1048576 - (A.length : Int)) = 1048576 - (A.length : Int) := IntWalk.i64_in _ (by omega)
    have hmin : (if 1048576 - (A.length : Int) < (t.size : Int) then 1048576 - (A.length : Int) else (t.size : Int)) = (t.size : Int) := by split <;> omega
    have hcut : ∀ W, (Instr.slice 9 (.string t) none (some (.int .i64 (t.size : Int))) none).run Try.prog W = .ok (.string t) W := fun W => by
      rw [run_slice_string_h W 9 t Try.underlying9 .i64 _ (by omega) (by omega), Int.toNat_natCast, st_take, List.take_of_length_le (by rw [data_length]; exact Nat.le_refl _), st_data]
    have hwr2 : IntKind.i64.wrap ((A.length : Int) + (t.size : Int)) = (A.length : Int) + (t.size : Int) := IntWalk.i64_in _ (by omega)
    obtain ⟨zA, hzA⟩ : ∃ z, z = st (A.drop r) := ⟨_, rfl⟩
    obtain ⟨zN, hzN⟩ : ∃ z, z = st ((A ++ t.data.toList).drop r) := ⟨_, rfl⟩
    have hcat : ∀ W, (Op.stringOp .add zA t).run Try.prog W = .ok (.string zN) W := fun W => by
      rw [run_string_add_sum W zA t (by rw [hzA, st_size, List.length_drop]; omega), hzA, show st (A.drop r) ++ t = st (A.drop r) ++ st t.data.toList by rw [st_data], st_append, hzN, List.drop_append_of_le_length hr]
    rw [← hzA] at c2
    have HN := Aside0.mk hzN
    clear h hzA hzN hr
    go_enter Try.func81, Try.ntmps81
    go_wp2_with fail
    go_still_tail 11, (by kernel_rfl)
    go_wp2
    go_ret
    refine ⟨rfl, ?_, (((only_set b 2 _).trans (only_set b 3 _))).drew⟩
    have hh := (H.out.set2 (.string zN)).set3 (.int .i64 ((A.length : Int) + (t.size : Int)))
    unfold preOf at hh ⊢
    simp only [Bool.false_eq_true, if_false]
    rw [← HN.out, List.length_append, data_length, Int.natCast_add]
    exact hh

set_option maxHeartbeats 4000000 in
set_option maxRecDepth 100000 in
theorem dread {w : World} {b : Nat} {D : Dk} {L : Lk} {x : WX} {v : LV} (h : RefD w b (preOf D L x) v) (hk : x.ok) (hI : v.I.length ≤ v.m) (hm : v.m ≤ 65536) (n : Int) : Calls Try.prog 83 #[.pointer (some ⟨b, 2, none⟩), .pointer (some ⟨b, 6, none⟩), .int .i64 n] w fun y w' => y = .returned (.int .i64 (gotN x v n : Int)) ∧ RefD w' b (preOf D L { x with r := x.r + gotN x v n }) (readV x v n) ∧ Only w w' (fun k => k = b) := by
  have c2 := h.p2
  have c4 := h.p4
  unfold preOf at c2 c4
  simp only at c2 c4
  obtain ⟨lf, hlf⟩ : ∃ l, l = x.A.length - x.r := ⟨_, rfl⟩
  obtain ⟨N, hN⟩ : ∃ N, N = n.toNat := ⟨_, rfl⟩
  obtain ⟨k, hkk⟩ : ∃ k, k = min N lf := ⟨_, rfl⟩
  have hrA := hk.rA
  have hlA := hk.lA
  have hmax : (if n < 0 then (0 : Int) else n) = (N : Int) := by split <;> omega
  have hmin : (if lf < N then (lf : Int) else (N : Int)) = (k : Int) := by split <;> omega
  have hLl : (x.A.drop x.r).length = lf := by rw [List.length_drop, hlf]
  have hcut := cut_st0 (x.A.drop x.r) k (by omega)
  obtain ⟨q, hq⟩ : ∃ q, q = (x.A.drop x.r).take k := ⟨_, rfl⟩
  have hq2 : (x.A.drop x.r).take n.toNat = q := by
    rw [hq, hkk, ← hN, hlf]
    rcases Nat.le_total N (x.A.length - x.r) with ha | ha
    · rw [Nat.min_eq_left ha]
    · rw [Nat.min_eq_right ha, List.take_of_length_le (by rw [List.length_drop]; omega), List.take_of_length_le (by rw [List.length_drop]; omega)]
  rw [← hq] at hcut
  have hql : q.length ≤ lf := by rw [hq, List.length_take]; omega
  obtain ⟨zL, hzL⟩ : ∃ z, z = st (x.A.drop x.r) := ⟨_, rfl⟩
  obtain ⟨zq, hzq⟩ : ∃ z, z = st q := ⟨_, rfl⟩
  obtain ⟨g, hg⟩ : ∃ g, g = v.give zq := ⟨_, rfl⟩
  have hgn : gotN x v n = g := by unfold gotN; rw [hq2, hg, hzq]
  have hgl : g ≤ lf := by have := give_le v zq; rw [hzq, st_size] at this; rw [hg, hzq]; omega
  have hsz : zL.size = lf := by rw [hzL, st_size, hLl]
  have hcut2 := cut_st (x.A.drop x.r) g (by omega)
  obtain ⟨zN, hzN⟩ : ∃ z, z = st (x.A.drop (x.r + g)) := ⟨_, rfl⟩
  rw [List.drop_drop, ← hzN, ← hzL] at hcut2
  rw [← hzL] at c2 hcut
  rw [← hzq] at hcut
  obtain ⟨ee, hee⟩ : ∃ e, e = x.e := ⟨_, rfl⟩
  rw [← hee] at c4
  obtain ⟨lf3, hlf3⟩ : ∃ l, l = x.A.length - (x.r + g) := ⟨_, rfl⟩
  have hrv : readV x v n = { v with I := v.I ++ zq.data.toList.take g, e := v.e || (ee && decide (lf3 = 0)) } := by
    unfold readV
    rw [hgn, hq2, hzq, data_st, hee, show decide (lf3 = 0) = decide (x.A.length ≤ x.r + g) from decide_eq_decide.2 (by omega)]
  have hemp : zN.toList.isEmpty = decide (lf3 = 0) := by
    by_cases hz : lf3 = 0
    · rw [decide_eq_true hz, hzN]
      exact st_empty _ (List.drop_eq_nil_of_le (by omega))
    · rw [decide_eq_false hz, hzN]
      exact st_full _ (fun e => by have := congrArg List.length e; rw [List.length_drop] at this; simp at this; omega)
  have HZ := Aside0.mk (And.intro hemp (And.intro hzN hzL))
  have HRV := Aside0.mk (And.intro hrv hgn)
  have HG := Aside0.mk (dgive (w := w.drew) (show RefD w.drew b _ v from h) zq (by rw [hzq, st_size]; omega) hI hm)
  rw [← hg] at HG
  have H := Aside0.mk h
  have HE := Aside0.mk hee
  clear h hk hI hm hlf hN hkk hrA hlA hLl hq hq2 hql hzL hzq hg hgn hgl hzN hee hlf3 hrv hemp
  go_enter Try.func83, Try.ntmps83
  go_wp2_with fail
  go_still_tail 14, (by kernel_rfl)
  go_wp2_with fail
  refine HG.out.mono ?_
  rintro e w1 ⟨rfl, h1, ho1⟩
  have d2 := h1.p2
  have d4 := h1.p4
  have f2 := blk_frozen h1 2
  have f9 := blk_frozen h1 9
  have d9 := h1.c3
  unfold preOf at d2 d4
  simp only at d2 d4 d9
  rw [← HZ.out.2.2] at d2
  rw [← HE.out] at d4
  have hs2 := h1.set2 (.string zN)
  have H1 := Aside0.mk (And.intro hs2 (((Only.refl w (fun k => k = b)).drew.trans ho1).trans (only_set b 2 (.string zN))))
  have hs3 := hs2.setE true
  have H3 := Aside0.mk (And.intro hs3 ((((Only.refl w (fun k => k = b)).drew.trans ho1).trans (only_set b 2 (.string zN))).trans (only_set b 9 (.bool true))))
  have hpre : ({ preOf D L x with x2 := .string zN } : Pre) = preOf D L { x with r := x.r + g } := by rw [HZ.out.2.1]; rfl
  have HP := Aside0.mk hpre
  clear h1 ho1 hs2 hs3 c2 c4 hpre
  cases ee with
  | false =>
    go_wp2
    go_ret
    refine ⟨?_, ?_, H1.out.2⟩
    · rw [HRV.out.2]; rfl
    · rw [HRV.out.2, HRV.out.1, Bool.false_and, Bool.or_false, ← HP.out]
      exact H1.out.1
  | true =>
    by_cases hz : lf3 = 0
    · have he : zN.toList.isEmpty = true := by rw [HZ.out.1, decide_eq_true hz]
      go_wp2
      go_ret
      refine ⟨?_, ?_, H3.out.2⟩
      · rw [HRV.out.2]; rfl
      · rw [HRV.out.2, HRV.out.1, decide_eq_true hz, Bool.and_true, Bool.or_true, ← HP.out]
        exact H3.out.1
    · have he : zN.toList.isEmpty = false := by rw [HZ.out.1, decide_eq_false hz]
      go_wp2
      go_ret
      refine ⟨?_, ?_, H1.out.2⟩
      · rw [HRV.out.2]; rfl
      · rw [HRV.out.2, HRV.out.1, decide_eq_false hz, Bool.and_false, Bool.or_false, ← HP.out]
        exact H1.out.1

set_option maxHeartbeats 4000000 in
set_option maxRecDepth 100000 in
theorem dgrant {w : World} {b : Nat} {D : Dk} {L : Lk} {x : WX} {v : LV} (h : RefD w b (preOf D L x) v) (hO : v.Out.length ≤ 900000) (hT : x.T.length + v.Out.length ≤ 1000000) (n : Int) : Calls Try.prog 85 #[.pointer (some ⟨b, 2, none⟩), .pointer (some ⟨b, 6, none⟩), .int .i64 n] w fun y w' => y = .returned (.int .i64 ((v.Out.take n.toNat).length : Int)) ∧ RefD w' b (preOf D L { x with T := x.T ++ v.Out.take n.toNat }) { v with Out := v.Out.drop n.toNat } ∧ Only w w' (fun k => k = b) := by
  have HT := Aside0.mk (dtake h n (by omega))
  obtain ⟨R, hR⟩ : ∃ R, R = v.Out.take n.toNat := ⟨_, rfl⟩
  have hRl : R.length ≤ v.Out.length := by rw [hR, List.length_take]; omega
  obtain ⟨zT, hzT⟩ : ∃ z, z = st x.T := ⟨_, rfl⟩
  obtain ⟨zR, hzR⟩ : ∃ z, z = st R := ⟨_, rfl⟩
  obtain ⟨zN, hzN⟩ : ∃ z, z = st (x.T ++ R) := ⟨_, rfl⟩
  have hcat : ∀ W, (Op.stringOp .add zT zR).run Try.prog W = .ok (.string zN) W := fun W => by
    rw [run_string_add_sum W zT zR (by rw [hzT, hzR, st_size, st_size]; omega), hzT, hzR, st_append, hzN]
  have hsR : zR.size = R.length := by rw [hzR, st_size]
  have HN := Aside0.mk (And.intro hR (And.intro hzT (And.intro hzR hzN)))
  rw [← hR, ← hzR] at HT
  clear h hO hT hR hRl hzT hzR hzN
  go_enter Try.func85, Try.ntmps85
  go_wp2_with fail
  refine HT.out.mono ?_
  rintro e w1 ⟨rfl, h1, ho1⟩
  have d5 := h1.p5
  have f5 := blk_frozen h1 5
  unfold preOf at d5
  simp only at d5
  rw [← HN.out.2.1] at d5
  have H1 := Aside0.mk (And.intro (h1.set5 (.string zN)) (ho1.trans (only_set b 5 (.string zN))))
  clear h1 ho1
  go_wp2
  go_ret
  rw [← HN.out.1]
  refine ⟨rfl, ?_, H1.out.2⟩
  have hp : ({ preOf D L x with x5 := .string zN } : Pre) = preOf D L { x with T := x.T ++ R } := by rw [HN.out.2.2.2]; rfl
  rw [← hp]
  exact H1.out.1
end Go.Proofs.Ytacglolggaobdaa.Qu
