/- The pure statement of CanonStays: with rounds enough the printed law answers true at every list of fields, every place and every value. -/
import Derived.Test.YtacglolggaobdabMStays
import Derived.Test.YtacglolggaobdabPAllx3
namespace Go.Proofs.Ytacglolggaobdab.Pure
open Go.RowKit Go.Sort Go.Proofs.Ytacglolggaobdab.PAll Go.Proofs.Ytacglolggaobdab.Hn Go.Proofs.Ytacglolggaobdab.CF Go.Proofs.Ytacglolggaobdab.MC Go.Proofs.Ytacglolggaobdab.MS Go.Proofs.Ytacglolggaobdab.St Go.Proofs.YtacglolggaobdabW.PrintWords Go.Proofs.YtacglolggaobdabW.PrintLast Go.Proofs.YtacglolggaobdabW.PrintMore
set_option linter.unusedSimpArgs false
set_option linter.unusedVariables false

theorem ok_of {l : List S83} (hl : l.length ≤ 50) (h : ∀ x ∈ l, x.f0.size ≤ 100 ∧ x.f1.size ≤ 1000) : okF l := ⟨by omega, fun x hx => by have := h x hx; omega⟩
theorem CanonStays (l : List S83) (a1 : Int) (v : ByteArray) : ∃ k, abutmentlaw50_CanonStays.f k l a1 v = some true := by
  have hlast : Ev (fun n => (abutmentlaw50_lives.f n).bind fun t => some t) true := Ev.bind clives_comes (Ev.now true)
  have hout : Ev (fun n => abutmentlaw50_CanonStays.j0 n l a1 v true) true :=
    Ev.step (f := fun n => (abutmentlaw50_lives.f n).bind fun t => some t) (fun n => by simp only [abutmentlaw50_CanonStays.j0]; rw [if_pos trivial]) hlast
  have hall : Ev (fun n => abutmentlaw50_CanonStays.f n l a1 v) true := by
    unfold abutmentlaw50_CanonStays.f
    refine Ev.bind (few10_comes l) ?_
    by_cases h0 : fewF l
    · rw [decide_eq_true h0]
      refine Ev.congr (f := fun n => abutmentlaw50_CanonStays.j0 n l a1 v (decide ((v.size : Int) > 300))) (fun n => by rw [if_pos rfl]) ?_
      by_cases hv : v.size ≤ 300
      · rw [decide_eq_false (by omega)]
        have k0 := okF_few h0
        have n0 := h0.1
        have hsz : ∀ x ∈ l, x.f0.size ≤ 100 ∧ x.f1.size ≤ 1000 := fun x hx => ⟨(h0.2 x hx).1, by have := (h0.2 x hx).2; omega⟩
        have kc := canon_ok h0
        have hle := canon_le l
        have hcc := canon_canon l
        have hj2 : Ev (fun n => abutmentlaw50_CanonStays.j2 n l a1 v true) true :=
          Ev.step (f := fun n => (abutmentlaw50_lives.f n).bind fun t => some t) (fun n => by simp only [abutmentlaw50_CanonStays.j2]; rw [if_pos trivial]) hlast
        refine Ev.step (f := fun n => (abutmentref09_Same.f n (canonF l) (canonF l)).bind fun t => if t = true then ((canon_Same.f n l (canonF l)).bind fun p => if p = true then ((canon_Same.f n (canonF l) l).bind fun q => abutmentlaw50_CanonStays.j1 n l a1 v (!q)) else abutmentlaw50_CanonStays.j1 n l a1 v true) else abutmentlaw50_CanonStays.j1 n l a1 v true) (fun n => ?_) ?_
        · simp only [abutmentlaw50_CanonStays.j0]
          rw [if_neg (by decide)]
          have e1 : canon_Fields.f l = some (canonF l) := by unfold canon_Fields.f; rw [if_pos k0]
          have e2 : canon_Fields.f (canonF l) = some (canonF l) := by unfold canon_Fields.f; rw [if_pos kc, hcc]
          rw [e1, Option.bind_some, e2, Option.bind_some]
        refine Ev.bind (same09_comes _ _ (by omega)) ?_
        rw [decide_eq_true rfl]
        refine Ev.congr (f := fun n => (canon_Same.f n l (canonF l)).bind fun p => if p = true then ((canon_Same.f n (canonF l) l).bind fun q => abutmentlaw50_CanonStays.j1 n l a1 v (!q)) else abutmentlaw50_CanonStays.j1 n l a1 v true) (fun n => by rw [if_pos rfl]) ?_
        refine Ev.bind (same_true k0 kc (by rw [hcc])) ?_
        refine Ev.congr (f := fun n => (canon_Same.f n (canonF l) l).bind fun q => abutmentlaw50_CanonStays.j1 n l a1 v (!q)) (fun n => by rw [if_pos rfl]) ?_
        refine Ev.bind (same_true kc k0 (by rw [hcc])) ?_
        by_cases hneg : a1 < 0
        · exact Ev.step (f := fun n => abutmentlaw50_CanonStays.j2 n l a1 v true) (fun n => by simp only [abutmentlaw50_CanonStays.j1]; rw [if_neg (by decide), if_pos hneg]) hj2
        · have hw1 : wrap64 ((l.length : Int) - 1) = (l.length : Int) - 1 := w64 (by omega) (by omega)
          by_cases hbig : a1 ≥ (l.length : Int) - 1
          · exact Ev.step (f := fun n => abutmentlaw50_CanonStays.j2 n l a1 v true) (fun n => by simp only [abutmentlaw50_CanonStays.j1]; rw [if_neg (by decide), if_neg hneg, hw1, decide_eq_true hbig]) hj2
          · refine Ev.step (f := fun n => abutmentlaw50_CanonStays.j2 n l a1 v false) (fun n => by simp only [abutmentlaw50_CanonStays.j1]; rw [if_neg (by decide), if_neg hneg, hw1, decide_eq_false hbig]) ?_
            obtain ⟨i, rfl⟩ : ∃ i : Nat, a1 = (i : Int) := ⟨a1.toNat, by omega⟩
            have hi : i + 1 < l.length := by omega
            have hi0 : i < l.length := by omega
            have hw2 : wrap64 ((i : Int) + 1) = ((i + 1 : Nat) : Int) := by rw [w64 (by omega) (by omega)]; omega
            obtain ⟨A, x, y, B, hA, hl⟩ : ∃ A x y B, A.length = i ∧ l = A ++ x :: y :: B := by
              refine ⟨l.take i, l[i], l[i + 1], l.drop (i + 2), by rw [List.length_take]; omega, ?_⟩
              conv => lhs; rw [← List.take_append_drop i l, List.drop_eq_getElem_cons hi0, List.drop_eq_getElem_cons hi]
            have hx : l[i] = x := by subst hA; simp [hl]
            have hy : l[i + 1] = y := by subst hA; simp [hl]
            have r1 : rd_T83 l (i : Int) = x := by rw [rd_at l i hi0, hx]
            have r2 : rd_T83 l ((i + 1 : Nat) : Int) = y := by rw [rd_at l (i + 1) hi, hy]
            have hxs := hsz x (by rw [← hx]; exact List.getElem_mem _)
            have hys := hsz y (by rw [← hy]; exact List.getElem_mem _)
            have t1 : l.take (i + 1) = A ++ [x] := by rw [List.take_succ_eq_append_getElem hi0, hx]; congr 1; subst hA; rw [hl, List.take_left']; rfl
            have t2 : l.take i = A := by subst hA; rw [hl, List.take_left']; rfl
            have t3 : l.drop (i + 1) = y :: B := by subst hA; rw [hl, ← List.drop_drop, List.drop_left']; rfl; rfl
            have set1 : (l.set i y).set (i + 1) x = A ++ y :: x :: B := by
              subst hA
              rw [hl, List.set_append_right _ _ (Nat.le_refl _), Nat.sub_self, List.set_cons_zero, List.set_append_right _ _ (by omega), show A.length + 1 - A.length = 1 by omega, List.set_cons_succ, List.set_cons_zero]
            have mem : ∀ z, z ∈ A ++ x :: y :: B → z.f0.size ≤ 100 ∧ z.f1.size ≤ 1000 := fun z hz => hsz z (by rw [hl]; exact hz)
            have hlen : A.length + (B.length + 2) ≤ 40 := by have := congrArg List.length hl; simp at this; omega
            have hj3 : Ev (fun n => abutmentlaw50_CanonStays.j3 n l (i : Int) v false) true := by
              cases hsg : singleB x.f0 with
              | true =>
                refine Ev.step (f := fun n => (abutmentlaw50_lives.f n).bind fun t => some t) (fun n => ?_) hlast
                simp only [abutmentlaw50_CanonStays.j3]
                rw [if_neg (by decide), if_pos (by omega), if_pos (by omega), r1, canon_Single.f, if_pos (by omega), Option.bind_some, hsg, if_pos rfl]
              | false =>
                have kone : okF (A ++ ⟨x.f0, (x.f1 ++ ⟨#[44, 32]⟩) ++ v⟩ :: y :: B) := ok_of (by simp; omega) (fun z hz => by
                  rcases List.mem_append.1 hz with hz | hz
                  · exact mem z (List.mem_append_left _ hz)
                  · rcases List.mem_cons.1 hz with rfl | hz
                    · refine ⟨hxs.1, ?_⟩
                      show ((x.f1 ++ ⟨#[44, 32]⟩) ++ v).size ≤ _
                      have := (h0.2 x (by rw [← hx]; exact List.getElem_mem _)).2
                      rw [ByteArray.size_append, ByteArray.size_append, show (⟨#[44, 32]⟩ : ByteArray).size = 2 from rfl]
                      omega
                    · exact mem z (List.mem_append_right _ (List.mem_cons_of_mem _ hz)))
                have ktwo : okF (A ++ x :: ⟨x.f0, v⟩ :: y :: B) := ok_of (by simp; omega) (fun z hz => by
                  rcases List.mem_append.1 hz with hz | hz
                  · exact mem z (List.mem_append_left _ hz)
                  · rcases List.mem_cons.1 hz with rfl | hz
                    · exact hxs
                    · rcases List.mem_cons.1 hz with rfl | hz
                      · exact ⟨hxs.1, by show v.size ≤ _; omega⟩
                      · exact mem z (List.mem_append_right _ (List.mem_cons_of_mem _ hz)))
                have hsame := same_true kone ktwo (split_same A (y :: B) x v hsg)
                refine Ev.step (f := fun n => (canon_Same.f n (A ++ ⟨x.f0, (x.f1 ++ ⟨#[44, 32]⟩) ++ v⟩ :: y :: B) (A ++ x :: ⟨x.f0, v⟩ :: y :: B)).bind fun t => if t = true then ((abutmentlaw50_lives.f n).bind fun t => some t) else some false) (fun n => ?_) (Ev.bind hsame (Ev.congr (fun n => by rw [if_pos rfl]) hlast))
                have hs2 : (⟨#[44, 32]⟩ : ByteArray).size = 2 := rfl
                simp only [abutmentlaw50_CanonStays.j3]
                rw [if_neg (by decide), if_pos (by omega), if_pos (by omega), r1, canon_Single.f, if_pos (by omega), Option.bind_some, hsg, if_neg (by decide)]
                simp only [Option.bind_some, hw2, Int.toNat_natCast, t1, t2, t3, List.nil_append]
                rw [if_pos (by omega), if_pos (by omega), if_pos (by simp; omega), if_pos (by omega), if_pos (by simp; omega), if_pos (by simp; omega), if_pos (by simp; omega), if_pos (by omega), if_pos (by rw [ByteArray.size_append]; omega), if_pos (by omega), if_pos (by simp; omega)]
                simp
            refine Ev.step (f := fun n => (octet_Fold.f n x.f0 y.f0).bind fun t => if t = true then abutmentlaw50_CanonStays.j3 n l (i : Int) v false else ((canon_Same.f n l (A ++ y :: x :: B)).bind fun t => abutmentlaw50_CanonStays.j3 n l (i : Int) v (!t))) (fun n => ?_) ?_
            · simp only [abutmentlaw50_CanonStays.j2]
              rw [if_neg (by decide)]
              simp only [Option.bind_some, hw2, r1, r2, List.nil_append, List.length_nil, Nat.zero_add]
              rw [if_pos (by omega), if_pos (by omega), if_pos (by omega), if_pos (by omega), if_pos (by omega), if_pos (by omega), if_pos (by omega), Int.toNat_natCast, Int.toNat_natCast, set1]
            · refine Ev.bind (fold_comes x.f0 y.f0 (by omega)) ?_
              cases hf : foldB x.f0 y.f0 with
              | true => exact Ev.congr (fun n => by rw [if_pos rfl]) hj3
              | false =>
                have kt : okF (A ++ y :: x :: B) := ok_of (by simp; omega) (fun z hz => by
                  rcases List.mem_append.1 hz with hz | hz
                  · exact mem z (List.mem_append_left _ hz)
                  · rcases List.mem_cons.1 hz with rfl | hz
                    · exact hys
                    · rcases List.mem_cons.1 hz with rfl | hz
                      · exact hxs
                      · exact mem z (List.mem_append_right _ (List.mem_cons_of_mem _ (List.mem_cons_of_mem _ hz))))
                have hsame := same_true k0 kt (by rw [hl]; exact turned_same A B x y hf)
                exact Ev.congr (f := fun n => (canon_Same.f n l (A ++ y :: x :: B)).bind fun t => abutmentlaw50_CanonStays.j3 n l (i : Int) v (!t)) (fun n => by rw [if_neg (by decide)]) (Ev.bind hsame hj3)
      · rw [decide_eq_true (by omega)]; exact hout
    · rw [decide_eq_false h0]
      exact Ev.congr (fun n => by rw [if_neg (by simp)]) hout
  exact hall.rounds
end Go.Proofs.Ytacglolggaobdab.Pure
