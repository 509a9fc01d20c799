/- The pure statement of TallyParts: with rounds enough the printed law answers true at every two lists of fields. -/
import Derived.Test.YtacglolggaobdabMTl
import Derived.Test.YtacglolggaobdabMTlLives
import Derived.Test.YtacglolggaobdabGtallyFields
import Derived.Test.YtacglolggaobdabPAllx2
namespace Go.Proofs.Ytacglolggaobdab.Pure
open Go.RowKit Go.Proofs.Ytacglolggaobdab.PAll Go.Proofs.Ytacglolggaobdab.Hn Go.Proofs.Ytacglolggaobdab.TL Go.Proofs.Ytacglolggaobdab.MT Go.Proofs.YtacglolggaobdabW.PrintWords Go.Proofs.YtacglolggaobdabW.PrintLast Go.Proofs.YtacglolggaobdabW.PrintMore
set_option linter.unusedSimpArgs false
set_option linter.unusedVariables false

theorem lowKeys_app (a b : List S83) : lowKeys (a ++ b) = lowKeys a ++ lowKeys b := List.map_append
theorem lowKeys_len (a : List S83) : (lowKeys a).length = a.length := List.length_map _
theorem okT_few {l : List S83} (h : fewF l) : okT l := ⟨by have := h.1; omega, fun x hx => by have := (h.2 x hx).1; omega⟩

/-- the inner loop adds up the counts of a name -/
theorem parts_l1 (x0 x1 x5 : List S83) (x6 x7 : Int) (x27 : List S49) (x28 x29 : Int) (L : List S49) (nm : ByteArray) (c : Int) (r : Bool) (hl : L.length ≤ 1000) (hb : ∀ y ∈ L, 0 ≤ y.f1 ∧ y.f1 ≤ 1000000)
    (hgo : Ev (fun n => if sumN nm L = c then (if c < 1 then (abutmentlaw49_TallyParts.j3 n x0 x1 x5 x6 x27 x28 x29 true nm c) else (abutmentlaw49_TallyParts.j3 n x0 x1 x5 x6 x27 x28 x29 (decide (x7 > (x5.length : Int))) nm c)) else (abutmentlaw49_TallyParts.j3 n x0 x1 x5 x6 x27 x28 x29 true nm c)) r) :
    ∀ (d i : Nat) (acc : Int), L.length - i = d → i ≤ L.length → 0 ≤ acc → acc ≤ 1000000 * (i : Int) → acc + sumN nm (L.drop i) = sumN nm L → Ev (fun n => abutmentlaw49_TallyParts.l1 n x0 x1 x5 x6 x7 acc x27 x28 x29 L (L.length : Int) (i : Int) nm c) r := by
  intro d
  induction d with
  | zero =>
    intro i acc hd hi h0 h1 hs
    rw [List.drop_eq_nil_of_le (by omega), sumN, Int.add_zero] at hs
    rw [← hs] at hgo
    refine Ev.step (fun n => ?_) hgo
    simp only [abutmentlaw49_TallyParts.l1]
    rw [if_neg (by omega)]
  | succ d ih =>
    intro i acc hd hi h0 h1 hs
    have hil : i < L.length := by omega
    have hrd := rd49 L i hil
    obtain ⟨p1, p2⟩ := hb L[i] (List.getElem_mem _)
    rw [List.drop_eq_getElem_cons hil, sumN] at hs
    generalize hg : sumN nm (L.drop (i + 1)) = g at hs
    generalize hh : sumN nm L = tot at *
    by_cases e : L[i].f0.toList = nm.toList
    · rw [if_pos e] at hs
      refine Ev.step (f := fun n => abutmentlaw49_TallyParts.l1 n x0 x1 x5 x6 x7 (acc + L[i].f1) x27 x28 x29 L (L.length : Int) ((i + 1 : Nat) : Int) nm c) (fun n => ?_) (ih (i + 1) (acc + L[i].f1) (by omega) (by omega) (by omega) (by rw [Int.natCast_add]; omega) (by omega))
      simp only [abutmentlaw49_TallyParts.l1]
      rw [if_pos (by omega), if_pos (by omega), if_pos (by omega), hrd, if_pos e, w64 (by omega) (by omega), w64 (by omega) (by omega)]; rfl
    · rw [if_neg e] at hs
      refine Ev.step (f := fun n => abutmentlaw49_TallyParts.l1 n x0 x1 x5 x6 x7 acc x27 x28 x29 L (L.length : Int) ((i + 1 : Nat) : Int) nm c) (fun n => ?_) (ih (i + 1) _ (by omega) (by omega) (by omega) (by rw [Int.natCast_add]; omega) (by omega))
      simp only [abutmentlaw49_TallyParts.l1]
      rw [if_pos (by omega), if_pos (by omega), if_pos (by omega), hrd, if_neg e, w64 (by omega) (by omega)]; rfl

theorem hist_small {ks : List (List UInt8)} (h : ks.length ≤ 100) {r : S49} (hr : r ∈ hist ks) : 0 ≤ r.f1 ∧ r.f1 ≤ 1000000 := by
  obtain ⟨h1, h2⟩ := hist_mem hr
  have := List.count_le_length (a := r.f0.data.toList) (l := ks)
  omega

/-- the outer loop: every row's count is the parts' sum -/
theorem parts_l0 (a b : List S83) (ha : fewF a) (hb : fewF b) (H : List S49) (hH : H = hist (lowKeys (a ++ b))) : ∀ (d j : Nat) (acc : Int), H.length - j = d → j ≤ H.length → 0 ≤ acc → acc ≤ 1000000 * (j : Int) → acc + sumA (H.drop j) = ((a ++ b).length : Int) →
    Ev (fun n => abutmentlaw49_TallyParts.l0 n a b (a ++ b) acc H (H.length : Int) (j : Int)) true := by
  have la := ha.1
  have lb := hb.1
  have hla := lowKeys_len a
  have hlb := lowKeys_len b
  have hlen : H.length ≤ (a ++ b).length := by rw [hH, ← lowKeys_len]; exact hist_len _
  have hlab : (a ++ b).length ≤ 80 := by rw [List.length_append]; omega
  have e1 : tally_Fields.f a = some (hist (lowKeys a)) := by unfold tally_Fields.f; rw [if_pos (okT_few ha)]
  have e2 : tally_Fields.f b = some (hist (lowKeys b)) := by unfold tally_Fields.f; rw [if_pos (okT_few hb)]
  have l1 := hist_len (lowKeys a)
  have l2 := hist_len (lowKeys b)
  intro d
  induction d with
  | zero =>
    intro j acc hd hj h0 h1 hs
    rw [List.drop_eq_nil_of_le (by omega), sumA, Int.add_zero] at hs
    refine Ev.step (f := fun _ => some true) (fun n => ?_) (Ev.now _)
    simp only [abutmentlaw49_TallyParts.l0]
    rw [if_neg (by omega), if_pos hs, lives49]; rfl
  | succ d ih =>
    intro j acc hd hj h0 h1 hs
    have hjl : j < H.length := by omega
    have hrd := rd49 H j hjl
    obtain ⟨r, hr⟩ : ∃ r, r = H[j] := ⟨_, rfl⟩
    have hm : r ∈ hist (lowKeys (a ++ b)) := by rw [← hH, hr]; exact List.getElem_mem _
    obtain ⟨m1, m2⟩ := hist_mem hm
    have m3 := hist_pos hm
    have m4 := (hist_small (by rw [lowKeys_len]; omega) hm).2
    rw [List.drop_eq_getElem_cons hjl, sumA, ← hr] at hs
    have hsum : sumN r.f0 (hist (lowKeys a) ++ hist (lowKeys b)) = r.f1 := by
      rw [sumN_app, sumN_hist, sumN_hist, m2, lowKeys_app, List.count_append]; omega
    refine Ev.step (f := fun n => abutmentlaw49_TallyParts.l1 n a b (a ++ b) acc (j : Int) 0 H (H.length : Int) (j : Int) (hist (lowKeys a) ++ hist (lowKeys b)) ((hist (lowKeys a) ++ hist (lowKeys b)).length : Int) ((0 : Nat) : Int) r.f0 r.f1) (fun n => ?_) ?_
    · simp only [abutmentlaw49_TallyParts.l0]
      rw [if_pos (by omega), if_pos (by omega), if_pos (by omega), e1, e2, hrd, ← hr]
      simp only [Option.bind_some]
      rw [if_pos (by omega)]; rfl
    · refine parts_l1 a b (a ++ b) acc (j : Int) H (H.length : Int) (j : Int) _ r.f0 r.f1 true (by rw [List.length_append]; omega) (fun y hy => ?_) ?_ _ 0 0 rfl (by omega) (by omega) (by omega) (by rw [List.drop_zero]; omega)
      · rcases List.mem_append.1 hy with hy | hy
        · exact hist_small (by omega) hy
        · exact hist_small (by omega) hy
      · refine Ev.congr (f := fun n => abutmentlaw49_TallyParts.j3 n a b (a ++ b) acc H (H.length : Int) (j : Int) false r.f0 r.f1) (fun n => by rw [if_pos hsum, if_neg (by omega), decide_eq_false (by omega)]) ?_
        refine Ev.step (f := fun n => abutmentlaw49_TallyParts.l0 n a b (a ++ b) (acc + r.f1) H (H.length : Int) ((j + 1 : Nat) : Int)) (fun n => ?_) (ih (j + 1) _ (by omega) (by omega) (by omega) (by rw [Int.natCast_add]; omega) (by omega))
        simp only [abutmentlaw49_TallyParts.j3]
        rw [if_neg (by simp), w64 (by omega) (by omega), w64 (by omega) (by omega)]; rfl

theorem TallyParts (l0 l1 : List S83) : ∃ k, abutmentlaw49_TallyParts.f k l0 l1 = some true := by
  have hout : Ev (fun n => abutmentlaw49_TallyParts.j0 n l0 l1 true) true :=
    Ev.step (f := fun _ => some true) (fun n => by simp only [abutmentlaw49_TallyParts.j0]; rw [if_pos trivial, lives49]; rfl) (Ev.now _)
  have hall : Ev (fun n => abutmentlaw49_TallyParts.f n l0 l1) true := by
    unfold abutmentlaw49_TallyParts.f
    refine Ev.bind (few10_comes l0) ?_
    by_cases h0 : fewF l0
    · rw [decide_eq_true h0]
      refine Ev.congr (f := fun n => (abutmentlaw10_Few.f n l1).bind fun t => abutmentlaw49_TallyParts.j0 n l0 l1 (!t)) (fun n => by rw [if_pos rfl]) ?_
      refine Ev.bind (few10_comes l1) ?_
      by_cases h1 : fewF l1
      · rw [decide_eq_true h1]
        have n0 := h0.1
        have n1 := h1.1
        have hok : okT (l0 ++ l1) := ⟨by rw [List.length_append]; omega, fun x hx => by
          rcases List.mem_append.1 hx with hx | hx
          · exact (okT_few h0).2 x hx
          · exact (okT_few h1).2 x hx⟩
        have e := parts_l0 l0 l1 h0 h1 _ rfl _ 0 0 rfl (by omega) (by omega) (by omega) (by rw [List.drop_zero, sumA_hist, lowKeys_len]; omega)
        refine Ev.step (fun n => ?_) e
        simp only [abutmentlaw49_TallyParts.j0, Bool.not_true]
        rw [if_neg (by simp)]
        simp only [Option.bind_some, List.nil_append, List.length_nil]
        rw [if_pos (by omega), if_pos (by omega), tally_Fields.f, if_pos hok]; rfl
      · rw [decide_eq_false h1]; exact hout
    · rw [decide_eq_false h0]
      exact Ev.congr (fun n => by rw [if_neg (by simp)]) hout
  exact hall.rounds
end Go.Proofs.Ytacglolggaobdab.Pure
