/- The pure statement of HeaderChanges: with rounds enough the printed law answers true at every list of fields, every names and every field. -/
import Derived.Test.YtacglolggaobdaaMHeader3
import Derived.Test.YtacglolggaobdaaPAllx8
namespace Go.Proofs.Ytacglolggaobdaa.Pure
open Go.RowKit Go.Proofs.Ytacglolggaobdaa.PAll Go.Proofs.Ytacglolggaobdaa.Hn Go.Proofs.Ytacglolggaobdaa.MH Go.Proofs.YtacglolggaobdaaW.PrintWords Go.Proofs.YtacglolggaobdaaW.PrintLast Go.Proofs.YtacglolggaobdaaW.PrintMore
set_option linter.unusedSimpArgs false

theorem HeaderChanges (l : List S84) (names : List ByteArray) (nm v : ByteArray) : ∃ k, abutmentlaw10_HeaderChanges.f k l names nm v = some true := by
  have hlast : Ev (fun n => (abutmentlaw10_lives.f n).bind fun t => some t) true := Ev.bind hlives_comes (Ev.now true)
  have hout : Ev (fun n => abutmentlaw10_HeaderChanges.j0 n l names true nm v) true :=
    Ev.step (fun n => by simp only [abutmentlaw10_HeaderChanges.j0]; rw [if_pos trivial]) hlast
  have hloop : fewF l → names.length ≤ 20 → nm.size ≤ 100 → v.size ≤ 300 → ∀ (d i : Nat), names.length - i = d → i ≤ names.length → (∀ x ∈ names.take i, x.size ≤ 100) →
      Ev (fun n => abutmentlaw10_HeaderChanges.l0 n l names names (names.length : Int) (i : Int) nm v) true := by
    intro h0 hn20 hnm hv d
    have hl40 := h0.1
    induction d with
    | zero =>
      intro i hd hi hno
      rw [List.take_of_length_le (by omega)] at hno
      have hs : ∀ x ∈ l, x.f0.size ≤ 1000000 := fun x hx => by have := (h0.2 x hx).1; omega
      have hwo : header_Without.f l names = some (keepF (isAny names) l) := if_pos ⟨h0.fit, ⟨by omega, fun x hx => by have := hno x hx; omega⟩⟩
      have hwi : header_With.f l nm v = some (l ++ [⟨nm, v⟩]) := if_pos h0.fit
      have hse : header_Set.f l nm v = some (setF l nm v) := if_pos ⟨h0.fit, by omega⟩
      have hk := (keepF_fit (isAny names) h0.fit).1
      have hl2 := setF_len nm v l
      refine Ev.step (f := fun n => (abutmentref10_Without.f n l names).bind fun a => (abutmentref09_Same.f n (keepF (isAny names) l) a).bind fun t => if t = true then ((abutmentref09_Same.f n (l ++ [⟨nm, v⟩]) (l ++ [⟨nm, v⟩])).bind fun t => if t = true then ((abutmentref10_Set.f n l nm v).bind fun b => (abutmentref09_Same.f n (setF l nm v) b).bind fun t => if t = true then ((abutmentlaw10_lives.f n).bind fun t => some t) else some false) else some false) else some false) (fun n => ?_) ?_
      · simp only [abutmentlaw10_HeaderChanges.l0]
        rw [if_neg (by omega), hwo, hwi, hse, rwith_is l nm v (by omega)]; rfl
      · refine Ev.bind (rwo_comes l names (by omega) hs (fun x hx => by have := hno x hx; omega) (by omega)) (Ev.bind (same09_comes _ _ hk) ?_)
        rw [decide_eq_true rfl]
        refine Ev.congr (fun n => if_pos rfl) (Ev.bind (same09_comes _ _ (by simp; omega)) ?_)
        rw [decide_eq_true rfl]
        refine Ev.congr (fun n => if_pos rfl) (Ev.bind (rset_comes l nm v (by omega) hs (by omega)) (Ev.bind (same09_comes _ _ (by omega)) ?_))
        rw [decide_eq_true rfl]
        exact Ev.congr (fun n => if_pos rfl) hlast
    | succ d ih =>
      intro i hd hi hno
      have hil : i < names.length := by omega
      by_cases hb : names[i].size ≤ 100
      · refine Ev.step (f := fun n => abutmentlaw10_HeaderChanges.l0 n l names names (names.length : Int) ((i + 1 : Nat) : Int) nm v) (fun n => ?_) (ih (i + 1) (by omega) (by omega) ?_)
        · simp only [abutmentlaw10_HeaderChanges.l0]
          rw [if_pos (by omega), if_pos (by omega), if_pos (by omega), rd_str names i hil, if_neg (by omega), w64 (by omega) (by omega)]; rfl
        · intro x hx
          rw [List.take_succ_eq_append_getElem hil] at hx
          rcases List.mem_append.1 hx with h | h
          · exact hno x h
          · rw [List.mem_singleton.1 h]; exact hb
      · refine Ev.step (fun n => ?_) hlast
        simp only [abutmentlaw10_HeaderChanges.l0]
        rw [if_pos (by omega), if_pos (by omega), if_pos (by omega), rd_str names i hil, if_pos (by omega)]
  have hall : Ev (fun n => abutmentlaw10_HeaderChanges.f n l names nm v) true := by
    unfold abutmentlaw10_HeaderChanges.f
    refine Ev.bind (few10_comes l) ?_
    by_cases h0 : fewF l
    · rw [decide_eq_true h0]
      refine Ev.congr (fun n => if_pos rfl) ?_
      by_cases h1 : (names.length : Int) > 20
      · exact Ev.congr (fun n => if_pos h1) hout
      · refine Ev.congr (fun n => if_neg h1) ?_
        by_cases h2 : (nm.size : Int) > 100
        · exact Ev.congr (fun n => if_pos h2) hout
        · refine Ev.congr (fun n => if_neg h2) ?_
          by_cases h3 : (v.size : Int) > 300
          · rw [decide_eq_true h3]; exact hout
          · rw [decide_eq_false h3]
            refine Ev.step (fun n => ?_) (hloop h0 (by omega) (by omega) (by omega) _ 0 rfl (by omega) (by simp))
            simp only [abutmentlaw10_HeaderChanges.j0]
            rw [if_neg (by decide)]; rfl
    · rw [decide_eq_false h0]
      exact Ev.congr (fun n => by rw [if_neg (by simp)]) hout
  exact hall.rounds
end Go.Proofs.Ytacglolggaobdaa.Pure
