/- The pure statement of TallyTells: with rounds enough the printed law answers true at every list of fields and of messages. -/
import Derived.Test.YtacglolggaobdabMTells
import Derived.Test.YtacglolggaobdabMTlLives
import Derived.Test.YtacglolggaobdabPAllx5
namespace Go.Proofs.Ytacglolggaobdab.Pure
open Go.RowKit Go.Proofs.Ytacglolggaobdab.PAll Go.Proofs.Ytacglolggaobdab.Hn Go.Proofs.Ytacglolggaobdab.TL Go.Proofs.Ytacglolggaobdab.MT Go.Proofs.YtacglolggaobdabW.PrintWords Go.Proofs.YtacglolggaobdabW.PrintLast Go.Proofs.YtacglolggaobdabW.PrintMore
set_option linter.unusedSimpArgs false
set_option linter.unusedVariables false

theorem tells_last (a : List S83) (m : List S56) (ha : fewF a) (hm : m.length ≤ 60) (hs : ∀ x ∈ m, x.f0.f0.size ≤ 100) :
    Ev (fun n => (tally_Fields.f a).bind fun t213 => ((abutmentref49_Fields.f n a).bind fun t216 => ((abutmentlaw49_same.f n t213 t216).bind fun t219 => (if t219 = true then ((tally_Methods.f m).bind fun t220 => ((abutmentref49_Heads.f n m true).bind fun t223 => ((abutmentlaw49_same.f n t220 t223).bind fun t226 => (if t226 = true then ((tally_Statuses.f m).bind fun t227 => ((abutmentref49_Heads.f n m false).bind fun t230 => ((abutmentlaw49_same.f n t227 t230).bind fun t233 => (if t233 = true then ((abutmentlaw49_lives.f).bind fun t234 => (some t234)) else (some false))))) else (some false))))) else (some false))))) true := by
  have la := ha.1
  have e1 : tally_Fields.f a = some (hist (lowKeys a)) := by
    unfold tally_Fields.f; rw [if_pos ⟨by omega, fun x hx => by have := (ha.2 x hx).1; omega⟩]
  have e2 : tally_Methods.f m = some (hist (methKeys m)) := by
    unfold tally_Methods.f; rw [if_pos ⟨by omega, fun x hx => by have := hs x hx; omega⟩]
  have e3 : tally_Statuses.f m = some (hist (stKeys m)) := by
    unfold tally_Statuses.f; rw [if_pos ⟨by omega, fun x _ => okS_all x⟩]
  have h1 := hist_len (lowKeys a)
  have h2 := hist_len (methKeys m)
  have h3 := hist_len (stKeys m)
  have n1 : (lowKeys a).length = a.length := List.length_map _
  have n2 : (methKeys m).length ≤ m.length := by rw [← KB_mB]; unfold KB; rw [List.length_map]; exact kB_len true m
  have n3 : (stKeys m).length ≤ m.length := by rw [← KB_sB]; unfold KB; rw [List.length_map]; exact kB_len false m
  have c2 := heads_comes true m (by omega)
  have c3 := heads_comes false m (by omega)
  rw [show kB true m = mB m from rfl, KB_mB] at c2
  rw [show kB false m = sB m from rfl, KB_sB] at c3
  rw [e1, e2, e3]
  simp only [Option.bind_some]
  refine Ev.bind (rfields_comes a (by omega) (fun x hx => by have := (ha.2 x hx).1; omega)) (Ev.bind (same_comes (hist (lowKeys a)) (by omega)) ?_)
  refine Ev.congr (fun n => by rw [if_pos rfl]) (Ev.bind c2 (Ev.bind (same_comes (hist (methKeys m)) (by omega)) ?_))
  refine Ev.congr (fun n => by rw [if_pos rfl]) (Ev.bind c3 (Ev.bind (same_comes (hist (stKeys m)) (by omega)) ?_))
  exact Ev.congr (fun n => by rw [if_pos rfl, lives49]; rfl) (Ev.now true)

theorem tells_l0 (a : List S83) (m : List S56) (ha : fewF a) (hm : m.length ≤ 60) : ∀ (d i : Nat), m.length - i = d → i ≤ m.length → (∀ x ∈ m.take i, x.f0.f0.size ≤ 100) → Ev (fun n => abutmentlaw49_TallyTells.l0 n a m m (m.length : Int) (i : Int)) true := by
  intro d
  induction d with
  | zero =>
    intro i hd hi hs
    rw [List.take_of_length_le (by omega)] at hs
    refine Ev.step (fun n => ?_) (tells_last a m ha hm hs)
    simp only [abutmentlaw49_TallyTells.l0]
    rw [if_neg (by omega)]
  | succ d ih =>
    intro i hd hi hs
    have hil : i < m.length := by omega
    have hrd := rd56 m i hil
    by_cases e : m[i].f0.f0.size ≤ 100
    · refine Ev.step (f := fun n => abutmentlaw49_TallyTells.l0 n a m m (m.length : Int) ((i + 1 : Nat) : Int)) (fun n => ?_) (ih (i + 1) (by omega) (by omega) (fun x hx => ?_))
      · simp only [abutmentlaw49_TallyTells.l0]
        rw [if_pos (by omega), if_pos (by omega), if_pos (by omega), hrd, if_neg (by omega), w64 (by omega) (by omega)]; rfl
      · rw [List.take_succ_eq_append_getElem hil] at hx
        rcases List.mem_append.1 hx with hx | hx
        · exact hs x hx
        · rw [List.mem_singleton.1 hx]; exact e
    · refine Ev.step (f := fun _ => some true) (fun n => ?_) (Ev.now _)
      simp only [abutmentlaw49_TallyTells.l0]
      rw [if_pos (by omega), if_pos (by omega), if_pos (by omega), hrd, if_pos (by omega), lives49]; rfl

theorem TallyTells (l0 : List S83) (l1 : List S56) : ∃ k, abutmentlaw49_TallyTells.f k l0 l1 = some true := by
  have hout : Ev (fun n => abutmentlaw49_TallyTells.j0 n l0 l1 true) true :=
    Ev.step (f := fun _ => some true) (fun n => by simp only [abutmentlaw49_TallyTells.j0]; rw [if_pos trivial, lives49]; rfl) (Ev.now _)
  have hall : Ev (fun n => abutmentlaw49_TallyTells.f n l0 l1) true := by
    unfold abutmentlaw49_TallyTells.f
    refine Ev.bind (few10_comes l0) ?_
    by_cases h0 : fewF l0
    · rw [decide_eq_true h0]
      by_cases h1 : l1.length ≤ 60
      · refine Ev.congr (f := fun n => abutmentlaw49_TallyTells.j0 n l0 l1 false) (fun n => by rw [if_pos rfl, decide_eq_false (by omega)]) ?_
        refine Ev.step (f := fun n => abutmentlaw49_TallyTells.l0 n l0 l1 l1 (l1.length : Int) ((0 : Nat) : Int)) (fun n => ?_) (tells_l0 l0 l1 h0 h1 _ 0 rfl (by omega) (fun x hx => by simp at hx))
        simp only [abutmentlaw49_TallyTells.j0]
        rw [if_neg (by simp)]; rfl
      · exact Ev.congr (fun n => by rw [if_pos rfl, decide_eq_true (by omega)]) hout
    · rw [decide_eq_false h0]
      exact Ev.congr (fun n => by rw [if_neg (by simp)]) hout
  exact hall.rounds
end Go.Proofs.Ytacglolggaobdab.Pure
