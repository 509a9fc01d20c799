/- Plain laws: the reference's Line of a head, its lines, its rows of two heads: they come to what this session's texts say of the program's. -/
import Derived.Test.YtacglolggaobdabGdiffHeads
import Derived.Test.YtacglolggaobdabMLives
import Derived.Test.YtacglolggaobdabGabutmentref51Lines
import Derived.Test.YtacglolggaobdabGabutmentref02Digits
import Derived.Test.YtacglolggaobdabPAllx9
import Derived.Test.YtacglolggaobdabPAllx3
namespace Go.Proofs.Ytacglolggaobdab.MHd
open Go.RowKit Go.Proofs.Ytacglolggaobdab.PAll Go.Proofs.Ytacglolggaobdab.Hn Go.Proofs.Ytacglolggaobdab.CF Go.Proofs.Ytacglolggaobdab.MH Go.Proofs.Ytacglolggaobdab.MR Go.Proofs.YtacglolggaobdabW.PrintWords Go.Proofs.YtacglolggaobdabW.PrintLast Go.Proofs.YtacglolggaobdabW.PrintMore
open Go.Proofs.Ytacglolggaobdab.MDiff (to33)
set_option linter.unusedVariables false
set_option linter.unusedSimpArgs false

theorem rtext_is (n : Int) (h0 : -9223372036854775808 ≤ n) (h1 : n ≤ 9223372036854775807) : abutmentref02_Text.f n = some ⟨(txt n).toArray⟩ := by
  unfold abutmentref02_Text.f txt
  by_cases hn : n < 0
  · rw [if_pos hn, if_pos hn]
    have e : IntKind.u64.wrap ((IntKind.u64.wrap (wrap64 (-(wrap64 (n + 1))))) + 1) = ((n.natAbs : Nat) : Int) := by
      have w1 : wrap64 (n + 1) = n + 1 := w64 (by omega) (by omega)
      have w2 : wrap64 (-(n + 1)) = -(n + 1) := w64 (by omega) (by omega)
      rw [w1, w2]
      simp [IntKind.wrap, IntKind.bits, IntKind.signed]; omega
    rw [e]
    have ed : abutmentref02_Digits.f ((n.natAbs : Nat) : Int) 10 = some ⟨(figs 10 n.natAbs).toArray⟩ := by
      unfold abutmentref02_Digits.f
      rw [if_pos ⟨by decide, by decide, by omega, by omega⟩, Int.toNat_natCast]; rfl
    have hf := figs_len 10 n.natAbs (by decide) (by omega)
    rw [ed, Option.bind_some, if_pos (by have e : (⟨(figs 10 n.natAbs).toArray⟩ : ByteArray).size = (figs 10 n.natAbs).length := by simp [ByteArray.size]
                                         rw [e]; omega)]
    congr 1
  · rw [if_neg hn, if_neg hn]
    have e : IntKind.u64.wrap n = ((n.natAbs : Nat) : Int) := by simp [IntKind.wrap, IntKind.bits, IntKind.signed]; omega
    rw [e]
    unfold abutmentref02_Digits.f
    rw [if_pos ⟨by decide, by decide, by omega, by omega⟩, Int.toNat_natCast]; rfl
theorem rpad_l0 (n : Int) (hn : 0 ≤ n) : ∀ (d : Nat) (s : List UInt8), 3 - s.length = d → Ev (fun k => abutmentref02_Pad.l0 k n 3 ⟨s.toArray⟩) ⟨(List.replicate (3 - s.length) 48 ++ s).toArray⟩ := by
  intro d
  induction d with
  | zero =>
    intro s hd
    have hs : (⟨s.toArray⟩ : ByteArray).size = s.length := by simp [ByteArray.size]
    rw [hd, List.replicate_zero, List.nil_append]
    refine Ev.step (f := fun k => abutmentref02_Pad.j1 k n 3 ⟨s.toArray⟩ false) (fun k => ?_) ?_
    · simp only [abutmentref02_Pad.l0]
      rw [if_pos (by omega), if_neg (by rw [hs]; omega)]
    · refine Ev.step (f := fun _ => some ⟨s.toArray⟩) (fun k => ?_) (Ev.now _)
      simp only [abutmentref02_Pad.j1]
      rw [if_neg (by decide)]
  | succ d ih =>
    intro s hd
    have hs : (⟨s.toArray⟩ : ByteArray).size = s.length := by simp [ByteArray.size]
    have hnext := ih (48 :: s) (by simp; omega)
    rw [List.length_cons, show 3 - (s.length + 1) = d by omega] at hnext
    rw [hd, List.replicate_succ', List.append_assoc]
    refine Ev.step (f := fun k => abutmentref02_Pad.j1 k n 3 ⟨s.toArray⟩ true) (fun k => ?_) ?_
    · simp only [abutmentref02_Pad.l0]
      rw [if_pos (by omega), if_pos (by rw [hs]; omega), decide_eq_true (by rw [hs]; omega)]
    · refine Ev.step (f := fun k => abutmentref02_Pad.l0 k n 3 ⟨(48 :: s).toArray⟩) (fun k => ?_) hnext
      simp only [abutmentref02_Pad.j1]
      rw [if_pos trivial, if_pos (by rw [hs]; omega)]
      congr 1
theorem rpad_neg (n : Int) (hn : n < 0) (s : ByteArray) : Ev (fun k => abutmentref02_Pad.l0 k n 3 s) s := by
  refine Ev.step (f := fun k => abutmentref02_Pad.j1 k n 3 s false) (fun k => ?_) ?_
  · simp only [abutmentref02_Pad.l0]
    rw [if_neg (by omega)]
  · refine Ev.step (f := fun _ => some s) (fun k => ?_) (Ev.now _)
    simp only [abutmentref02_Pad.j1]
    rw [if_neg (by decide)]
theorem rpad_comes (n : Int) (h0 : -9223372036854775808 ≤ n) (h1 : n ≤ 9223372036854775807) : Ev (fun k => abutmentref02_Pad.f k n 3) (padB n) := by
  unfold abutmentref02_Pad.f
  rw [rtext_is n h0 h1]
  show Ev (fun k => abutmentref02_Pad.l0 k n 3 ⟨(txt n).toArray⟩) _
  unfold padB padN
  by_cases hn : n < 0
  · rw [if_pos hn, List.replicate_zero, List.nil_append]
    exact rpad_neg n hn _
  · rw [if_neg hn]
    have := rpad_l0 n (by omega) _ (txt n) rfl
    rwa [show (max 0 (min (max 3 0) 20 - ((txt n).length : Int))).toNat = 3 - (txt n).length by omega]

theorem rversion_is (mi : Int) : abutmentref15_Version.f mi = some (versionB mi) := by
  unfold abutmentref15_Version.f versionB
  by_cases h : mi > 0
  · rw [if_pos h, if_neg (by omega)]
  · rw [if_neg h, if_pos (by omega)]
theorem rline_comes {m t : ByteArray} {mi st : Int} {re : ByteArray} {fs : List S83} (h : okH m t mi st re fs) : Ev (fun k => abutmentref15_Line.f k m t mi st re fs) (headLine m t mi st re) := by
  obtain ⟨_, _, h1, h2, h3, h4, h5⟩ := h
  have hv := version_size mi
  have hp := padB_size st h4 h5
  have e1 : (⟨#[32]⟩ : ByteArray).size = 1 := rfl
  unfold abutmentref15_Line.f headLine
  rw [rversion_is]
  by_cases hm : m.toList = []
  · rw [if_pos hm]
    refine Ev.congr (f := fun k => (abutmentref02_Pad.f k st 3).bind fun t304 => (if (versionB mi ++ (⟨#[32]⟩ : ByteArray)).size + t304.size ≤ 9223372036854775807 then (if ((versionB mi ++ (⟨#[32]⟩ : ByteArray)) ++ t304).size + 1 ≤ 9223372036854775807 then (if (((versionB mi ++ (⟨#[32]⟩ : ByteArray)) ++ t304) ++ (⟨#[32]⟩ : ByteArray)).size + re.size ≤ 9223372036854775807 then (some ((((versionB mi ++ (⟨#[32]⟩ : ByteArray)) ++ t304) ++ (⟨#[32]⟩ : ByteArray)) ++ re)) else (none)) else (none)) else (none))) (fun k => ?_) (Ev.bind (rpad_comes st h4 h5) ?_)
    · rw [if_pos hm, Option.bind_some, if_pos (by omega)]
    · refine Ev.congr (fun k => ?_) (Ev.now _)
      simp only [ByteArray.size_append, e1, hv]
      rw [if_pos (by omega), if_pos (by omega), if_pos (by omega)]
  · rw [if_neg hm]
    refine Ev.congr (fun k => ?_) (Ev.now _)
    rw [if_neg hm]
    simp only [Option.bind_some, ByteArray.size_append, e1, hv]
    rw [if_pos (by omega), if_pos (by omega), if_pos (by omega), if_pos (by omega)]
theorem rfield_is {f : S83} (h : f.f0.size ≤ 100000 ∧ f.f1.size ≤ 100002000) : abutmentref09_Line.f f.f0 f.f1 = some (fieldLine f) := by
  have e1 : (⟨#[58]⟩ : ByteArray).size = 1 := rfl
  have e2 : (⟨#[32]⟩ : ByteArray).size = 1 := rfl
  unfold abutmentref09_Line.f fieldLine
  rw [if_pos (by omega)]
  by_cases hm : f.f1.toList = []
  · rw [if_pos hm, if_pos hm]
  · rw [if_neg hm, if_neg hm]
    simp only [ByteArray.size_append, e1, e2]
    rw [if_pos (by omega), if_pos (by omega)]
    congr 2
    exact ByteArray.ext (Array.toList_inj.1 (by simp only [ByteArray.data_append]; simp))
theorem rt_l0 (acc : List ByteArray) (x : List S83) (ha : acc.length ≤ 1000) (hl : x.length ≤ 1000) (hs : ∀ f ∈ x, f.f0.size ≤ 100000 ∧ f.f1.size ≤ 100002000) : ∀ (d i : Nat), x.length - i = d → i ≤ x.length →
    Ev (fun n => abutmentref51_text.l0 n (acc ++ (x.take i).map fieldLine) x (i : Int)) (acc ++ x.map fieldLine) := by
  intro d
  induction d with
  | zero =>
    intro i hd hi
    rw [List.take_of_length_le (by omega)]
    refine Ev.step (f := fun _ => some (acc ++ x.map fieldLine)) (fun n => ?_) (Ev.now _)
    simp only [abutmentref51_text.l0]
    rw [if_neg (by omega)]
  | succ d ih =>
    intro i hd hi
    have hil : i < x.length := by omega
    have hnext := ih (i + 1) (by omega) (by omega)
    rw [List.take_succ_eq_append_getElem hil, List.map_append, ← List.append_assoc] at hnext
    refine Ev.step (f := fun n => abutmentref51_text.l0 n (acc ++ (x.take i).map fieldLine ++ [fieldLine x[i]]) x ((i + 1 : Nat) : Int)) (fun n => ?_) hnext
    simp only [abutmentref51_text.l0]
    rw [if_pos (by omega), if_pos (by omega), rd_at x i hil, rfield_is (hs _ (List.getElem_mem hil)), Option.bind_some, if_pos (by rw [List.length_append, List.length_map, List.length_take]; omega), w64 (by omega) (by omega)]; rfl
theorem rtext_comes {m t : ByteArray} {mi st : Int} {re : ByteArray} {fs : List S83} (h : okH m t mi st re fs) : Ev (fun n => abutmentref51_text.f n m t mi st re fs) (headLines m t mi st re fs) := by
  have hc := canon_few h.2.1
  unfold abutmentref51_text.f
  refine Ev.bind (rline_comes h) (Ev.bind (rfields_comes fs h.1) ?_)
  have := rt_l0 [headLine m t mi st re] (canonF fs) (by simp) (by omega) (fun f hf => canon_sizes h.1 hf) _ 0 rfl (by omega)
  exact this

theorem rd33 (l : List S33) (i : Nat) (h : i < l.length) : rd_T33 l (i : Int) = l[i] := by unfold rd_T33; rw [Int.toNat_natCast, List.getD_eq_getElem?_getD, List.getElem?_eq_getElem h]; rfl
theorem rh_l0 (L : List S32) (hl : L.length ≤ 2000) (hs : ∀ r ∈ L, 0 ≤ r.f0 ∧ r.f0 ≤ 2 ∧ r.f1.size ≤ 1000000000) : ∀ (d i : Nat), L.length - i = d → i ≤ L.length →
    Ev (fun n => abutmentref51_Heads.l0 n (L.map to33) ((L.take i).map rowText) (i : Int)) (L.map rowText) := by
  intro d
  induction d with
  | zero =>
    intro i hd hi
    rw [List.take_of_length_le (by omega)]
    refine Ev.step (f := fun _ => some (L.map rowText)) (fun n => ?_) (Ev.now _)
    simp only [abutmentref51_Heads.l0]
    rw [if_neg (by rw [List.length_map]; omega)]
  | succ d ih =>
    intro i hd hi
    have hil : i < L.length := by omega
    have hnext := ih (i + 1) (by omega) (by omega)
    rw [List.take_succ_eq_append_getElem hil, List.map_append] at hnext
    obtain ⟨h1, h2, h3⟩ := hs L[i] (List.getElem_mem hil)
    have hrd : rd_T33 (L.map to33) (i : Int) = to33 L[i] := by rw [rd33 _ i (by rw [List.length_map]; exact hil), List.getElem_map]
    have hlen : ((L.take i).map rowText).length < 8796093022208 := by rw [List.length_map, List.length_take]; omega
    refine Ev.step (f := fun n => abutmentref51_Heads.l0 n (L.map to33) ((L.take i).map rowText ++ [rowText L[i]]) ((i + 1 : Nat) : Int)) (fun n => ?_) hnext
    simp only [abutmentref51_Heads.l0]
    rw [if_pos (by rw [List.length_map]; omega), if_pos (by omega), hrd, w64 (by omega) (by omega)]
    have e0 : (to33 L[i]).f0 = L[i].f0 := rfl
    have e1 : (to33 L[i]).f1 = L[i].f1 := rfl
    rw [e0, e1]
    by_cases c0 : L[i].f0 = 0
    · rw [if_pos c0, if_pos (by omega), if_pos hlen, show rowText L[i] = (⟨#[32, 32]⟩ : ByteArray) ++ L[i].f1 by unfold rowText signB; rw [if_pos c0]]; rfl
    · rw [if_neg c0]
      by_cases c1 : L[i].f0 = 1
      · rw [if_pos c1, if_pos (by omega), if_pos hlen, show rowText L[i] = (⟨#[45, 32]⟩ : ByteArray) ++ L[i].f1 by unfold rowText signB; rw [if_neg c0, if_pos c1]]; rfl
      · rw [if_neg c1, if_pos (by omega), if_pos hlen, show rowText L[i] = (⟨#[43, 32]⟩ : ByteArray) ++ L[i].f1 by unfold rowText signB; rw [if_neg c0, if_neg c1]]; rfl
theorem rheads_comes {m t : ByteArray} {mi st : Int} {re : ByteArray} {fs : List S83} {m' t' : ByteArray} {mi' st' : Int} {re' : ByteArray} {fs' : List S83} (h : okH m t mi st re fs) (h' : okH m' t' mi' st' re' fs') :
    Ev (fun n => abutmentref51_Heads.f n m t mi st re fs m' t' mi' st' re' fs') ((linesOf (headLines m t mi st re fs) (headLines m' t' mi' st' re' fs')).map rowText) := by
  have l1 := headLines_len h
  have l2 := headLines_len h'
  have l3 := rows_len _ (headLines m t mi st re fs) (headLines m' t' mi' st' re' fs') rfl
  unfold abutmentref51_Heads.f
  refine Ev.bind (rtext_comes h) (Ev.bind (rtext_comes h') ?_)
  unfold abutmentref51_Lines.f
  rw [if_pos ⟨by omega, by omega⟩]
  exact rh_l0 _ (by omega) (fun r hr => by
    obtain ⟨h1, h2, h3⟩ := rows_of _ _ _ rfl r hr
    refine ⟨h1, h2, ?_⟩
    rcases h3 with h3 | h3
    · have := headLines_size h _ h3; omega
    · have := headLines_size h' _ h3; omega) _ 0 rfl (by omega)

def shortB (m t re : ByteArray) (fs : List S83) : Prop := fewF fs ∧ m.size ≤ 100 ∧ t.size ≤ 500 ∧ re.size ≤ 300
instance (m t re : ByteArray) (fs : List S83) : Decidable (shortB m t re fs) := by unfold shortB; exact inferInstance
theorem short_comes (m t : ByteArray) (mi st : Int) (re : ByteArray) (fs : List S83) : Ev (fun n => abutmentlaw22_Short.f n m t mi st re fs) (decide (shortB m t re fs)) := by
  unfold abutmentlaw22_Short.f
  refine Ev.bind (few10_comes fs) ?_
  by_cases h0 : fewF fs
  · rw [decide_eq_true h0]
    by_cases h1 : m.size ≤ 100
    · by_cases h2 : t.size ≤ 500
      · refine Ev.congr (f := fun _ => some (decide (shortB m t re fs))) (fun n => ?_) (Ev.now _)
        rw [if_pos rfl, if_pos (by omega), if_pos (by omega)]
        congr 1
        refine decide_eq_decide.2 ⟨fun h => ⟨h0, h1, h2, by omega⟩, fun h => by have := h.2.2.2; omega⟩
      · rw [show decide (shortB m t re fs) = false from decide_eq_false (fun h => h2 h.2.2.1)]
        refine Ev.congr (fun n => ?_) (Ev.now _)
        rw [if_pos rfl, if_pos (by omega), if_neg (by omega)]
    · rw [show decide (shortB m t re fs) = false from decide_eq_false (fun h => h1 h.2.1)]
      refine Ev.congr (fun n => ?_) (Ev.now _)
      rw [if_pos rfl, if_neg (by omega)]
  · rw [decide_eq_false h0, show decide (shortB m t re fs) = false from decide_eq_false (fun h => h0 h.1)]
    refine Ev.congr (fun n => ?_) (Ev.now _)
    rw [if_neg (by decide)]
end Go.Proofs.Ytacglolggaobdab.MHd
