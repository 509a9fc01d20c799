/- Plain laws: what the reference's Fields comes to; what canonical fields are like. -/
import Derived.Test.YtacglolggaobdabMNamesC
import Derived.Test.YtacglolggaobdabMTrim
import Derived.Test.YtacglolggaobdabPAllx7
namespace Go.Proofs.Ytacglolggaobdab.MR
open Go.RowKit Go.Proofs.Ytacglolggaobdab.PAll Go.Proofs.Ytacglolggaobdab.Hn Go.Proofs.Ytacglolggaobdab.CF Go.Proofs.Ytacglolggaobdab.MH Go.Proofs.Ytacglolggaobdab.MN Go.Proofs.Ytacglolggaobdab.MF Go.Proofs.YtacglolggaobdabW.PrintWords Go.Proofs.YtacglolggaobdabW.PrintLast Go.Proofs.YtacglolggaobdabW.PrintMore
set_option linter.unusedVariables false
set_option linter.unusedSimpArgs false

theorem sumL_le (M : Nat) : ∀ (V : List ByteArray), (∀ v ∈ V, v.size ≤ M) → sumL V ≤ V.length * M
  | [], _ => by simp [sumL]
  | v :: V, h => by
    have h1 := h v (by simp)
    have h2 := sumL_le M V fun u hu => h u (by simp [hu])
    show v.size + sumL V ≤ _
    rw [List.length_cons, Nat.succ_mul]
    omega
theorem allOf_mem {l : List S83} {nm v : ByteArray} (h : v ∈ allOf l nm) : ∃ x ∈ l, x.f1 = v := by
  unfold allOf at h
  obtain ⟨x, hx, rfl⟩ := List.mem_map.1 h
  exact ⟨x, (List.mem_filter.1 hx).1, rfl⟩
theorem all_sum {l : List S83} (h : okF l) (nm : ByteArray) : (allOf l nm).length ≤ 1000 ∧ (∀ v ∈ allOf l nm, v.size ≤ 100000) ∧ sumL (allOf l nm) ≤ 100000000 := by
  have h1 := allOf_len l nm
  have h2 := h.1
  have h3 : ∀ v ∈ allOf l nm, v.size ≤ 100000 := fun v hv => by
    obtain ⟨x, hx, rfl⟩ := allOf_mem hv
    exact (h.2 x hx).2
  refine ⟨by omega, h3, ?_⟩
  have h4 := sumL_le 100000 _ h3
  have : (allOf l nm).length * 100000 ≤ 1000 * 100000 := Nat.mul_le_mul_right _ (by omega)
  omega
theorem had_all (pre : List S83) (f : S83) : had pre f = decide (0 < (allOf pre f.f0).length) := by
  unfold had allOf
  rw [List.length_map]
  by_cases h : ∃ g ∈ pre, lowL g.f0 = lowL f.f0
  · obtain ⟨g, hg, e⟩ := h
    rw [decide_eq_true (List.length_pos_of_mem (List.mem_filter.2 ⟨hg, decide_eq_true e.symm⟩))]
    exact List.any_eq_true.2 ⟨g, hg, decide_eq_true e⟩
  · have h' : pre.filter (isN f.f0) = [] := List.filter_eq_nil_iff.2 fun g hg hn => h ⟨g, hg, (of_decide_eq_true hn).symm⟩
    rw [h', decide_eq_false (by simp)]
    exact List.any_eq_false.2 fun g hg hn => h ⟨g, hg, of_decide_eq_true hn⟩

theorem trimL_len (L : List UInt8) : (trimL L).length ≤ L.length := by
  unfold trimL
  rw [List.length_reverse]
  have h1 := (List.dropWhile_sublist isBl (l := (L.dropWhile isBl).reverse)).length_le
  have h2 := (List.dropWhile_sublist isBl (l := L)).length_le
  rw [List.length_reverse] at h1
  omega
theorem trimB_size (s : ByteArray) : (trimB s).size ≤ s.size := by
  have := trimL_len s.data.toList
  unfold trimB
  rw [mk_size, size_len s]
  exact this

/-! ### the reference's Fields -/
theorem rf_l1 (l : List S83) (V : List ByteArray) (i : Nat) (hi : i < l.length) (r : List S83) (hnm : l[i].f0.size ≤ 1000000) (hV : V.length ≤ 1000000) (hs : ∀ v ∈ V, v.size ≤ 1000000000) :
    ∀ (d j : Nat) (acc : List S83), V.length - j = d → j ≤ V.length → acc.length + d ≤ 1000000000 →
      Ev (fun n => abutmentref50_Fields.l0 n l (acc ++ (V.drop j).map fun v => ⟨nameOf l[i].f0, trimB v⟩) ((i + 1 : Nat) : Int)) r → l.length ≤ 1000000 →
      Ev (fun n => abutmentref50_Fields.l1 n l acc (i : Int) V (j : Int)) r := by
  intro d
  induction d with
  | zero =>
    intro j acc hd hj ha h hl
    rw [List.drop_eq_nil_of_le (by omega), List.map_nil, List.append_nil] at h
    refine Ev.step (f := fun n => abutmentref50_Fields.l0 n l acc ((i + 1 : Nat) : Int)) (fun n => ?_) h
    simp only [abutmentref50_Fields.l1]
    rw [if_neg (by omega), w64 (by omega) (by omega)]; rfl
  | succ d ih =>
    intro j acc hd hj ha h hl
    have hjl : j < V.length := by omega
    rw [List.drop_eq_getElem_cons hjl, List.map_cons, List.append_cons] at h
    have hnext := ih (j + 1) (acc ++ [⟨nameOf l[i].f0, trimB V[j]⟩]) (by omega) (by omega) (by simp; omega) h hl
    refine Ev.step (f := fun n => (abutmentref50_Name.f n l[i].f0).bind fun a => (abutmentref01_Trim.f n V[j]).bind fun b => abutmentref50_Fields.l1 n l (acc ++ [⟨a, b⟩]) (i : Int) V ((j + 1 : Nat) : Int)) (fun n => ?_) (Ev.bind (rname_comes _ hnm) (Ev.bind (rtrim_comes _ (hs _ (List.getElem_mem _))) hnext))
    simp only [abutmentref50_Fields.l1]
    rw [if_pos (by omega), if_pos (by omega), if_pos (by omega), rd_at l i hi, rd_str V j hjl, w64 (by omega) (by omega)]
    congr 1
    funext a
    rw [if_pos (by omega)]
    congr 1
    funext b
    rw [if_pos (show acc.length < 4398046511104 by omega)]; rfl

theorem rf_l0 (l : List S83) (h : okF l) : ∀ (d i : Nat), l.length - i = d → i ≤ l.length → Ev (fun n => abutmentref50_Fields.l0 n l (cfTo l i) (i : Int)) (canonF l) := by
  intro d
  have hl := h.1
  induction d with
  | zero =>
    intro i hd hi
    obtain rfl : i = l.length := by omega
    refine Ev.step (f := fun _ => some (canonF l)) (fun n => ?_) (Ev.now _)
    simp only [abutmentref50_Fields.l0]
    rw [if_neg (by omega)]; rfl
  | succ d ih =>
    intro i hd hi
    have hil : i < l.length := by omega
    have hx := h.2 l[i] (List.getElem_mem _)
    have hnext := ih (i + 1) (by omega) (by omega)
    rw [cfTo_succ l i hil, had_all] at hnext
    have hlen := cfTo_len l i
    have hlen2 : i * (l.length + 1) ≤ 1000 * 1001 := Nat.mul_le_mul (by omega) (by omega)
    have ok := all_sum h l[i].f0
    refine Ev.step (f := fun n => (abutmentref10_All.f n (l.take i) l[i].f0).bind fun t => if (t.length : Int) > 0 then abutmentref50_Fields.l0 n l (cfTo l i) ((i + 1 : Nat) : Int) else ((abutmentref10_All.f n l l[i].f0).bind fun a => (abutmentref50_Single.f n l[i].f0).bind fun s => if s = true then abutmentref50_Fields.j1 n l (cfTo l i) (i : Int) a else (abutmentref07_Join.f n a).bind fun b => abutmentref50_Fields.j1 n l (cfTo l i) (i : Int) [b])) (fun n => ?_) ?_
    · simp only [abutmentref50_Fields.l0]
      rw [if_pos (by omega), if_pos (by omega), if_pos (by omega), rd_at l i hil, w64 (by omega) (by omega), Int.toNat_natCast]; rfl
    · refine Ev.bind (all_comes (l.take i) l[i].f0 (by rw [List.length_take]; omega) (fun x hx' => by have := (h.2 x (List.mem_of_mem_take hx')).1; omega) (by omega)) ?_
      by_cases hh : 0 < (allOf (l.take i) l[i].f0).length
      · rw [decide_eq_true hh, if_pos rfl, List.append_nil] at hnext
        refine Ev.congr (fun n => ?_) hnext
        rw [if_pos (by omega)]
      · rw [decide_eq_false hh, if_neg (by decide)] at hnext
        refine Ev.congr (f := fun n => (abutmentref10_All.f n l l[i].f0).bind fun a => (abutmentref50_Single.f n l[i].f0).bind fun s => if s = true then abutmentref50_Fields.j1 n l (cfTo l i) (i : Int) a else (abutmentref07_Join.f n a).bind fun b => abutmentref50_Fields.j1 n l (cfTo l i) (i : Int) [b]) (fun n => by rw [if_neg (by omega)]) ?_
        refine Ev.bind (all_comes l l[i].f0 (by omega) (fun x hx' => by have := (h.2 x hx').1; omega) (by omega)) (Ev.bind (rsingle_comes _ (by omega)) ?_)
        unfold emit at hnext
        cases hsg : singleB l[i].f0 with
        | true =>
          rw [hsg, if_pos rfl] at hnext
          refine Ev.congr (f := fun n => abutmentref50_Fields.j1 n l (cfTo l i) (i : Int) (allOf l l[i].f0)) (fun n => by rw [if_pos rfl]) ?_
          refine Ev.step (f := fun n => abutmentref50_Fields.l1 n l (cfTo l i) (i : Int) (allOf l l[i].f0) ((0 : Nat) : Int)) (fun n => by simp only [abutmentref50_Fields.j1]; rfl) ?_
          exact rf_l1 l _ i hil _ (by omega) (by omega) (fun v hv => by have := ok.2.1 v hv; omega) _ 0 _ rfl (by omega) (by omega) (by rw [List.drop_zero]; exact hnext) (by omega)
        | false =>
          rw [hsg, if_neg (by decide)] at hnext
          refine Ev.congr (f := fun n => (abutmentref07_Join.f n (allOf l l[i].f0)).bind fun b => abutmentref50_Fields.j1 n l (cfTo l i) (i : Int) [b]) (fun n => by rw [if_neg (by decide)]) ?_
          refine Ev.bind (join_comes _ (by omega) (by omega)) ?_
          refine Ev.step (f := fun n => abutmentref50_Fields.l1 n l (cfTo l i) (i : Int) [⟨(joinL (allOf l l[i].f0)).toArray⟩] ((0 : Nat) : Int)) (fun n => by simp only [abutmentref50_Fields.j1]; rfl) ?_
          have hj := joinL_len (allOf l l[i].f0)
          exact rf_l1 l _ i hil _ (by omega) (by simp) (fun v hv => by
            obtain rfl := List.mem_singleton.1 hv
            rw [mk_size]; omega) 1 0 _ rfl (by simp) (by omega) hnext (by omega)
theorem rfields_comes (l : List S83) (h : okF l) : Ev (fun n => abutmentref50_Fields.f n l) (canonF l) := rf_l0 l h _ 0 rfl (by omega)

theorem okF_few {l : List S83} (h : fewF l) : okF l := ⟨by have := h.1; omega, fun x hx => by have := h.2 x hx; exact ⟨by have := this.1; omega, by have := this.2; omega⟩⟩

/-! ### what canonical fields are like -/
theorem canon_mem {l : List S83} (h : okF l) : ∀ (i : Nat) (f : S83), f ∈ cfTo l i → ∃ g ∈ l, f.f0 = nameOf g.f0 ∧ f.f1.size ≤ 100002000
  | 0, f, hf => by simp [cfTo] at hf
  | i + 1, f, hf => by
    rw [cfTo] at hf
    split at hf
    · rename_i hi
      rcases List.mem_append.1 hf with hf | hf
      · exact canon_mem h i f hf
      · split at hf
        · cases hf
        · have ok := all_sum h l[i].f0
          unfold emit at hf
          split at hf
          · obtain ⟨v, hv, rfl⟩ := List.mem_map.1 hf
            exact ⟨l[i], List.getElem_mem _, rfl, by have := ok.2.1 v hv; have := trimB_size v; show (trimB v).size ≤ _; omega⟩
          · obtain rfl := List.mem_singleton.1 hf
            refine ⟨l[i], List.getElem_mem _, rfl, ?_⟩
            have h1 := trimB_size ⟨(joinL (allOf l l[i].f0)).toArray⟩
            have h2 := joinL_len (allOf l l[i].f0)
            have h3 := mk_size (joinL (allOf l l[i].f0))
            show (trimB _).size ≤ _
            omega
    · exact canon_mem h i f hf
theorem canon_named {l : List S83} (h : okF l) {f : S83} (hf : f ∈ canonF l) : nameOf f.f0 = f.f0 := by
  obtain ⟨g, _, e, _⟩ := canon_mem h _ f hf
  rw [e, name_name]
theorem canon_sizes {l : List S83} (h : okF l) {f : S83} (hf : f ∈ canonF l) : f.f0.size ≤ 100000 ∧ f.f1.size ≤ 100002000 := by
  obtain ⟨g, hg, e, hs⟩ := canon_mem h _ f hf
  exact ⟨by rw [e, cap_size]; exact (h.2 g hg).1, hs⟩
theorem canon_len {l : List S83} (h : l.length ≤ 40) : (canonF l).length ≤ 1640 := by
  have h1 := cfTo_len l l.length
  have h3 : l.length * (l.length + 1) ≤ 40 * 41 := Nat.mul_le_mul h (by omega)
  show (cfTo l l.length).length ≤ _
  omega

end Go.Proofs.Ytacglolggaobdab.MR
