/- Plain laws: what the reference's Fields, Same and Lines come to; two lists of canonical fields have one stable order just where each has the other's fields of each name. -/
import Derived.Test.YtacglolggaobdabMNames
import Derived.Test.YtacglolggaobdabMTrim
import Derived.Test.YtacglolggaobdabGcanonsorted
import Derived.Test.YtacglolggaobdabPAllx5
import Derived.Test.YtacglolggaobdabPAllx6
import Derived.Test.YtacglolggaobdabPAllx7
import Derived.Test.YtacglolggaobdabPAllx6
import Derived.Test.YtacglolggaobdabPAllx3
namespace Go.Proofs.Ytacglolggaobdab.MR
open Go.RowKit Go.Sort Go.Proofs.Ytacglolggaobdab.PAll Go.Proofs.Ytacglolggaobdab.Hn Go.Proofs.Ytacglolggaobdab.CF Go.Proofs.Ytacglolggaobdab.MH Go.Proofs.Ytacglolggaobdab.MN Go.Proofs.Ytacglolggaobdab.MF Go.Proofs.Ytacglolggaobdab.St Go.Proofs.YtacglolggaobdabW.PrintWords Go.Proofs.YtacglolggaobdabW.PrintLast Go.Proofs.YtacglolggaobdabW.PrintMore
set_option linter.unusedVariables false
set_option linter.unusedSimpArgs false

theorem sumL_le (M : Nat) : ∀ (V : List ByteArray), (∀ v ∈ V, v.size ≤ M) → sumL V ≤ V.length * M
  | [], _ => by simp [sumL]
  | v :: V, h => by
    have h1 := h v (by simp)
    have h2 := sumL_le M V fun u hu => h u (by simp [hu])
    show v.size + sumL V ≤ _
    rw [List.length_cons, Nat.succ_mul]
    omega
theorem allOf_mem {l : List S83} {nm v : ByteArray} (h : v ∈ allOf l nm) : ∃ x ∈ l, x.f1 = v := by
  unfold allOf at h
  obtain ⟨x, hx, rfl⟩ := List.mem_map.1 h
  exact ⟨x, (List.mem_filter.1 hx).1, rfl⟩
theorem all_sum {l : List S83} (h : okF l) (nm : ByteArray) : (allOf l nm).length ≤ 1000 ∧ (∀ v ∈ allOf l nm, v.size ≤ 100000) ∧ sumL (allOf l nm) ≤ 100000000 := by
  have h1 := allOf_len l nm
  have h2 := h.1
  have h3 : ∀ v ∈ allOf l nm, v.size ≤ 100000 := fun v hv => by
    obtain ⟨x, hx, rfl⟩ := allOf_mem hv
    exact (h.2 x hx).2
  refine ⟨by omega, h3, ?_⟩
  have h4 := sumL_le 100000 _ h3
  have : (allOf l nm).length * 100000 ≤ 1000 * 100000 := Nat.mul_le_mul_right _ (by omega)
  omega
theorem had_all (pre : List S83) (f : S83) : had pre f = decide (0 < (allOf pre f.f0).length) := by
  unfold had allOf
  rw [List.length_map]
  by_cases h : ∃ g ∈ pre, lowL g.f0 = lowL f.f0
  · obtain ⟨g, hg, e⟩ := h
    rw [decide_eq_true (List.length_pos_of_mem (List.mem_filter.2 ⟨hg, decide_eq_true e.symm⟩))]
    exact List.any_eq_true.2 ⟨g, hg, decide_eq_true e⟩
  · have h' : pre.filter (isN f.f0) = [] := List.filter_eq_nil_iff.2 fun g hg hn => h ⟨g, hg, (of_decide_eq_true hn).symm⟩
    rw [h', decide_eq_false (by simp)]
    exact List.any_eq_false.2 fun g hg hn => h ⟨g, hg, of_decide_eq_true hn⟩

theorem trimL_len (L : List UInt8) : (trimL L).length ≤ L.length := by
  unfold trimL
  rw [List.length_reverse]
  have h1 := (List.dropWhile_sublist isBl (l := (L.dropWhile isBl).reverse)).length_le
  have h2 := (List.dropWhile_sublist isBl (l := L)).length_le
  rw [List.length_reverse] at h1
  omega
theorem trimB_size (s : ByteArray) : (trimB s).size ≤ s.size := by
  have := trimL_len s.data.toList
  unfold trimB
  rw [mk_size, size_len s]
  exact this

/-! ### the reference's Fields -/
theorem rf_l1 (l : List S83) (V : List ByteArray) (i : Nat) (hi : i < l.length) (r : List S83) (hnm : l[i].f0.size ≤ 1000000) (hV : V.length ≤ 1000000) (hs : ∀ v ∈ V, v.size ≤ 1000000000) :
    ∀ (d j : Nat) (acc : List S83), V.length - j = d → j ≤ V.length → acc.length + d ≤ 1000000000 →
      Ev (fun n => abutmentref50_Fields.l0 n l (acc ++ (V.drop j).map fun v => ⟨nameOf l[i].f0, trimB v⟩) ((i + 1 : Nat) : Int)) r → l.length ≤ 1000000 →
      Ev (fun n => abutmentref50_Fields.l1 n l acc (i : Int) V (j : Int)) r := by
  intro d
  induction d with
  | zero =>
    intro j acc hd hj ha h hl
    rw [List.drop_eq_nil_of_le (by omega), List.map_nil, List.append_nil] at h
    refine Ev.step (f := fun n => abutmentref50_Fields.l0 n l acc ((i + 1 : Nat) : Int)) (fun n => ?_) h
    simp only [abutmentref50_Fields.l1]
    rw [if_neg (by omega), w64 (by omega) (by omega)]; rfl
  | succ d ih =>
    intro j acc hd hj ha h hl
    have hjl : j < V.length := by omega
    rw [List.drop_eq_getElem_cons hjl, List.map_cons, List.append_cons] at h
    have hnext := ih (j + 1) (acc ++ [⟨nameOf l[i].f0, trimB V[j]⟩]) (by omega) (by omega) (by simp; omega) h hl
    refine Ev.step (f := fun n => (abutmentref50_Name.f n l[i].f0).bind fun a => (abutmentref01_Trim.f n V[j]).bind fun b => abutmentref50_Fields.l1 n l (acc ++ [⟨a, b⟩]) (i : Int) V ((j + 1 : Nat) : Int)) (fun n => ?_) (Ev.bind (rname_comes _ hnm) (Ev.bind (rtrim_comes _ (hs _ (List.getElem_mem _))) hnext))
    simp only [abutmentref50_Fields.l1]
    rw [if_pos (by omega), if_pos (by omega), if_pos (by omega), rd_at l i hi, rd_str V j hjl, w64 (by omega) (by omega)]
    congr 1
    funext a
    rw [if_pos (by omega)]
    congr 1
    funext b
    rw [if_pos (show acc.length < 4398046511104 by omega)]; rfl

theorem rf_l0 (l : List S83) (h : okF l) : ∀ (d i : Nat), l.length - i = d → i ≤ l.length → Ev (fun n => abutmentref50_Fields.l0 n l (cfTo l i) (i : Int)) (canonF l) := by
  intro d
  have hl := h.1
  induction d with
  | zero =>
    intro i hd hi
    obtain rfl : i = l.length := by omega
    refine Ev.step (f := fun _ => some (canonF l)) (fun n => ?_) (Ev.now _)
    simp only [abutmentref50_Fields.l0]
    rw [if_neg (by omega)]; rfl
  | succ d ih =>
    intro i hd hi
    have hil : i < l.length := by omega
    have hx := h.2 l[i] (List.getElem_mem _)
    have hnext := ih (i + 1) (by omega) (by omega)
    rw [cfTo_succ l i hil, had_all] at hnext
    have hlen := cfTo_len l i
    have hlen2 : i * (l.length + 1) ≤ 1000 * 1001 := Nat.mul_le_mul (by omega) (by omega)
    have ok := all_sum h l[i].f0
    refine Ev.step (f := fun n => (abutmentref10_All.f n (l.take i) l[i].f0).bind fun t => if (t.length : Int) > 0 then abutmentref50_Fields.l0 n l (cfTo l i) ((i + 1 : Nat) : Int) else ((abutmentref10_All.f n l l[i].f0).bind fun a => (abutmentref50_Single.f n l[i].f0).bind fun s => if s = true then abutmentref50_Fields.j1 n l (cfTo l i) (i : Int) a else (abutmentref07_Join.f n a).bind fun b => abutmentref50_Fields.j1 n l (cfTo l i) (i : Int) [b])) (fun n => ?_) ?_
    · simp only [abutmentref50_Fields.l0]
      rw [if_pos (by omega), if_pos (by omega), if_pos (by omega), rd_at l i hil, w64 (by omega) (by omega), Int.toNat_natCast]; rfl
    · refine Ev.bind (all_comes (l.take i) l[i].f0 (by rw [List.length_take]; omega) (fun x hx' => by have := (h.2 x (List.mem_of_mem_take hx')).1; omega) (by omega)) ?_
      by_cases hh : 0 < (allOf (l.take i) l[i].f0).length
      · rw [decide_eq_true hh, if_pos rfl, List.append_nil] at hnext
        refine Ev.congr (fun n => ?_) hnext
        rw [if_pos (by omega)]
      · rw [decide_eq_false hh, if_neg (by decide)] at hnext
        refine Ev.congr (f := fun n => (abutmentref10_All.f n l l[i].f0).bind fun a => (abutmentref50_Single.f n l[i].f0).bind fun s => if s = true then abutmentref50_Fields.j1 n l (cfTo l i) (i : Int) a else (abutmentref07_Join.f n a).bind fun b => abutmentref50_Fields.j1 n l (cfTo l i) (i : Int) [b]) (fun n => by rw [if_neg (by omega)]) ?_
        refine Ev.bind (all_comes l l[i].f0 (by omega) (fun x hx' => by have := (h.2 x hx').1; omega) (by omega)) (Ev.bind (rsingle_comes _ (by omega)) ?_)
        unfold emit at hnext
        cases hsg : singleB l[i].f0 with
        | true =>
          rw [hsg, if_pos rfl] at hnext
          refine Ev.congr (f := fun n => abutmentref50_Fields.j1 n l (cfTo l i) (i : Int) (allOf l l[i].f0)) (fun n => by rw [if_pos rfl]) ?_
          refine Ev.step (f := fun n => abutmentref50_Fields.l1 n l (cfTo l i) (i : Int) (allOf l l[i].f0) ((0 : Nat) : Int)) (fun n => by simp only [abutmentref50_Fields.j1]; rfl) ?_
          exact rf_l1 l _ i hil _ (by omega) (by omega) (fun v hv => by have := ok.2.1 v hv; omega) _ 0 _ rfl (by omega) (by omega) (by rw [List.drop_zero]; exact hnext) (by omega)
        | false =>
          rw [hsg, if_neg (by decide)] at hnext
          refine Ev.congr (f := fun n => (abutmentref07_Join.f n (allOf l l[i].f0)).bind fun b => abutmentref50_Fields.j1 n l (cfTo l i) (i : Int) [b]) (fun n => by rw [if_neg (by decide)]) ?_
          refine Ev.bind (join_comes _ (by omega) (by omega)) ?_
          refine Ev.step (f := fun n => abutmentref50_Fields.l1 n l (cfTo l i) (i : Int) [⟨(joinL (allOf l l[i].f0)).toArray⟩] ((0 : Nat) : Int)) (fun n => by simp only [abutmentref50_Fields.j1]; rfl) ?_
          have hj := joinL_len (allOf l l[i].f0)
          exact rf_l1 l _ i hil _ (by omega) (by simp) (fun v hv => by
            obtain rfl := List.mem_singleton.1 hv
            rw [mk_size]; omega) 1 0 _ rfl (by simp) (by omega) hnext (by omega)
theorem rfields_comes (l : List S83) (h : okF l) : Ev (fun n => abutmentref50_Fields.f n l) (canonF l) := rf_l0 l h _ 0 rfl (by omega)

theorem okF_few {l : List S83} (h : fewF l) : okF l := ⟨by have := h.1; omega, fun x hx => by have := h.2 x hx; exact ⟨by have := this.1; omega, by have := this.2; omega⟩⟩

/-! ### what canonical fields are like -/
theorem canon_mem {l : List S83} (h : okF l) : ∀ (i : Nat) (f : S83), f ∈ cfTo l i → ∃ g ∈ l, f.f0 = nameOf g.f0 ∧ f.f1.size ≤ 100002000
  | 0, f, hf => by simp [cfTo] at hf
  | i + 1, f, hf => by
    rw [cfTo] at hf
    split at hf
    · rename_i hi
      rcases List.mem_append.1 hf with hf | hf
      · exact canon_mem h i f hf
      · split at hf
        · cases hf
        · have ok := all_sum h l[i].f0
          unfold emit at hf
          split at hf
          · obtain ⟨v, hv, rfl⟩ := List.mem_map.1 hf
            exact ⟨l[i], List.getElem_mem _, rfl, by have := ok.2.1 v hv; have := trimB_size v; show (trimB v).size ≤ _; omega⟩
          · obtain rfl := List.mem_singleton.1 hf
            refine ⟨l[i], List.getElem_mem _, rfl, ?_⟩
            have h1 := trimB_size ⟨(joinL (allOf l l[i].f0)).toArray⟩
            have h2 := joinL_len (allOf l l[i].f0)
            have h3 := mk_size (joinL (allOf l l[i].f0))
            show (trimB _).size ≤ _
            omega
    · exact canon_mem h i f hf
theorem canon_named {l : List S83} (h : okF l) {f : S83} (hf : f ∈ canonF l) : nameOf f.f0 = f.f0 := by
  obtain ⟨g, _, e, _⟩ := canon_mem h _ f hf
  rw [e, name_name]
theorem canon_sizes {l : List S83} (h : okF l) {f : S83} (hf : f ∈ canonF l) : f.f0.size ≤ 100000 ∧ f.f1.size ≤ 100002000 := by
  obtain ⟨g, hg, e, hs⟩ := canon_mem h _ f hf
  exact ⟨by rw [e, cap_size]; exact (h.2 g hg).1, hs⟩
theorem canon_len {l : List S83} (h : l.length ≤ 40) : (canonF l).length ≤ 1640 := by
  have h1 := cfTo_len l l.length
  have h3 : l.length * (l.length + 1) ≤ 40 * 41 := Nat.mul_le_mul h (by omega)
  show (cfTo l l.length).length ≤ _
  omega

/-! ### one stable order -/
def Named (l : List S83) : Prop := ∀ f ∈ l, nameOf f.f0 = f.f0
theorem eqv_name (p z : S83) : eqv (ltOf cfF) p z = decide (p.f0 = z.f0) := by
  by_cases h : p.f0 = z.f0
  · rw [decide_eq_true h]
    simp [eqv, ltOf, cfF, h, cb_self]
  · rw [decide_eq_false h]
    cases he : eqv (ltOf cfF) p z with
    | false => rfl
    | true =>
      simp only [eqv, ltOf, cfF, Bool.and_eq_true, Bool.not_eq_true'] at he
      have := cb_eq _ _ (of_decide_eq_false he.1) (of_decide_eq_false he.2)
      exact absurd (ByteArray.ext (Array.toList_inj.1 this)) h
theorem isN_name {p z : S83} (hp : nameOf p.f0 = p.f0) (hz : nameOf z.f0 = z.f0) : isN p.f0 z = eqv (ltOf cfF) p z := by
  rw [eqv_name]
  refine decide_eq_decide.2 ⟨fun h => ?_, fun h => by rw [h]⟩
  rw [← hp, ← hz]
  exact nameOf_low h
theorem all_filter {x : List S83} (hx : Named x) {p : S83} (hp : nameOf p.f0 = p.f0) : allOf x p.f0 = (x.filter (eqv (ltOf cfF) p)).map (·.f1) := by
  unfold allOf
  congr 1
  exact List.filter_congr fun z hz => isN_name hp (hx z hz)
theorem values_eq {p : S83} : ∀ {a b : List S83}, (∀ z ∈ a, z.f0 = p.f0) → (∀ z ∈ b, z.f0 = p.f0) → a.map (·.f1) = b.map (·.f1) → a = b
  | [], [], _, _, _ => rfl
  | [], _ :: _, _, _, h => by cases h
  | _ :: _, [], _, _, h => by cases h
  | x :: a, y :: b, h1, h2, h => by
    have h3 := List.cons.inj h
    have e0 : x.f0 = y.f0 := (h1 x (by simp)).trans (h2 y (by simp)).symm
    have e : x = y := by
      cases x; cases y
      simp only at e0
      have e1 := h3.1
      simp only at e1
      rw [e0, e1]
    rw [e, values_eq (fun z hz => h1 z (by simp [hz])) (fun z hz => h2 z (by simp [hz])) h3.2]
theorem filt_named {x : List S83} {p : S83} : ∀ z ∈ x.filter (eqv (ltOf cfF) p), z.f0 = p.f0 := fun z hz => by
  have := (List.mem_filter.1 hz).2
  rw [eqv_name] at this
  exact (of_decide_eq_true this).symm

def SameEach (x y : List S83) : Prop := x.length = y.length ∧ ∀ f ∈ x, allOf x f.f0 = allOf y f.f0
theorem isort_inj (x y : List S83) : isort (ltOf cfF) x = isort (ltOf cfF) y ↔ ∀ p, x.filter (eqv (ltOf cfF) p) = y.filter (eqv (ltOf cfF) p) :=
  ⟨fun h p => by rw [← isort_filter swoF p x, h, isort_filter swoF], fun h => sorted_eq swoF _ _ (isort_sorted swoF _) (isort_sorted swoF _) fun p => by rw [isort_filter swoF, isort_filter swoF, h p]⟩
theorem same_each {x y : List S83} (hx : Named x) (hy : Named y) : SameEach x y ↔ isort (ltOf cfF) x = isort (ltOf cfF) y := by
  constructor
  · rintro ⟨hl, h⟩
    -- y's fields of x's names
    have key : ∀ p ∈ x, x.filter (eqv (ltOf cfF) p) = y.filter (eqv (ltOf cfF) p) := fun p hp => by
      have := h p hp
      rw [all_filter hx (hx p hp), all_filter hy (hx p hp)] at this
      exact values_eq filt_named filt_named this
    have e1 : isort (ltOf cfF) (y.filter fun z => x.any fun f => eqv (ltOf cfF) f z) = isort (ltOf cfF) x := by
      rw [isort_inj]
      intro p
      rw [List.filter_filter]
      by_cases hp : ∃ f ∈ x, eqv (ltOf cfF) f p = true
      · obtain ⟨f, hf, hfp⟩ := hp
        have hn : f.f0 = p.f0 := by rw [eqv_name] at hfp; exact of_decide_eq_true hfp
        have hk := key f hf
        have hc : ∀ z, eqv (ltOf cfF) p z = eqv (ltOf cfF) f z := fun z => by rw [eqv_name, eqv_name, hn]
        have hl : x.filter (eqv (ltOf cfF) p) = x.filter (eqv (ltOf cfF) f) := List.filter_congr fun z _ => hc z
        rw [hl, hk]
        refine List.filter_congr fun z _ => ?_
        rw [hc z]
        cases hz : eqv (ltOf cfF) f z with
        | false => simp
        | true => simp only [Bool.true_and]; exact List.any_eq_true.2 ⟨f, hf, hz⟩
      · rw [List.filter_eq_nil_iff.2 fun z hz hh => ?_, List.filter_eq_nil_iff.2 fun z hz hh => ?_]
        · exact hp ⟨z, hz, by rw [eqv_name] at hh ⊢; exact decide_eq_true (of_decide_eq_true hh).symm⟩
        · simp only [Bool.and_eq_true] at hh
          obtain ⟨f, hf, hfz⟩ := List.any_eq_true.1 hh.2
          refine hp ⟨f, hf, ?_⟩
          have h1 := hh.1
          rw [eqv_name] at h1 hfz ⊢
          exact decide_eq_true ((of_decide_eq_true hfz).trans (of_decide_eq_true h1).symm)
    have e2 := congrArg List.length e1
    rw [isort_length, isort_length, hl] at e2
    have e3 : (y.filter fun z => x.any fun f => eqv (ltOf cfF) f z) = y := List.filter_eq_self.2 (List.length_filter_eq_length_iff.1 e2)
    rw [e3] at e1
    exact e1.symm
  · intro h
    refine ⟨by have := congrArg List.length h; rwa [isort_length, isort_length] at this, fun f hf => ?_⟩
    rw [all_filter hx (hx f hf), all_filter hy (hx f hf), (isort_inj x y).1 h f]

/-! ### Same -/
instance (x y : List S83) : Decidable (SameEach x y) := by unfold SameEach; exact inferInstance
theorem rsame_l0 (x y : List S83) (hl : x.length ≤ 1640) (hly : y.length ≤ 1640) (hx : ∀ f ∈ x, f.f0.size ≤ 100000) (hy : ∀ f ∈ y, f.f0.size ≤ 100000) : ∀ (d i : Nat), x.length - i = d → i ≤ x.length →
    Ev (fun n => abutmentref50_Same.l0 n x y (i : Int)) (decide (∀ f ∈ x.drop i, allOf x f.f0 = allOf y f.f0)) := by
  intro d
  induction d with
  | zero =>
    intro i hd hi
    rw [List.drop_eq_nil_of_le (by omega), decide_eq_true (by simp)]
    refine Ev.step (f := fun _ => some true) (fun n => ?_) (Ev.now _)
    simp only [abutmentref50_Same.l0]
    rw [if_neg (by omega)]
  | succ d ih =>
    intro i hd hi
    have hil : i < x.length := by omega
    have hnext := ih (i + 1) (by omega) (by omega)
    have hxi := hx _ (List.getElem_mem hil)
    refine Ev.step (f := fun n => (abutmentref10_All.f n x x[i].f0).bind fun a => (abutmentref10_All.f n y x[i].f0).bind fun b => (abutmentref01_Same.f n a b).bind fun t => if t = true then abutmentref50_Same.l0 n x y ((i + 1 : Nat) : Int) else some false) (fun n => ?_) ?_
    · simp only [abutmentref50_Same.l0]
      rw [if_pos (by omega), if_pos (by omega), rd_at x i hil, w64 (by omega) (by omega)]; rfl
    · have hal := allOf_len x x[i].f0
      refine Ev.bind (all_comes x _ (by omega) (fun f hf => by have := hx f hf; omega) (by omega)) (Ev.bind (all_comes y _ (by omega) (fun f hf => by have := hy f hf; omega) (by omega)) (Ev.bind (same01_comes _ _ (by omega)) ?_))
      have hdr := List.drop_eq_getElem_cons hil
      obtain ⟨f0, hf0⟩ : ∃ f, f = x[i] := ⟨_, rfl⟩
      rw [← hf0] at hdr ⊢
      rw [hdr]
      by_cases he : allOf x f0.f0 = allOf y f0.f0
      · rw [decide_eq_true he]
        rw [decide_eq_decide.2 (show (∀ f ∈ f0 :: x.drop (i + 1), allOf x f.f0 = allOf y f.f0) ↔ (∀ f ∈ x.drop (i + 1), allOf x f.f0 = allOf y f.f0) from ⟨fun h f hf => h f (List.mem_cons_of_mem _ hf), fun h f hf => by
          rcases List.mem_cons.1 hf with rfl | hf
          · exact he
          · exact h f hf⟩)]
        exact Ev.congr (fun n => by rw [if_pos rfl]) hnext
      · rw [decide_eq_false he, decide_eq_false (fun h => he (h _ (List.mem_cons_self ..)))]
        exact Ev.congr (fun n => by rw [if_neg (by decide)]) (Ev.now _)
theorem rsame_comes (a b : List S83) (ha : okF a) (hb : okF b) (hla : a.length ≤ 40) (hlb : b.length ≤ 40) : Ev (fun n => abutmentref50_Same.f n a b) (decide (isort (ltOf cfF) (canonF a) = isort (ltOf cfF) (canonF b))) := by
  have la := canon_len hla
  have lb := canon_len hlb
  rw [show decide (isort (ltOf cfF) (canonF a) = isort (ltOf cfF) (canonF b)) = decide (SameEach (canonF a) (canonF b)) from decide_eq_decide.2 (same_each (fun f hf => canon_named ha hf) (fun f hf => canon_named hb hf)).symm]
  unfold abutmentref50_Same.f
  refine Ev.bind (rfields_comes a ha) (Ev.bind (rfields_comes b hb) ?_)
  by_cases hl : (canonF a).length = (canonF b).length
  · have := rsame_l0 (canonF a) (canonF b) la lb (fun f hf => (canon_sizes ha hf).1) (fun f hf => (canon_sizes hb hf).1) _ 0 rfl (by omega)
    rw [List.drop_zero] at this
    rw [show decide (SameEach (canonF a) (canonF b)) = decide (∀ f ∈ canonF a, allOf (canonF a) f.f0 = allOf (canonF b) f.f0) from decide_eq_decide.2 (by simp [SameEach, hl])]
    exact Ev.congr (fun n => by rw [if_pos (by omega)]; rfl) this
  · rw [decide_eq_false (fun h => hl h.1)]
    exact Ev.congr (fun n => by rw [if_neg (by omega)]) (Ev.now _)

theorem eq76_l0 (a b : List S83) (hl : a.length = b.length) (hm : a.length ≤ 1640) : ∀ (d i : Nat), a.length - i = d → i ≤ a.length → Ev (fun n => api_Field_76.l0 n a b (a.length : Int) (i : Int)) (decide (a.drop i = b.drop i)) := by
  intro d
  induction d with
  | zero =>
    intro i hd hi
    rw [List.drop_eq_nil_of_le (by omega), List.drop_eq_nil_of_le (by omega), decide_eq_true rfl]
    refine Ev.step (f := fun _ => some true) (fun n => ?_) (Ev.now _)
    simp only [api_Field_76.l0]
    rw [if_neg (by omega)]
  | succ d ih =>
    intro i hd hi
    have hia : i < a.length := by omega
    have hib : i < b.length := by omega
    have hnext := ih (i + 1) (by omega) (by omega)
    rw [List.drop_eq_getElem_cons hia, List.drop_eq_getElem_cons hib]
    by_cases he : a[i] = b[i]
    · rw [show decide (a[i] :: a.drop (i + 1) = b[i] :: b.drop (i + 1)) = decide (a.drop (i + 1) = b.drop (i + 1)) from decide_eq_decide.2 ⟨fun h => (List.cons.inj h).2, fun h => by rw [he, h]⟩]
      refine Ev.step (f := fun n => api_Field_76.l0 n a b (a.length : Int) ((i + 1 : Nat) : Int)) (fun n => ?_) hnext
      simp only [api_Field_76.l0]
      rw [if_pos (by omega), if_pos (by omega), if_pos (by omega), if_pos (by omega), rd_at a i hia, rd_at b i hib, ne_field, decide_eq_true he, if_neg (by decide), w64 (by omega) (by omega)]; rfl
    · rw [decide_eq_false (fun h => he (List.cons.inj h).1)]
      refine Ev.step (f := fun _ => some false) (fun n => ?_) (Ev.now _)
      simp only [api_Field_76.l0]
      rw [if_pos (by omega), if_pos (by omega), if_pos (by omega), if_pos (by omega), rd_at a i hia, rd_at b i hib, ne_field, decide_eq_false he, if_pos (by decide)]
theorem eq76_comes (a b : List S83) (hm : a.length ≤ 1640) : Ev (fun n => api_Field_76.f n a b) (decide (a = b)) := by
  unfold api_Field_76.f
  by_cases hl : a.length = b.length
  · have := eq76_l0 a b hl hm _ 0 rfl (by omega)
    rw [List.drop_zero, List.drop_zero] at this
    refine Ev.congr (fun n => ?_) this
    rw [if_pos (by omega)]; rfl
  · rw [decide_eq_false (fun h => hl (by rw [h]))]
    refine Ev.congr (fun n => ?_) (Ev.now _)
    rw [if_neg (by omega)]
theorem same_comes (a b : List S83) (ha : okF a) (hb : okF b) (hla : a.length ≤ 40) (hlb : b.length ≤ 40) : Ev (fun n => canon_Same.f n a b) (decide (isort (ltOf cfF) (canonF a) = isort (ltOf cfF) (canonF b))) := by
  have la := canon_len hla
  unfold canon_Same.f canon_sorted.f
  rw [if_pos ha, if_pos hb]
  exact Ev.congr (f := fun n => (api_Field_76.f n (isort (ltOf cfF) (canonF a)) (isort (ltOf cfF) (canonF b))).bind fun t => some t) (fun n => rfl) (Ev.bind (eq76_comes _ _ (by rw [isort_length]; exact la)) (Ev.now _))

/-! ### Lines -/
def lineOf (f : S83) : ByteArray := (f.f0 ++ ⟨#[58, 32]⟩) ++ f.f1
theorem line_size (f : S83) (h : f.f0.size ≤ 100000 ∧ f.f1.size ≤ 100002000) : f.f0.size + 2 ≤ 9223372036854775807 ∧ (f.f0 ++ (⟨#[58, 32]⟩ : ByteArray)).size + f.f1.size ≤ 9223372036854775807 := by
  rw [ByteArray.size_append]
  have : (⟨#[58, 32]⟩ : ByteArray).size = 2 := rfl
  omega
theorem lines_l0 (x : List S83) (hl : x.length ≤ 1640) (hs : ∀ f ∈ x, f.f0.size ≤ 100000 ∧ f.f1.size ≤ 100002000) : ∀ (d i : Nat), x.length - i = d → i ≤ x.length →
    Ev (fun n => canon_Lines.l0 n ((x.take i).map lineOf) x (x.length : Int) (i : Int)) (x.map lineOf) := by
  intro d
  induction d with
  | zero =>
    intro i hd hi
    rw [List.take_of_length_le (by omega)]
    refine Ev.step (f := fun _ => some (x.map lineOf)) (fun n => ?_) (Ev.now _)
    simp only [canon_Lines.l0]
    rw [if_neg (by omega)]
  | succ d ih =>
    intro i hd hi
    have hil : i < x.length := by omega
    have hnext := ih (i + 1) (by omega) (by omega)
    rw [List.take_succ_eq_append_getElem hil, List.map_append] at hnext
    obtain ⟨h1, h2⟩ := line_size x[i] (hs _ (List.getElem_mem hil))
    refine Ev.step (f := fun n => canon_Lines.l0 n ((x.take i).map lineOf ++ [lineOf x[i]]) x (x.length : Int) ((i + 1 : Nat) : Int)) (fun n => ?_) hnext
    simp only [canon_Lines.l0]
    rw [if_pos (by omega), if_pos (by omega), if_pos (by omega), rd_at x i hil, if_pos h1, if_pos h2, if_pos (by rw [List.length_map, List.length_take]; omega), w64 (by omega) (by omega)]; rfl
theorem lines_comes (l : List S83) (h : okF l) (hl : l.length ≤ 40) : Ev (fun n => canon_Lines.f n l) ((canonF l).map lineOf) := by
  unfold canon_Lines.f canon_Fields.f
  rw [if_pos h]
  exact lines_l0 (canonF l) (canon_len hl) (fun f hf => canon_sizes h hf) _ 0 rfl (by omega)
theorem rlines_l0 (x : List S83) (hl : x.length ≤ 1640) (hs : ∀ f ∈ x, f.f0.size ≤ 100000 ∧ f.f1.size ≤ 100002000) : ∀ (d i : Nat), x.length - i = d → i ≤ x.length →
    Ev (fun n => abutmentref50_Lines.l0 n x ((x.take i).map lineOf) (i : Int)) (x.map lineOf) := by
  intro d
  induction d with
  | zero =>
    intro i hd hi
    rw [List.take_of_length_le (by omega)]
    refine Ev.step (f := fun _ => some (x.map lineOf)) (fun n => ?_) (Ev.now _)
    simp only [abutmentref50_Lines.l0]
    rw [if_neg (by omega)]
  | succ d ih =>
    intro i hd hi
    have hil : i < x.length := by omega
    have hnext := ih (i + 1) (by omega) (by omega)
    rw [List.take_succ_eq_append_getElem hil, List.map_append] at hnext
    obtain ⟨h1, h2⟩ := line_size x[i] (hs _ (List.getElem_mem hil))
    refine Ev.step (f := fun n => abutmentref50_Lines.l0 n x ((x.take i).map lineOf ++ [lineOf x[i]]) ((i + 1 : Nat) : Int)) (fun n => ?_) hnext
    simp only [abutmentref50_Lines.l0]
    rw [if_pos (by omega), if_pos (by omega), rd_at x i hil, if_pos h1, if_pos h2, if_pos (by rw [List.length_map, List.length_take]; omega), w64 (by omega) (by omega)]; rfl
theorem rlines_comes (l : List S83) (h : okF l) (hl : l.length ≤ 40) : Ev (fun n => abutmentref50_Lines.f n l) ((canonF l).map lineOf) := by
  unfold abutmentref50_Lines.f
  exact Ev.bind (rfields_comes l h) (rlines_l0 (canonF l) (canon_len hl) (fun f hf => canon_sizes h hf) _ 0 rfl (by omega))
end Go.Proofs.Ytacglolggaobdab.MR
