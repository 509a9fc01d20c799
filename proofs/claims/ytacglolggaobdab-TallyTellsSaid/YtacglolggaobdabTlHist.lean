/- tally.rows: what was counted, the most ahead. tally: a list of names, counted: what Fields, Methods and Statuses hand back. -/
import Derived.Test.YtacglolggaobdabTlRows
import Derived.Test.YtacglolggaobdabTlSort
import Derived.RangeFuncBox
import Derived.Maps.AppendAt
import Derived.Lib.OwnKind
section
namespace Go.Proofs.Ytacglolggaobdab.TL
open Go.RowKit Go.Maps Go.Sort Go.Shelf Go.Proofs.YtacglolggaobdabW.PrintWords Go.Proofs.YtacglolggaobdabW.PrintLast Go.Proofs.YtacglolggaobdabW.PrintMore Go.Proofs.Ytacglolggaobdab.PAll Go.Proofs.Ytacglolggaobdab.St
attribute [local go_sem] Oper.semAt_some
set_option linter.unusedVariables false
set_option linter.unusedSimpArgs false

theorem info49r : (Try.prog.info? 49).map (fun i => (i.zero, i.size, i.bytes)) = some (some (.agg #[(.string ⟨#[]⟩), (.int .i64 0)]), 2, 24) := by kernel_rfl
def toR (p : List UInt8 × Int) : S49 := ⟨⟨p.1.toArray⟩, p.2⟩
theorem rc_len (xs : List S49) : (xs.flatMap encR).length = xs.length * 2 := flat_len (enc := encR) (k := 2) (fun _ => rfl) xs
theorem rc_seg : ∀ (xs : List S49) (j : Nat) (p : S49), xs[j]? = some p → (((xs.flatMap encR).drop (j * 2)).take 2) = encR p
  | [], j, p, h => by simp at h
  | x :: xs, 0, p, h => by
    simp at h; subst h
    rw [List.flatMap_cons]; rfl
  | x :: xs, j + 1, p, h => by
    have := rc_seg xs j p (by simpa using h)
    rw [List.flatMap_cons, show (j + 1) * 2 = (encR x).length + j * 2 by show _ = 2 + _; omega, ← List.drop_drop, List.drop_left' rfl]
    exact this
theorem RRow.own {w : World} {g : Nat} {xs : List S49} {tl : List Value} (h : RRow w g xs tl) (base n cap : Nat) (hb : base ≤ g) (hn : n = xs.length) (hc : xs.length ≤ cap) (hm : cap ≤ maxLen) (ht : 2 * xs.length + tl.length = 2 * cap) :
    Kd.R k49 49 w base (fun _ => True) (.slice (some ⟨g, 0, none⟩) n cap) xs := by
  subst hn
  refine ⟨fun _ _ => trivial, xs.flatMap encR, ⟨by rw [rc_len]; rfl, .inr ⟨g, cap, _, rfl, hb, h, hc, hm, ?_, ?_⟩⟩, by rw [rc_len]; rfl, fun j p hj => ?_⟩
  · have h1 := rc_len xs
    rw [List.size_toArray, List.length_append, h1]; show _ = cap * 2; omega
  · show List.take (xs.length * 2) _ = _
    rw [List.take_left' (by rw [rc_len])]
  · show k49.M _ _ _ _ (List.take 2 (List.drop (j * 2) (xs.flatMap encR)))
    rw [rc_seg xs j p hj]
    exact k49_mkM _ _ _ _
theorem RRow.of {w : World} {base : Nat} {v : Value} {xs : List S49} (ho : w.ownsRow base 49 2 v xs.length (xs.flatMap encR)) : (v = .slice none 0 0 ∧ xs = []) ∨ ∃ g cap tl, v = .slice (some ⟨g, 0, none⟩) xs.length cap ∧ base ≤ g ∧ RRow w g xs tl ∧ xs.length ≤ cap ∧ cap ≤ maxLen ∧ 2 * xs.length + tl.length = 2 * cap := by
  rcases ho.2 with ⟨hv, h0⟩ | ⟨g, cap, cur, hv, hb, hg, hnc, hm, hcs, ht⟩
  · exact .inl ⟨hv, List.length_eq_zero_iff.1 h0⟩
  · refine .inr ⟨g, cap, cur.toList.drop (xs.length * 2), hv, hb, ?_, hnc, hm, ?_⟩
    · unfold RRow
      rw [← ht, List.take_append_drop]
      exact hg
    · have := rc_len xs
      simp; omega

def rowsT (f : List UInt8 → Int) (ss : List (List UInt8)) : List S49 := (rowsOf f ss).map toR

/-- what the loop's body may turn: the box of 'out', and rows of type 49 -/
def EO (O : Nat) (k : Nat) (t : TypeId) : Prop := k = O ∨ t = 49

theorem two_new (W : World) (a b : Value) (t : TypeId) : ∀ j u, [a, b][j]? = some u → (W.alloc (.cells #[a, b] t)).cell? ((⟨W.heap.size, 0, none⟩ : Addr).add j) = some u := by
  intro j u hj
  have h := World.alloc_heap_new W (.cells #[a, b] t)
  generalize W.alloc (.cells #[a, b] t) = W' at h
  generalize W.heap.size = g at h
  match j, hj with
  | 0, hj => simp at hj; subst hj; simp [Addr.add, World.cell?, h]
  | 1, hj => simp at hj; subst hj; simp [Addr.add, World.cell?, h]

set_option maxHeartbeats 4000000 in
set_option maxRecDepth 100000 in
theorem rows59 (w : World) (base T nn : Nat) (f : List UInt8 → Int) (h : List UInt8 → Prop) (hT : TK mkS 9 94 w base T nn f h) (hnn : nn ≤ 1000000000) :
    Calls Try.prog 59 #[.pointer (some ⟨T, 0, none⟩)] w fun e w' => ∃ v ss, e = .returned v ∧ KeysL (fun a b => a < b) h ss ∧ ss.length ≤ nn ∧ Kd.R k49 49 w' w.heap.size (fun _ => True) v (isort (ltOf cfR) (rowsT f ss)) ∧ Below w.heap.size w w' := by
  refine (callsIn_wide (n := 8)).1 ?_
  have cR := rowsCallS 7 (.pointer (some ⟨T, 0, none⟩)) rfl (w.alloc (.cells #[.slice none 0 0] 46)) T rfl
  have hfR : Fence.wide.fn 85 := trivial
  have hfS : Fence.wide.fn 86 := trivial
  refine callsIn_of_wp_marks Try.func59 rfl trivial ?_ rfl
  simp only [Try.ntmps59, List.size_toArray, List.length_cons, List.length_nil, Nat.reduceAdd, Nat.reduceSub, Array.replicate_succ, Array.replicate_zero, List.push_toArray, List.append_toArray, List.nil_append, List.cons_append]
  gi_wp2_with (gi_at_call 85; refine cR.mono ?_; rintro e w' ⟨rfl, rfl⟩)
  clear cR
  obtain ⟨O, hO⟩ : ∃ O, O = w.heap.size := ⟨_, rfl⟩
  have bO := (Boxed.new w 46 (.slice none 0 0)).alloc (.cells #[.pointer (some ⟨T, 0, none⟩)] 97)
  have bT := Boxed.new (w.alloc (.cells #[.slice none 0 0] 46)) 97 (.pointer (some ⟨T, 0, none⟩))
  simp only [World.size_alloc] at bT
  have hB0 : Below w.heap.size w ((w.alloc (.cells #[.slice none 0 0] 46)).alloc (.cells #[.pointer (some ⟨T, 0, none⟩)] 97)) := ((Below.refl _ w).alloc (Nat.le_refl _) _).alloc (by simp) _
  have hst := stopsS 7 (by decide) (w.heap.size + 1) T nn base f h (EO w.heap.size) w _ hT hB0 bT hnn (by rintro (e | e); omega; cases e) (by rintro k hk (e | e); simp at hk; omega; cases e)
  obtain ⟨i0, hi, hz0, hz1, hz2⟩ := info_parts info49r
  refine wpIn_rangeFunc_ownF rfl (by decide) (gf := 106) (lb := #[.pointer (some ⟨w.heap.size + 1, 0, none⟩)]) rfl trivial (enters_of Try.func106 (by kernel_rfl) rfl)
    hst kpe_t (kpe_b (by simp; omega)) (Below.refl _ _) (fun _ => rfl)
    (fun pre W => (∃ v, Boxed W w.heap.size 46 v ∧ W.ownsRow w.heap.size 49 2 v pre.length ((pre.map toR).flatMap encR) ∧ True) ∧ Below w.heap.size w W)
    (fun _ _ _ => False)
    (OwnFrom.and (Own.from (holdsRow_own w.heap.size w.heap.size 46 49 2 List.length (fun pre => (pre.map toR).flatMap encR) (fun _ _ => True)) _) (ownFrom_below (Nat.le_refl _) (by simp; omega)))
    (fun _ _ _ _ _ hs _ _ => hs)
    ⟨⟨_, bO, World.ownsRow_nil _ _ _ _, trivial⟩, hB0⟩
    (fun x => { tmps := #[.pointer (some ⟨T, 0, none⟩), undef, .slice none 0 0, .pointer (some ⟨w.heap.size, 0, none⟩), encStr x.1, .int .i64 x.2, .pointer (some ⟨T, 0, none⟩), .func (.func 106) #[] #[.pointer (some ⟨w.heap.size + 1, 0, none⟩)], encStr x.1, .int .i64 x.2, undef, undef, undef, undef, undef, undef, undef, undef, undef], defers := [] }) ?assign ?body ?done ?stop
  case assign =>
    intro l x W K hK
    gi_wp2
    exact hK
  case body =>
    rintro l pre x W ⟨⟨v, hv, hrow, -⟩, hB⟩ hlt
    have hcv := hv.cell
    have hml : pre.length + 1 ≤ maxLen := by unfold maxLen; omega
    have hrow1 := hrow
    gi_wp2_with (gi_at_builtin; refine wpListIn_append_own _ rfl _ _ 46 rfl w.heap.size 49 i0 (.agg #[(.string ⟨#[]⟩), (.int .i64 0)]) 2 24 Try.underlying46 hi hz0 hz1 hz2 rfl (by decide) _ _ _ rfl (hrow.alloc _) ⟨W.heap.size, 0, none⟩ 1 1 [encStr x.1, .int .i64 x.2] rfl rfl (two_new _ _ _ _) (by simp [Value.oneCell', encStr]) hml (by omega) (by have := hB.size; simp; omega) ?_; intro v' w1 hown' hgrow _; obtain ⟨g', cap', rfl⟩ := ownsRow_succ hown'; obtain ⟨hv1, hv2, hr2, hk2, hb2⟩ := hv.appended (by decide) hrow hB.size (Nat.le_refl _) hown' hgrow; have hc1 := hv1.cell; have hf1 := hv1.frozen)
    refine ⟨hk2, ⟨hb2, fun k vs t fr hk hE => ?_⟩, ⟨_, hv2, ?_, trivial⟩, hB.trans hb2⟩
    · have hne : k ≠ w.heap.size := fun e => hE (Or.inl e)
      have hne2 : some k ≠ v.ownBlock := fun e => by
        obtain ⟨c, fz, hq⟩ := Go.Lib.ownsRow_kind hrow1 k e.symm
        rw [hk] at hq
        cases hq
        exact hE (Or.inr rfl)
      have hkl := lt0 hk
      refine (Below.heap_setCell _ _ _ _ hne).trans ?_
      exact ((hgrow.block k (by simp; omega) hne2).trans (Below.heap_alloc _ _ _ hkl)).trans hk
    · simpa [toR, encR, encStr] using hr2
  case done =>
    rintro D ys W hD ⟨ss, hK, hln, rfl⟩ ⟨⟨v, hv, hrow, -⟩, hB⟩ hKd
    have hlen0 : (rowsOf f ss).length ≤ nn := Nat.le_trans (rowsOf_len f ss) hln
    have hcv := hv.cell
    have hlen : (rowsOf f ss).length ≤ 1000000000 := Nat.le_trans hlen0 hnn
    rcases RRow.of (xs := rowsT f ss) (by unfold rowsT; rw [List.length_map]; exact hrow) with ⟨rfl, hnil⟩ | ⟨g, cap, tl, rfl, hbg, hF, hcap, hmax, htl⟩
    · have h2 := StR.sortStable_nil 87 #[] W
      gi_wp2_with (gi_at_call 86; refine (callsIn_wide.2 h2).mono ?_; rintro e w2 ⟨rfl, rfl⟩)
      refine ⟨by simp, .inl ⟨_, _, rfl, run_takeDeferred hKd, ?_⟩⟩
      refine ⟨_, results_tmp rfl _ _ _, _, ss, rfl, hK, hln, ?_, hB.trans (belowK_b (w := w) (Nat.le_refl _) _ D _ _ (by simp at hD; omega) hKd rfl rfl)⟩
      rw [hnil]
      exact Kd.R_nil _ _ _ _ _
    · have h2 := sortR g cap (rowsT f ss) tl W hF (by unfold rowsT; rw [List.length_map]; exact hlen)
      have hgl := lt0 hF
      have hDl := lt0 hKd
      have hDg : D ≠ g := fun e => by rw [e, hF] at hKd; cases hKd
      have hOg : w.heap.size ≠ g := fun e => by
        have := hv
        unfold Boxed at this
        rw [e, hF] at this
        injection this with this
        injection this with _ e2
        cases e2
      have hvl := hv.lt
      have hv0 : W.heap[w.heap.size]? = some (.cells #[.slice (some ⟨g, 0, none⟩) (rowsT f ss).length cap] 46 (0, 0)) := hv
      clear hrow hv
      gi_wp2_with (gi_at_call 86; refine (callsIn_wide.2 h2).mono ?_; rintro e w2 ⟨rfl, hF2, hoth, hB2⟩; have hKd2 := (hoth D hDl hDg).trans hKd; have hcv2 := cell0 ((hoth _ hvl hOg).trans hv0))
      refine ⟨by simp, .inl ⟨_, _, rfl, run_takeDeferred hKd2, ?_⟩⟩
      refine ⟨_, results_tmp rfl _ _ _, _, ss, rfl, hK, hln, ?_, (hB.trans (hB2 _ hbg)).trans (belowK_b (w := w) (Nat.le_refl _) _ D _ _ (by simp at hD; omega) hKd2 rfl rfl)⟩
      have hF3 : RRow (w2.putObj D (.deferred none)) g (isort (ltOf cfR) (rowsT f ss)) tl := (World.putObj_heap_other (by omega)).trans hF2
      exact hF3.own _ _ cap hbg (isort_length _).symm (by rw [isort_length]; exact hcap) hmax (by rw [isort_length]; exact htl)
  case stop =>
    rintro D c pre W _ _ h _
    exact h.elim
end Go.Proofs.Ytacglolggaobdab.TL
end

section
namespace Go.Proofs.Ytacglolggaobdab.TL
open Go.RowKit Go.Maps Go.Sort Go.Shelf Go.Proofs.YtacglolggaobdabW.PrintWords Go.Proofs.YtacglolggaobdabW.PrintLast Go.Proofs.YtacglolggaobdabW.PrintMore Go.Proofs.Ytacglolggaobdab.PAll Go.Proofs.Ytacglolggaobdab.St
set_option linter.unusedVariables false
set_option linter.unusedSimpArgs false

/-- x into a rising list that has nothing twice -/
def insU (x : List UInt8) : List (List UInt8) → List (List UInt8)
  | [] => [x]
  | y :: ys => if x < y then x :: y :: ys else if x = y then y :: ys else y :: insU x ys
def skeys (ks : List (List UInt8)) : List (List UInt8) := ks.foldr insU []
theorem insU_mem (x z : List UInt8) : ∀ l, z ∈ insU x l ↔ z = x ∨ z ∈ l
  | [] => by simp [insU]
  | y :: ys => by
    unfold insU
    by_cases h1 : x < y
    · simp [h1]
    · by_cases h2 : x = y
      · rw [if_neg h1, if_pos h2, List.mem_cons, h2]; simp
      · simp only [if_neg h1, if_neg h2, List.mem_cons, insU_mem x z ys]
        constructor
        · rintro (h | h | h) <;> simp [h]
        · rintro (h | h | h) <;> simp [h]
theorem lt_of_not {x y : List UInt8} (h1 : ¬ x < y) (h2 : x ≠ y) : y < x := Decidable.byContradiction fun hn => h2 (List.le_antisymm (List.not_lt.1 hn) (List.not_lt.1 h1))
theorem insU_up (x : List UInt8) : ∀ l : List (List UInt8), l.Pairwise (fun a b => a < b) → (insU x l).Pairwise (fun a b => a < b)
  | [], _ => by simp [insU]
  | y :: ys, h => by
    obtain ⟨ha, hb⟩ := List.pairwise_cons.1 h
    unfold insU
    by_cases h1 : x < y
    · rw [if_pos h1]
      refine List.pairwise_cons.2 ⟨fun z hz => ?_, h⟩
      rcases List.mem_cons.1 hz with rfl | hz
      · exact h1
      · exact List.lt_trans h1 (ha z hz)
    · rw [if_neg h1]
      by_cases h2 : x = y
      · rw [if_pos h2]; exact h
      · rw [if_neg h2]
        refine List.pairwise_cons.2 ⟨fun z hz => ?_, insU_up x ys hb⟩
        rcases (insU_mem x z ys).1 hz with rfl | hz
        · exact lt_of_not h1 h2
        · exact ha z hz
theorem skeys_keys : ∀ ks, KeysL (fun a b => a < b) (fun x => x ∈ ks) (skeys ks)
  | [] => ⟨List.Pairwise.nil, fun x => by simp [skeys]⟩
  | k :: ks => by
    have h := skeys_keys ks
    refine ⟨insU_up k _ h.up, fun x => ?_⟩
    show x ∈ insU k (skeys ks) ↔ _
    rw [insU_mem, h.mem, List.mem_cons]
theorem keys_one {h : List UInt8 → Prop} : ∀ {a b : List (List UInt8)}, KeysL (fun a b => a < b) h a → KeysL (fun a b => a < b) h b → a = b := by
  intro a b ha hb
  have ne : ∀ {x y : List UInt8}, x < y → x ≠ y := fun {x y} hxy e => by subst e; exact List.lt_irrefl _ hxy
  have na : a.Nodup := List.Pairwise.imp (fun {x y} (hxy : x < y) => ne hxy) ha.up
  have nb : b.Nodup := List.Pairwise.imp (fun {x y} (hxy : x < y) => ne hxy) hb.up
  have hp : a.Perm b := (List.perm_ext_iff_of_nodup na nb).2 fun x => (ha.mem x).trans (hb.mem x).symm
  exact List.Perm.eq_of_pairwise (le := fun a b => a < b) (fun x y _ _ h1 h2 => absurd (List.lt_trans h1 h2) (List.lt_irrefl x)) ha.up hb.up hp

/-- how often each is there, the most ahead, of one number by name -/
def cntI (ks : List (List UInt8)) (x : List UInt8) : Int := (ks.count x : Int)
def hist (ks : List (List UInt8)) : List S49 := isort (ltOf cfR) (rowsT (cntI ks) (skeys ks))

/-- block T is a tally of ks -/
def TKl (w : World) (base T : Nat) (ks : List (List UInt8)) : Prop := TK mkS 9 94 w base T ks.length (cntI ks) (fun x => x ∈ ks)
theorem TKl.add {w : World} {base T : Nat} {ks : List (List UInt8)} (H : TKl w base T ks) (k : ByteArray) (hl : ks.length ≤ 1000000) (hk : k.size ≤ 1000000000) :
    Calls Try.prog 57 #[.pointer (some ⟨T, 0, none⟩), .string k, .int .i64 1] w fun e w' => (∃ r, e = .returned (.int .i64 r)) ∧ TKl w' base T (ks ++ [k.data.toList]) ∧ Below base w w' := by
  have hc := List.count_le_length (a := k.data.toList) (l := ks)
  refine (addS w base T ks.length (cntI ks) _ k 1 (cntI ks k.data.toList + 1) H (by unfold maxLen; omega) (by unfold maxLen; omega) (by unfold cntI; omega) (by unfold cntI; omega) (by unfold plus cntI; omega)).mono ?_
  rintro e w' ⟨rfl, h2, h3, _⟩
  refine ⟨⟨_, rfl⟩, ?_, h3⟩
  unfold TKl
  have e1 : upd (cntI ks) k.data.toList (cntI ks k.data.toList + 1) = cntI (ks ++ [k.data.toList]) := by
    funext y
    unfold upd cntI
    rw [List.count_append, List.count_singleton]
    by_cases e : y = k.data.toList
    · rw [if_pos e, e]; simp
    · rw [if_neg e]
      have : ¬ (k.data.toList == y) = true := by simpa using fun h => e h.symm
      simp [this]
  have e2 : also (fun x => x ∈ ks) k.data.toList = fun x => x ∈ ks ++ [k.data.toList] := by
    funext y
    unfold also
    simp [or_comm]
  rw [← e1, ← e2, List.length_append]
  exact h2
theorem TKl.new (w : World) : TKl (w.alloc (.cells #[.map none] 94)) w.heap.size w.heap.size [] :=
  ⟨Nat.le_refl _, Or.inl ⟨World.alloc_heap_new w _, fun x => by simp [cntI], fun x => by simp⟩⟩
theorem TKl.below {w w' : World} {base T B : Nat} {ks : List (List UInt8)} (H : TKl w base T ks) (hw : w.heap.size ≤ B) (hb : Below B w w') : TKl w' base T ks := TK.below H hw hb
theorem TKl.rows {w : World} {base T : Nat} {ks : List (List UInt8)} (H : TKl w base T ks) (hl : ks.length ≤ 1000000) :
    Calls Try.prog 59 #[.pointer (some ⟨T, 0, none⟩)] w fun e w' => ∃ v, e = .returned v ∧ Kd.R k49 49 w' w.heap.size (fun _ => True) v (hist ks) ∧ Below w.heap.size w w' := by
  refine (rows59 w base T ks.length _ _ H (by omega)).mono ?_
  rintro e w' ⟨v, ss, rfl, h1, _, h2, h3⟩
  rw [keys_one h1 (skeys_keys ks)] at h2
  exact ⟨v, rfl, h2, h3⟩
end Go.Proofs.Ytacglolggaobdab.TL
end
