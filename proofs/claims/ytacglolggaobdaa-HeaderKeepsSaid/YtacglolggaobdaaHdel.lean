/- slices.Clone and slices.DeleteFunc over fields. -/
import Derived.Test.YtacglolggaobdaaGheaderGet
import Derived.Test.YtacglolggaobdaaFRow
import Derived.Lib.LazyBuf
namespace Go.Proofs.Ytacglolggaobdaa.Hn
open Go.RowKit Go.Proofs.YtacglolggaobdaaW.PrintWords Go.Proofs.YtacglolggaobdaaW.PrintLast Go.Proofs.YtacglolggaobdaaW.PrintMore Go.Proofs.Ytacglolggaobdaa.PAll Go.Proofs.Ytacglolggaobdaa.FR
set_option linter.unusedVariables false
set_option linter.unusedSimpArgs false

set_option maxHeartbeats 1000000 in
set_option maxRecDepth 100000 in
theorem clone_any (A : Option Addr) (c : Nat) (l : List S84) (w : World) (hr : Kd.C k84 w A l.length l) (hlen : l.length ≤ 1000000) :
    Calls Try.prog 99 #[.slice A l.length c] w fun e w' => ∃ v : Value, e = .returned v ∧ Kd.R k84 84 w' w.heap.size (fun _ => True) v l ∧ Below w.heap.size w w' := by
  have HR := Aside0.mk hr
  clear hr
  cases A with
  | none =>
    have hnil : l = [] := by
      rcases Nat.eq_zero_or_pos l.length with h | h
      · exact List.length_eq_zero_iff.1 h
      · obtain ⟨ad, e, _⟩ := HR.out.2.2 h
        cases e
    subst hnil
    have heq : ∀ W, (binOp .eql 73 (.slice none 0 c) (.slice none 0 0)).run Try.prog W = .ok (.bool true) W := fun W => by
      have := run_eql_slice_nil (P := Try.prog) W 73 84 none 0 c Try.underlying73
      simpa using this
    go_enter Try.func99, Try.ntmps99
    go_wp2
    go_ret
    exact ⟨_, rfl, Kd.R_nil _ _ _ _ _, Below.refl _ _⟩
  | some ad =>
    have heq : ∀ W, (binOp .eql 73 (.slice (some ad) l.length c) (.slice none 0 0)).run Try.prog W = .ok (.bool false) W := fun W => by
      have := run_eql_slice_nil (P := Try.prog) W 73 84 (some ad) l.length c Try.underlying73
      simpa using this
    go_enter Try.func99, Try.ntmps99
    have hrow : FRow (w.alloc (.cells #[] 84)) w.heap.size [] [] := heap_alloc_new w _
    have hown := hrow.own w.heap.size 0 0 (Nat.le_refl _) rfl (Nat.le_refl _) (by unfold maxLen; omega) rfl
    have hbel : Below w.heap.size w (w.alloc (.cells #[] 84)) := (Below.refl _ _).alloc (Nat.le_refl _) _
    have HO := Aside0.mk hown
    have HB := Aside0.mk hbel
    have HC := Aside0.mk (Kd.C_below HR.out hbel)
    clear hrow hown hbel
    go_wp2_with (at_builtin; go_loud (refine Kd.R_append_rows k84 (Rr := k84.K (w.alloc (.cells #[] 84))) (w0 := w) w.heap.size rfl (.tmp 5) (.tmp 6) 73 84 (.agg #[.string ⟨#[]⟩, .string ⟨#[]⟩]) 32 rfl Try.underlying73 infoF rfl (by decide) (by omega) (.slice (some ⟨w.heap.size, 0, none⟩) 0 0) [] l (some ad) l.length c (fun _ => True) (fun _ => False) rfl rfl HO.out HC.out (fun x cs hk => (by rw [k84_open hk]; exact k84_mkM _ _ _ x)) (fun _ hk => hk.elim) (fun _ _ => trivial) HB.out (by simp [World.size_alloc]) (by simp; omega) ?_; intro v1 w1 ho hb hg hat; have HO1 := Aside0.mk ho; have HB1 := Aside0.mk hb; clear ho hb hg hat))
    go_ret
    exact ⟨_, rfl, by simpa using HO1.out, HB1.out⟩

/-- Nothing but new blocks and block g has turned. -/
structure OnlyG (w w' : World) (g : Nat) : Prop where
  os : w'.os = w.os
  tape : w'.tape = w.tape
  output : w'.output = w.output
  size : w.heap.size ≤ w'.heap.size
  block : ∀ k, k < w.heap.size → k ≠ g → w'.heap[k]? = w.heap[k]?
theorem OnlyG.refl (w : World) (g : Nat) : OnlyG w w g := ⟨rfl, rfl, rfl, Nat.le_refl _, fun _ _ _ => rfl⟩
theorem OnlyG.trans {a b c : World} {g : Nat} (h : OnlyG a b g) (k : OnlyG b c g) : OnlyG a c g :=
  ⟨k.os.trans h.os, k.tape.trans h.tape, k.output.trans h.output, Nat.le_trans h.size k.size, fun i hi hs => (k.block i (Nat.lt_of_lt_of_le hi h.size) hs).trans (h.block i hi hs)⟩
theorem OnlyG.of_below {a b : World} {g : Nat} (h : Below a.heap.size a b) : OnlyG a b g := ⟨h.os, h.tape, h.output, h.size, fun k hk _ => h.block k hk⟩
theorem OnlyG.set (w : World) (g o : Nat) (vs : List Value) : OnlyG w (w.setCells g o vs) g := by
  obtain ⟨h1, h2, h3, h4⟩ := setCells_same g vs o w
  exact ⟨h1, h2, h3, by rw [h4]; exact Nat.le_refl _, fun k hk hs => setCells_far vs o k hs⟩
theorem OnlyG.below {a b : World} {g B : Nat} (h : OnlyG a b g) (hB : B ≤ a.heap.size) (hg : B ≤ g) : Below B a b := ⟨h.os, h.tape, h.output, h.size, fun k hk => h.block k (by omega) (by omega)⟩

/-- what is left when those of which p holds are struck -/
def keepF (p : S84 → Bool) (l : List S84) : List S84 := l.filter fun x => !p x
theorem keepF_take (p : S84 → Bool) (l : List S84) (j : Nat) (h : j < l.length) : keepF p (l.take (j + 1)) = keepF p (l.take j) ++ (if p l[j] = true then [] else [l[j]]) := by
  unfold keepF
  rw [List.take_succ_eq_append_getElem h, List.filter_append]
  cases hq : p l[j] with
  | true => simp [hq]
  | false => simp [hq]
theorem keepF_len (p : S84 → Bool) (l : List S84) : (keepF p l).length ≤ l.length := List.length_filter_le _ _
theorem keepF_all {p : S84 → Bool} {l : List S84} (h : ∀ x ∈ l, p x = false) : keepF p l = l := by
  unfold keepF
  rw [List.filter_eq_self]
  intro x hx
  rw [h x hx]; rfl

/-- zero fields as cells -/
def zc : Nat → List Value
  | 0 => []
  | n + 1 => .string ⟨#[]⟩ :: .string ⟨#[]⟩ :: zc n
theorem zc_len : ∀ n, (zc n).length = 2 * n
  | 0 => rfl
  | n + 1 => by rw [zc, List.length_cons, List.length_cons, zc_len n]; omega

theorem zc_rep : ∀ n, zc n = List.replicate (2 * n) (.string ⟨#[]⟩)
  | 0 => rfl
  | n + 1 => by rw [zc, zc_rep n, show 2 * (n + 1) = 2 * n + 1 + 1 by omega, List.replicate_succ, List.replicate_succ]
theorem zeros_fc (n : Nat) : (Builtin.zeroCells (Value.agg #[.string ⟨#[]⟩, .string ⟨#[]⟩]).cells n).toList = zc n := by
  have hc : (Value.agg #[.string ⟨#[]⟩, .string ⟨#[]⟩]).cells = #[.string ⟨#[]⟩, .string ⟨#[]⟩] := rfl
  rw [hc, zc_rep]
  simp only [Builtin.zeroCells]
  apply List.ext_getElem
  · simp; omega
  · intro i h1 h2
    have : i % 2 = 0 ∨ i % 2 = 1 := by omega
    rcases this with h | h <;> simp [h]
set_option maxRecDepth 100000 in
theorem run_clear_fields (w : World) (ty : TypeId) (g o n c : Nat) (hn : 0 < n) (hc : ∀ j, j < 2 * n → (w.cell? ⟨g, o + j, none⟩).isSome = true) (hf : ∀ j, j < 2 * n → w.frozen? ⟨g, o + j, none⟩ = false) :
    (Builtin.clear_ #[73] ty #[.slice (some ⟨g, o, none⟩) n c]).run Try.prog w = .ok (.tuple #[]) (w.setCells g o (zc n)) := by
  have hz : ∀ w, (zeroValue 84).run Try.prog w = .ok (.agg #[.string ⟨#[]⟩, .string ⟨#[]⟩]) w := fun _ => rfl
  have hst := run_storeCells_cells (P := Try.prog) g o (zc n) 0 w (by simpa [zc_len] using hc) (by simpa [zc_len] using hf) (by intro v hv'; rw [zc_rep] at hv'; rw [List.eq_of_mem_replicate hv']; rfl)
  simp only [Nat.add_zero] at hst
  obtain ⟨m, rfl⟩ : ∃ m, n = m + 1 := ⟨n - 1, by omega⟩
  simp [Builtin.clear_, run_underlying Try.underlying73, hz, zeros_fc, hst]

theorem store_facts {w : World} {g : Nat} {ys : List S84} {tl : List Value} (h : FRow w g ys tl) (i : Nat) (hi : i < ys.length) (x : S84) :
    (∃ u, w.cell? ⟨g, i * 2, none⟩ = some u) ∧ w.frozen? ⟨g, i * 2, none⟩ = false ∧ (∃ u, (w.setCell ⟨g, i * 2, none⟩ (.string x.f0)).cell? ⟨g, i * 2 + 1, none⟩ = some u) ∧ (w.setCell ⟨g, i * 2, none⟩ (.string x.f0)).frozen? ⟨g, i * 2 + 1, none⟩ = false ∧
      w.setCells g (2 * i) [.string x.f0, .string x.f1] = (w.setCell ⟨g, i * 2, none⟩ (.string x.f0)).setCell ⟨g, i * 2 + 1, none⟩ (.string x.f1) := by
  obtain ⟨h0, h1⟩ := h.cells i hi
  rw [Nat.mul_comm 2 i] at h0 h1
  have hs := blk_set h (i * 2) (.string x.f0)
  refine ⟨⟨_, h0⟩, h.fz _, ⟨.string ys[i].f1, ?_⟩, blk_frozen hs _, by rw [Nat.mul_comm]; rfl⟩
  rw [blk_cell hs, Array.getElem?_setIfInBounds_ne (by omega), ← blk_cell h]
  exact h1

set_option maxHeartbeats 2000000 in
set_option maxRecDepth 100000 in
theorem delete_any (g cap : Nat) (l : List S84) (tl : List Value) (B base : Nat) (names : List ByteArray) (w : World) (hrow : FRow w g l tl) (hfit : fit l) (hcap : l.length ≤ cap) (hm : cap ≤ maxLen) (htl : 2 * l.length + tl.length = 2 * cap) (hbase : base ≤ g)
    (hN : ∀ W, OnlyG w W g → IsNamed W B names) :
    Calls Try.prog 98 #[.slice (some ⟨g, 0, none⟩) l.length cap, .func (.func 109) #[] #[.pointer (some ⟨B, 0, none⟩)]] w fun e w' => ∃ v : Value, e = .returned v ∧ Kd.R k84 84 w' base (fun _ => True) v (keepF (isAny names) l) ∧ OnlyG w w' g := by
  have hreads : Kd.C k84 w (some ⟨g, 0, none⟩) l.length l := (Kd.R_reads' (hrow.own base l.length cap hbase rfl hcap hm htl)).2.2
  obtain ⟨k, hk⟩ : ∃ k : Int, k = idx (isAny names) l := ⟨_, rfl⟩
  have hidx := indexF_any (some ⟨g, 0, none⟩) cap l B names w hreads hfit (hN w (OnlyG.refl _ _))
  rw [← hk] at hidx
  have HI := Aside0.mk hidx
  have HR := Aside0.mk hrow
  have HN := Aside0.mk hN
  have HF := Aside0.mk hfit.2
  have hlen := hfit.1
  by_cases hneg : k < 0
  · have hk1 : k = -1 := by
      rw [hk] at hneg ⊢
      unfold idx at hneg ⊢
      cases hf : l.findIdx? (isAny names) with
      | some i => rw [hf] at hneg; simp at hneg; omega
      | none => rfl
    have hall : keepF (isAny names) l = l := keepF_all (fun x hx => by
      have := List.find?_eq_none.1 (idx_none (l := l) (p := isAny names) (by rw [← hk]; exact hneg)) x hx
      simpa using this)
    rw [hall]
    subst hk1
    clear hk hneg hidx hrow hN hreads hfit
    go_enter Try.func98, Try.ntmps98
    go_wp2_with (go_at_call 93; refine HI.out.mono ?_; rintro e w1 ⟨rfl, hb1⟩; have HB1 := Aside0.mk hb1; clear hb1)
    go_ret
    have hr1 : FRow _ g l tl := (HB1.out.block g (blk_lt HR.out)).trans HR.out
    exact ⟨_, rfl, hr1.own base l.length cap hbase rfl hcap hm htl, OnlyG.of_below HB1.out⟩
  · have hneg0 : ¬ idx (isAny names) l < 0 := by rw [← hk]; exact hneg
    obtain ⟨i0, hi0, hki, _, hpi⟩ := idx_some hneg0
    have hki : k = (i0 : Int) := by rw [hk]; exact hki
    have hfirst : ∀ x ∈ l.take i0, isAny names x = false := by
      intro x hx
      have h2 : idx (isAny names) l = (i0 : Int) := by rw [← hk]; exact hki
      unfold idx at h2
      cases hf : l.findIdx? (isAny names) with
      | none => rw [hf] at h2; simp at h2
      | some j =>
        rw [hf] at h2
        obtain rfl : j = i0 := by
          have h3 : (j : Int) = (i0 : Int) := h2
          omega
        obtain ⟨hj, _, hlt⟩ := List.findIdx?_eq_some_iff_getElem.1 hf
        obtain ⟨q, hq, rfl⟩ := List.mem_iff_getElem.1 hx
        rw [List.length_take] at hq
        have := hlt q (by omega)
        rw [List.getElem_take]
        simpa using this
    subst hki
    have hk1 : ((i0 : Int) == -1) = false := beq_eq_false_iff_ne.2 (by omega)
    have HFI := Aside0.mk hfirst
    have HPI := Aside0.mk hpi
    clear hk hneg hneg0 hidx hrow hN hreads hfit hfirst hpi
    go_enter Try.func98, Try.ntmps98
    go_wp2_with (go_at_call 93; refine HI.out.mono ?_; rintro e w1 ⟨rfl, hb1⟩; have HB1 := Aside0.mk hb1; clear hb1)
    go_loopw [5, 6] (fun v5 v6 wr => ∃ (i j : Nat) (ys : List S84), v5 = .int .i64 (i : Int) ∧ v6 = .int .i64 (j : Int) ∧ Aside0 (i < j ∧ j ≤ l.length ∧ ys.length = l.length ∧ ys.take i = keepF (isAny names) (l.take j) ∧ ys.drop j = l.drop j ∧ FRow wr g ys tl ∧ OnlyG w wr g)) (fun _ v6 _ => l.length - (intOf v6).toNat)
    case atStart =>
      refine ⟨i0, i0 + 1, l, rfl, by go_num, ⟨by omega, by omega, rfl, ?_, rfl, (HB1.out.block g (blk_lt HR.out)).trans HR.out, OnlyG.of_below HB1.out⟩⟩
      rw [keepF_take _ _ _ hi0, if_pos HPI.out, List.append_nil, keepF_all HFI.out]
    case round =>
      obtain ⟨i, j, ys, rfl, rfl, HA⟩ := hrel
      obtain ⟨hij, hjl, hyl, htk, hdr, hrow, honly⟩ := HA.out
      clear HA
      by_cases hlt : j < l.length
      · have hjy : j < ys.length := by omega
        obtain ⟨x, hx⟩ : ∃ x, x = l[j] := ⟨_, rfl⟩
        have hyj : ys[j] = x := by
          have h1 := congrArg (fun z : List S84 => z[0]?) hdr
          simp only [List.getElem?_drop, Nat.add_zero] at h1
          rw [List.getElem?_eq_getElem hjy, List.getElem?_eq_getElem hlt] at h1
          rw [hx]; exact Option.some.inj h1
        obtain ⟨hc0, hc1⟩ := hrow.cells j hjy
        rw [hyj, Nat.mul_comm 2 j] at hc0 hc1
        have hxs := HF.out x (by rw [hx]; exact List.getElem_mem _)
        obtain ⟨wa, hwa⟩ : ∃ wa, wa = wr.alloc (.cells #[.string x.f0, .string x.f1] 84) := ⟨_, rfl⟩
        have hFa : wa.heap[wr.heap.size]? = some (.cells #[.string x.f0, .string x.f1] 84 (0, 0)) := by rw [hwa]; exact heap_alloc_new wr _
        have hba : Below wr.heap.size wr wa := by rw [hwa]; exact (Below.refl _ _).alloc (Nat.le_refl _) _
        have honly2 : OnlyG w wa g := honly.trans (OnlyG.of_below hba)
        have hcall := (HN.out wa honly2).call x hxs
        obtain ⟨q, hq⟩ : ∃ q, q = isAny names x := ⟨_, rfl⟩
        rw [← hq] at hcall
        have hkt := keepF_take (isAny names) l j hlt
        rw [← hx, ← hq] at hkt
        have hgl : g < wr.heap.size := blk_lt hrow
        have HW := Aside0.mk hwa
        have HFA := Aside0.mk hFa
        have HBA := Aside0.mk hba
        have HO2 := Aside0.mk honly2
        have HC := Aside0.mk hcall
        have HKT := Aside0.mk hkt
        have HRW := Aside0.mk hrow
        have HTK := Aside0.mk htk
        have HDR := Aside0.mk hdr
        have hdn : ys.drop (j + 1) = l.drop (j + 1) := by
          have h1 := congrArg (List.drop 1) hdr
          rwa [List.drop_drop, List.drop_drop] at h1
        have HDN := Aside0.mk hdn
        have hia : (i : Int) < (l.length : Int) := by omega
        clear hx hyj hwa hFa hba honly2 hcall hq hkt hrow htk hdr honly hdn
        cases q with
        | true =>
          go_wp2_with (go_at_call 109; rw [← HW.out]; refine HC.out.mono ?_; rintro e w2 ⟨rfl, hb2⟩; have HB2 := Aside0.mk hb2; clear hb2)
          go_roundw
          case rel =>
            refine ⟨i, j + 1, ys, rfl, by go_num, ⟨by omega, by omega, hyl, ?_, HDN.out, ?_, HO2.out.trans (OnlyG.of_below HB2.out)⟩⟩
            · rw [HKT.out]; simpa using HTK.out
            · exact ((below_step HBA.out HB2.out).block g hgl).trans HRW.out
          case measure => simp [intOf]; omega
        | false =>
          have hiy : i < ys.length := by omega
          go_wp2_with (go_at_call 109; rw [← HW.out]; refine HC.out.mono ?_; rintro e w2 ⟨rfl, hb2⟩; have HB2 := Aside0.mk hb2; have hr2 : FRow w2 g ys tl := ((below_step HBA.out hb2).block g hgl).trans HRW.out; have hF2 := (hb2.block _ (blk_lt HFA.out)).trans HFA.out; have hF20 : w2.cell? ⟨wr.heap.size, 0, none⟩ = some (.string x.f0) := (blk_cell hF2 0).trans rfl; have hF21 : w2.cell? ⟨wr.heap.size, 1, none⟩ = some (.string x.f1) := (blk_cell hF2 1).trans rfl; obtain ⟨⟨u0, hs0⟩, hs1, ⟨u1, hs2⟩, hs3, hs4⟩ := store_facts hr2 i hiy x; have HR2 := Aside0.mk hr2; have HS4 := Aside0.mk hs4; clear hb2 hr2 hF2 hs4)
          go_roundw
          case rel =>
            refine ⟨i + 1, j + 1, ys.set i x, by go_num, by go_num, ⟨by omega, by omega, by rw [List.length_set]; exact hyl, ?_, ?_, ?_, ?_⟩⟩
            · rw [HKT.out, if_neg (by decide), ← HTK.out, List.take_succ_eq_append_getElem (by rw [List.length_set]; exact hiy), List.getElem_set_self, List.take_set_of_le (Nat.le_refl _)]
            · rw [List.drop_set_of_lt (by omega)]; exact HDN.out
            · rw [← HS4.out]; exact HR2.out.set i hiy x
            · rw [← HS4.out]; exact (HO2.out.trans (OnlyG.of_below HB2.out)).trans (OnlyG.set _ _ _ _)
          case measure => simp [intOf]; omega
      · have hj : j = l.length := by omega
        subst hj
        rw [List.take_length] at htk
        have HRW := Aside0.mk hrow
        have HTK := Aside0.mk htk
        have HO := Aside0.mk honly
        have hic : ¬ cap = i := by omega
        have hrow2 : wr.heap[g]? = some (.cells (fc (ys.take i) ++ fc (ys.drop i) ++ tl).toArray 84 (0, 0)) := by
          rw [← fc_append, List.take_append_drop]; exact hrow
        have hcl := run_clear_fields wr 0 g (i * 2) (l.length - i) (cap - i) (by omega) (fun q hq => by rw [blk_cell hrow, List.getElem?_toArray, List.getElem?_append_left (by rw [fc_len]; omega), List.getElem?_eq_getElem (by rw [fc_len]; omega)]; rfl) (fun q _ => blk_frozen hrow _)
        have hrow3 : FRow (wr.setCells g (i * 2) (zc (l.length - i))) g (ys.take i) (zc (l.length - i) ++ tl) := by
          have := put_cells (seg := zc (l.length - i)) hrow2 (by rw [fc_len, zc_len, List.length_drop, hyl])
          rw [fc_len, List.length_take, Nat.min_eq_left (by omega), Nat.mul_comm 2 i] at this
          unfold FRow
          rw [this, List.append_assoc]
        have hkl : (keepF (isAny names) l).length = i := by rw [← htk, List.length_take]; omega
        rw [htk] at hrow3
        have hown := hrow3.own base i cap hbase hkl.symm (by omega) hm (by rw [hkl, List.length_append, zc_len]; omega)
        have HOWN := Aside0.mk hown
        have HON := Aside0.mk (honly.trans (OnlyG.set wr g (i * 2) (zc (l.length - i))))
        clear htk hdr hrow honly hrow2 hrow3 hown
        go_wp2
        go_ret
        exact ⟨_, rfl, HOWN.out, HO.out.trans (OnlyG.set _ _ _ _)⟩
end Go.Proofs.Ytacglolggaobdaa.Hn
