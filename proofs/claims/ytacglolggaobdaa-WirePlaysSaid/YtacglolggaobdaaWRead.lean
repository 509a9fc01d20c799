/- The wire beside a link: Grant, Read. -/
import Derived.Test.YtacglolggaobdaaWWire
namespace Go.Proofs.Ytacglolggaobdaa.Qu
open Go.RowKit Go.Proofs.YtacglolggaobdaaW.PrintWords Go.Proofs.YtacglolggaobdaaW.PrintLast Go.Proofs.YtacglolggaobdaaW.PrintMore
attribute [local go_sem] max2_int min2_int max_two min_two max_three min_three max_four min_four
set_option linter.unusedVariables false
set_option linter.unusedSimpArgs false

theorem InL.tag {w0 w : World} {L : Lk} {v : LV} (h : InL w0 w L v) : ∀ b, L.S b → ∃ cs t, w.heap[b]? = some (.cells cs t (0, 0)) ∧ (t = 50 ∨ t = 37 ∨ t = 5) := by
  obtain ⟨O, M, hl, _⟩ := h.ex
  obtain ⟨⟨c1, h1⟩, c2, h2⟩ := hl.qi.typed
  obtain ⟨⟨c3, h3⟩, c4, h4⟩ := hl.qo.typed
  rintro b (rfl | rfl | rfl | rfl | rfl)
  · exact ⟨_, 50, hl.hdr, .inl rfl⟩
  · exact ⟨_, 37, h1, .inr (.inl rfl)⟩
  · exact ⟨_, 5, h2, .inr (.inr rfl)⟩
  · exact ⟨_, 37, h3, .inr (.inl rfl)⟩
  · exact ⟨_, 5, h4, .inr (.inr rfl)⟩
theorem InL.not {w0 w : World} {L : Lk} {v : LV} (h : InL w0 w L v) {g : Nat} {cs : Array Value} {t : TypeId} {fz : Nat × Nat} (hg : w.heap[g]? = some (.cells cs t fz)) (h1 : t ≠ 50) (h2 : t ≠ 37) (h3 : t ≠ 5) : ¬ L.S g := by
  intro hs
  obtain ⟨cs', t', hh, ht⟩ := h.tag g hs
  rw [hg] at hh
  simp only [Option.some.injEq, Obj.cells.injEq] at hh
  obtain ⟨_, rfl, _⟩ := hh
  rcases ht with e | e | e
  · exact h1 e
  · exact h2 e
  · exact h3 e
/-- a wire and a link, side by side -/
structure WL (w0 w : World) (L : Lk) (D : Dk) (x : WX) (v : LV) : Prop where
  inl : InL w0 w L v
  wi : Wi w D x
  lw : w0.heap.size ≤ D.wb
  ls : w0.heap.size ≤ D.sb
  lk : ∀ b, L.S b → b < D.B0
theorem WL.l0 {w0 w : World} {L : Lk} {D : Dk} {x : WX} {v : LV} (h : WL w0 w L D x v) : w0.heap.size ≤ D.B0 := by
  obtain ⟨p, q, hw⟩ := h.wi
  exact Nat.le_trans h.lw (Nat.le_of_lt hw.lw)
theorem WL.nw {w0 w : World} {L : Lk} {D : Dk} {x : WX} {v : LV} (h : WL w0 w L D x v) : ¬ L.S D.wb := by
  obtain ⟨p, q, hw⟩ := h.wi.hdr
  exact h.inl.not hw (by decide) (by decide) (by decide)
theorem WL.ns {w0 w : World} {L : Lk} {D : Dk} {x : WX} {v : LV} (h : WL w0 w L D x v) : ¬ L.S D.sb := h.inl.not h.wi.st (by decide) (by decide) (by decide)
theorem WL.byLink {w0 w w' : World} {L : Lk} {D : Dk} {x : WX} {v v' : LV} (h : WL w0 w L D x v) (hi : InL w0 w' L v') (ho : Only w w' L.S) : WL w0 w' L D x v' :=
  ⟨hi, h.wi.only ho h.nw h.ns (fun k hk _ hs => by have := h.lk k hs; omega), h.lw, h.ls, h.lk⟩
theorem WL.byWire {w0 w w' : World} {L : Lk} {D : Dk} {x x' : WX} {v : LV} (h : WL w0 w L D x v) (hi : Wi w' D x') (ho : Only w w' (D.S w)) : WL w0 w' L D x' v := by
  refine ⟨h.inl.only ho (fun b hb hs => ?_) (fun b hs => ?_), hi, h.lw, h.ls, h.lk⟩
  · rcases hs with rfl | rfl | ⟨h1, _⟩
    · exact h.nw hb
    · exact h.ns hb
    · have := h.lk b hb; omega
  · rcases hs with rfl | rfl | ⟨h1, _⟩
    · exact h.lw
    · exact h.ls
    · exact Nat.le_trans h.l0 h1
/-- all that wire and link write -/
def WS (L : Lk) (D : Dk) (w : World) (x : Nat) : Prop := L.S x ∨ D.S w x
theorem WS.comp {L : Lk} {D : Dk} {w w1 w2 : World} (h1 : Only w w1 (WS L D w)) (h2 : Only w1 w2 (WS L D w1)) : Only w w2 (WS L D w) := by
  refine ⟨h2.os.trans h1.os, h2.tape.trans h1.tape, h2.output.trans h1.output, Nat.le_trans h1.size h2.size, fun k hk hs => ?_⟩
  have hb := h1.block k hk hs
  refine (h2.block k (Nat.lt_of_lt_of_le hk h1.size) (fun hs2 => hs ?_)).trans hb
  rcases hs2 with e | e | e | ⟨e1, cs, fz, e2⟩
  · exact .inl e
  · exact .inr (.inl e)
  · exact .inr (.inr (.inl e))
  · exact .inr (.inr (.inr ⟨e1, cs, fz, hb.symm.trans e2⟩))
theorem WS.ofL {L : Lk} {D : Dk} {w w1 : World} (h : Only w w1 L.S) : Only w w1 (WS L D w) := h.mono (fun _ _ e => .inl e)
theorem WS.ofW {L : Lk} {D : Dk} {w w1 : World} (h : Only w w1 (D.S w)) : Only w w1 (WS L D w) := h.mono (fun _ _ e => .inr e)
theorem WS.drewN {L : Lk} {D : Dk} {w w1 : World} (h : Only w w1 (WS L D w)) (n : Nat) : Only w (w1.drewN n) (WS L D w) := h.drewN n

theorem WL.drewN {w0 w : World} {L : Lk} {D : Dk} {x : WX} {v : LV} (h : WL w0 w L D x v) (n : Nat) : WL w0 (w.drewN n) L D x v :=
  ⟨h.inl.drewN n, h.wi.drewN n, h.lw, h.ls, h.lk⟩
theorem give_le (v : LV) (t : ByteArray) : v.give t ≤ t.size := by
  unfold LV.give
  split <;> omega
def GrantP (w0 w : World) (L : Lk) (D : Dk) (x : WX) (v : LV) (n : Int) (y : Ending) (w' : World) : Prop :=
  y = .returned (.int .i64 ((v.Out.take n.toNat).length : Int)) ∧ WL w0 w' L D { x with T := x.T ++ v.Out.take n.toNat } { v with Out := v.Out.drop n.toNat } ∧ Only w w' (WS L D w)
set_option maxHeartbeats 4000000 in
set_option maxRecDepth 100000 in
theorem wgrant {w0 w : World} {L : Lk} {D : Dk} {x : WX} {v : LV} (h : WL w0 w L D x v) (hO : v.Out.length ≤ 900000) (hT : x.T.length + v.Out.length ≤ 1000000) (n : Int) (h1 : -9223372036854775808 ≤ n) (h2 : n ≤ 9223372036854775807) :
    Calls Try.prog 84 #[.pointer (some ⟨D.wb, 0, none⟩), .pointer (some ⟨L.k, 0, none⟩), .int .i64 n] w (GrantP w0 w L D x v n) := by
  have c0 := h.wi.c0
  have HM := Aside0.mk (wmade w D c0)
  have HT := Aside0.mk (h.inl.take (by omega) n h1 h2)
  have H := Aside0.mk h
  obtain ⟨R, hR⟩ : ∃ R, R = v.Out.take n.toNat := ⟨_, rfl⟩
  have hRl : R.length ≤ v.Out.length := by rw [hR, List.length_take]; omega
  have hsR := st_size R
  have HB := Aside0.mk (And.intro hR (show x.T.length + (st R).size ≤ 1000000 by rw [hsR]; omega))
  clear h h1 h2 hO hT hRl hR c0
  go_enter Try.func84, Try.ntmps84
  go_wp2_with (first | (go_at_call 86; refine HM.out.mono ?_; rintro e w' ⟨rfl, rfl⟩))
  refine HT.out.mono ?_
  rw [← HB.out.1]
  rintro e w1 ⟨rfl, hi1, ho1⟩
  have h1 := H.out.byLink hi1 ho1
  have hc0 := h1.wi.c0
  have HS := Aside0.mk (wstr h1.wi (st R) HB.out.2)
  have H1 := Aside0.mk h1
  have HO1 := Aside0.mk ho1
  clear h1 hi1 ho1
  go_wp2_with fail
  refine HS.out.mono ?_
  rintro e w2 ⟨rfl, hi2, ho2⟩
  have H2 := Aside0.mk (H1.out.byWire hi2 ho2)
  have HO2 := Aside0.mk ho2
  clear hi2 ho2
  go_wp2
  go_ret
  have hw := H2.out
  rw [data_st] at hw
  unfold GrantP
  rw [← HB.out.1]
  exact ⟨rfl, hw, WS.comp (WS.ofL HO1.out) (WS.ofW HO2.out)⟩

/-! ### Read -/
theorem cut_mid (A : List UInt8) (r k : Nat) (h : r + k ≤ A.length) : ∀ W, (Instr.slice 9 (.string (st A)) (some (.int .i64 (r : Int))) (some (.int .i64 ((r : Int) + (k : Int)))) none).run Try.prog W = .ok (.string (st ((A.drop r).take k))) W := fun W => by
  rw [run_slice_string W 9 (st A) .i64 .i64 _ _ Try.underlying9 (by omega) (by omega) (by rw [st_size]; omega)]
  congr 2
  refine ByteArray.ext (Array.toList_inj.1 ?_)
  rw [ByteArray.data_extract, show ((r : Int) + (k : Int)).toNat = r + k by omega, Int.toNat_natCast]
  simp [st, List.take_drop]
theorem wclo {w0 w : World} {L : Lk} {v : LV} (h : InL w0 w L v) (B : Nat) (hB : w.cell? ⟨B, 0, none⟩ = some (.pointer (some ⟨L.k, 0, none⟩))) (t : ByteArray) (ht : t.size ≤ 1000000) :
    Calls Try.prog 101 #[.string t, .pointer (some ⟨B, 0, none⟩)] w fun x w' => x = .returned (.int .i64 (v.give t : Int)) ∧ InL w0 w' L { v with I := v.I ++ t.data.toList.take (v.give t) } ∧ Only w w' L.S := by
  have HG := Aside0.mk (h.give t ht)
  clear h ht
  go_enter Try.func101, Try.ntmps101
  go_wp2_with fail
  refine HG.out.mono ?_
  rintro e w1 ⟨rfl, hi, ho⟩
  have H := Aside0.mk (And.intro hi ho)
  clear hi ho
  go_wp2
  go_ret
  exact ⟨rfl, H.out⟩
/-- how much Read hands over -/
def gotN (x : WX) (v : LV) (n : Int) : Nat := v.give (st ((x.A.drop x.r).take n.toNat))
def readV (x : WX) (v : LV) (n : Int) : LV := { v with I := v.I ++ ((x.A.drop x.r).take n.toNat).take (gotN x v n), e := v.e || (x.e && decide (x.A.length ≤ x.r + gotN x v n)) }
def ReadP (w0 w : World) (L : Lk) (D : Dk) (x : WX) (v : LV) (n : Int) (y : Ending) (w' : World) : Prop :=
  y = .returned (.int .i64 (gotN x v n : Int)) ∧ WL w0 w' L D { x with r := x.r + gotN x v n } (readV x v n) ∧ Only w w' (WS L D w)
set_option maxHeartbeats 4000000 in
set_option maxRecDepth 100000 in
theorem wread {w0 w : World} {L : Lk} {D : Dk} {x : WX} {v : LV} (h : WL w0 w L D x v) (hk : x.ok) (n : Int) :
    Calls Try.prog 80 #[.pointer (some ⟨D.wb, 0, none⟩), .pointer (some ⟨L.k, 0, none⟩), .int .i64 n] w (ReadP w0 w L D x v n) := by
  obtain ⟨W, hW⟩ : ∃ W, W = w.alloc (.cells #[.pointer (some ⟨L.k, 0, none⟩)] 40) := ⟨_, rfl⟩
  have hoW : Only w W L.S := by rw [hW]; exact (Only.refl w _).alloc _
  have hlW : WL w0 W L D x v := h.byLink (h.inl.only (S := fun _ => False) (by rw [hW]; exact (Only.refl w _).alloc _) (fun _ _ e => e) (fun _ e => e.elim)) hoW
  have hB : W.heap[w.heap.size]? = some (.cells #[.pointer (some ⟨L.k, 0, none⟩)] 40 (0, 0)) := by rw [hW]; exact heap_alloc_new w _
  have hcB : W.cell? ⟨w.heap.size, 0, none⟩ = some (.pointer (some ⟨L.k, 0, none⟩)) := (blk_cell hB 0).trans rfl
  have c0 := hlW.wi.c0
  have s0 := hlW.wi.st.c0
  have s1 := hlW.wi.st.c1
  have HM := Aside0.mk (wmade W D c0)
  have HL := Aside0.mk (hlW.wi.left hk)
  have H := Aside0.mk (And.intro hlW hoW)
  have HK := Aside0.mk hk
  obtain ⟨lf, hlf⟩ : ∃ l, l = x.A.length - x.r := ⟨_, rfl⟩
  obtain ⟨N, hN⟩ : ∃ N, N = n.toNat := ⟨_, rfl⟩
  obtain ⟨k, hkk⟩ : ∃ k, k = min N lf := ⟨_, rfl⟩
  have hrA := hk.rA
  have hlA := hk.lA
  have hmax : (if n < 0 then (0 : Int) else n) = (N : Int) := by split <;> omega
  have hmin : (if lf < N then (lf : Int) else (N : Int)) = (k : Int) := by split <;> omega
  have hwr : IntKind.i64.wrap ((x.r : Int) + (k : Int)) = (x.r : Int) + (k : Int) := IntWalk.i64_in _ (by omega)
  have hcut := cut_mid x.A x.r k (by omega)
  obtain ⟨q, hq⟩ : ∃ q, q = (x.A.drop x.r).take k := ⟨_, rfl⟩
  have hq2 : (x.A.drop x.r).take n.toNat = q := by
    rw [hq, hkk, ← hN, hlf]
    rcases Nat.le_total N (x.A.length - x.r) with ha | ha
    · rw [Nat.min_eq_left ha]
    · rw [Nat.min_eq_right ha, List.take_of_length_le (by rw [List.length_drop]; omega), List.take_of_length_le (by rw [List.length_drop]; omega)]
  rw [← hq] at hcut
  obtain ⟨zA, hzA⟩ : ∃ z, z = st x.A := ⟨_, rfl⟩
  obtain ⟨zq, hzq⟩ : ∃ z, z = st q := ⟨_, rfl⟩
  obtain ⟨g, hg⟩ : ∃ g, g = v.give zq := ⟨_, rfl⟩
  have hgn : gotN x v n = g := by unfold gotN; rw [hq2, hg, hzq]
  rw [← hzA] at s0 hcut
  have HZA := Aside0.mk hzA
  rw [← hzq] at hcut
  have hql : q.length ≤ lf := by rw [hq, List.length_take, List.length_drop]; omega
  have hgl : g ≤ lf := by have := give_le v zq; rw [hzq, st_size] at this; rw [hg, hzq]; omega
  have hwr2 : IntKind.i64.wrap ((x.r : Int) + (g : Int)) = (x.r : Int) + (g : Int) := IntWalk.i64_in _ (by omega)
  have HQ := Aside0.mk (And.intro hq2 (And.intro hzq (And.intro hql (And.intro hlf (And.intro hg (And.intro hgn hgl))))))
  obtain ⟨ee, hee⟩ : ∃ e, e = x.e := ⟨_, rfl⟩
  obtain ⟨lf3, hlf3⟩ : ∃ l, l = x.A.length - (x.r + g) := ⟨_, rfl⟩
  have hrv : readV x v n = { v with I := v.I ++ zq.data.toList.take g, e := v.e || (ee && decide (lf3 = 0)) } := by
    unfold readV
    rw [hgn, hq2, hzq, data_st, hee, show decide (lf3 = 0) = decide (x.A.length ≤ x.r + g) from decide_eq_decide.2 (by omega)]
  have HRV := Aside0.mk (And.intro hrv hgn)
  have HE := Aside0.mk (And.intro hee hlf3)
  clear hrv
  clear hee hlf3
  have HW := Aside0.mk hW
  have HBB := Aside0.mk hB
  rw [← hlf] at HL
  clear h hlW hk hoW hB hN hkk hrA hlA hq hq2 hzA hzq hql hlf hW hg hgn hgl
  go_enter Try.func80, Try.ntmps80
  go_wp2_with fail
  rw [← HW.out]
  go_wp2_with (first | (go_at_call 86; refine HM.out.mono ?_; rintro e w' ⟨rfl, rfl⟩))
  go_region_held3 (fun w' => w'.cell? ⟨D.wb, 0, none⟩ = some (.pointer (some ⟨D.sb, 0, none⟩)) ∧ w'.cell? ⟨D.sb, 0, none⟩ = some (.string zA) ∧ w'.cell? ⟨D.sb, 1, none⟩ = some (.int .i64 (x.r : Int))) (first | assumption | go_keep)
    (first | (go_at_call 45; refine (HL.out 1).mono ?_; rintro e w' ⟨rfl, nd, rfl⟩) | (go_at_call 101; refine (wclo (w := W.drewN nd) (H.out.1.inl.drewN nd) w.heap.size hcB zq (by have := HQ.out; have := HK.out.lA; rw [HQ.out.2.1, st_size]; omega)).mono ?_; rw [← HQ.out.2.2.2.2.1]; rintro e w2 ⟨rfl, hi2, ho2⟩; have h2 := (H.out.1.drewN nd).byLink hi2 ho2; have c20 := h2.wi.c0; have s20 := h2.wi.st.c0; have s21 := h2.wi.st.c1; have HB2 := Aside0.mk (ho2.blk (show (W.drewN nd).heap[w.heap.size]? = _ from HBB.out) ((H.out.1.drewN nd).inl.not HBB.out (by decide) (by decide) (by decide))); have f21 := blk_frozen h2.wi.st 1; have s22 := h2.wi.st.c2; rw [← HE.out.1] at s22; rw [← HZA.out] at s20; have H2 := Aside0.mk (And.intro h2 ho2); clear hi2 ho2 h2))
  all_goals (
    have h3 : Wi (w2.setCell ⟨D.sb, 1, none⟩ (.int .i64 ((x.r : Int) + (g : Int)))) D { x with r := x.r + g } := H2.out.1.wi.stock (H2.out.1.wi.st.setR (x.r + g)) (only_set D.sb 1 _)
    have ho3 : Only w2 (w2.setCell ⟨D.sb, 1, none⟩ (.int .i64 ((x.r : Int) + (g : Int)))) (D.S w2) := (only_set D.sb 1 _).mono (fun _ _ e => .inr (.inl e))
    have hw3 := H2.out.1.byWire h3 ho3
    have hL3 := h3.left ⟨by have := HQ.out.2.2.2.2.2.2; have := HQ.out.2.2.2.1; have := HK.out.rA; show x.r + g ≤ x.A.length; omega, HK.out.lA, HK.out.lT⟩ 0
    simp only at hL3
    rw [← HE.out.2] at hL3
    have hB3 : (w2.setCell ⟨D.sb, 1, none⟩ (.int .i64 ((x.r : Int) + (g : Int)))).heap[w.heap.size]? = some (.cells #[.pointer (some ⟨L.k, 0, none⟩)] 40 (0, 0)) := (only_set D.sb 1 _).blk HB2.out (fun e => blk_ne HB2.out H2.out.1.wi.st (by decide) e)
    have H3 := Aside0.mk (And.intro hw3 (WS.comp (WS.ofL H2.out.2) (WS.ofW ho3)))
    have HL3 := Aside0.mk hL3
    have HB3 := Aside0.mk hB3
    clear h3 ho3 hw3 hL3 hB3
    cases ee with
    | false =>
      go_wp2
      go_ret
      refine ⟨?_, ?_, WS.comp (WS.ofL (H.out.2.drewN _)) H3.out.2⟩
      · rw [HRV.out.2]; rfl
      · rw [HRV.out.2, HRV.out.1, Bool.false_and, Bool.or_false]
        exact H3.out.1
    | true =>
      by_cases hz : lf3 = 0
      · subst hz
        go_wp2_with (first | (go_at_call 45; refine HL3.out.mono ?_; rintro e w4 ⟨rfl, nd4, hw4⟩; have hb4 : w4.cell? ⟨w.heap.size, 0, none⟩ = some (.pointer (some ⟨L.k, 0, none⟩)) := (by rw [hw4]; exact (blk_cell HB3.out 0).trans rfl); have H4 := Aside0.mk (show WL w0 w4 L D _ _ ∧ Only _ w4 _ from by rw [hw4]; exact ⟨H3.out.1.drewN nd4, H3.out.2.drewN nd4⟩); clear hw4) | (go_at_call 35; refine (H4.out.1.inl.end_).mono ?_; rintro e w5 ⟨rfl, hi5, ho5⟩; have H5 := Aside0.mk (And.intro (H4.out.1.byLink hi5 ho5) (WS.comp (WS.ofL (H.out.2.drewN _)) (WS.comp H4.out.2 (WS.ofL ho5)))); clear hi5 ho5))
        go_ret
        refine ⟨?_, ?_, H5.out.2⟩
        · rw [HRV.out.2]; rfl
        · rw [HRV.out.2, HRV.out.1]
          simp only [decide_true, Bool.and_true, Bool.or_true]
          exact H5.out.1
      · have hz' : ((lf3 : Int) == 0) = false := by simp; omega
        go_wp2_with (first | (go_at_call 45; refine HL3.out.mono ?_; rintro e w4 ⟨rfl, nd4, rfl⟩))
        go_ret
        refine ⟨?_, ?_, (WS.comp (WS.ofL (H.out.2.drewN _)) H3.out.2).drewN _⟩
        · rw [HRV.out.2]; rfl
        · rw [HRV.out.2, HRV.out.1, decide_eq_false hz, Bool.and_false, Bool.or_false]
          exact H3.out.1.drewN _
  )
end Go.Proofs.Ytacglolggaobdaa.Qu
