/- tally.Tally[K].Add at strings and at ints, Tally[int].Of: over what TlMap says of a tally. Written by wip/mktl.py. -/
import Derived.Test.YtacglolggaobdabTlMap
import Derived.Test.YtacglolggaobdabWWords
import Derived.Test.YtacglolggaobdabWMore
import Derived.WalkLawsBesides
import Derived.StillTailTactics
import Derived.Outline
namespace Go.Proofs.Ytacglolggaobdab.TL
open Go.RowKit Go.Maps Go.Proofs.YtacglolggaobdabW.PrintWords Go.Proofs.YtacglolggaobdabW.PrintLast Go.Proofs.YtacglolggaobdabW.PrintMore
attribute [local go_sem] max2_int min2_int max_two min_two max_three min_three max_four min_four
set_option linter.unusedVariables false
set_option linter.unusedSimpArgs false

theorem cell0 {w : World} {T ty : Nat} {v : Value} (h : w.heap[T]? = some (.cells #[v] ty (0, 0))) : w.cell? ⟨T, 0, none⟩ = some v := by simp [World.cell?, h]
theorem froz0 {w : World} {T ty : Nat} {v : Value} (h : w.heap[T]? = some (.cells #[v] ty (0, 0))) : w.frozen? ⟨T, 0, none⟩ = false := by simp [World.frozen?, h]
theorem set0 {w : World} {T ty : Nat} {v : Value} (h : w.heap[T]? = some (.cells #[v] ty (0, 0))) (u : Value) : (w.setCell ⟨T, 0, none⟩ u).heap[T]? = some (.cells #[u] ty (0, 0)) := Boxed.set u h
theorem lt0 {w : World} {T : Nat} {o : Obj} (h : w.heap[T]? = some o) : T < w.heap.size := (Array.getElem?_eq_some_iff.1 h).1

theorem grown_two {a b c : World} {T M : Nat} (h : a.grownBy b (some T)) (k : b.grownBy c (some M)) (hM : a.heap.size ≤ M) : a.grownBy c (some T) :=
  ⟨k.1.trans h.1, k.2.trans h.2, k.3.trans h.3, Nat.le_trans h.4 k.4, fun i hi hne => (k.5 i (Nat.lt_of_lt_of_le hi h.4) (fun e => by injection e with e; omega)).trans (h.5 i hi hne)⟩
theorem MapF.mono {κ : Type} {mk : κ → Lit} {kt : TypeId} {w : World} {M n m : Nat} {f : κ → Int} {h : κ → Prop} (H : MapF mk kt w M n f h) (hm : n ≤ m) : MapF mk kt w M m f h := by
  obtain ⟨D, ⟨es, clock, hb, F, hs, hD⟩, r⟩ := H
  exact ⟨D, ⟨es, clock, hb, F, Nat.le_trans hs hm, hD⟩, r⟩

set_option maxHeartbeats 2000000 in
set_option maxRecDepth 100000 in
theorem addS_some (w : World) (T M n : Nat) (f : List UInt8 → Int) (h : List UInt8 → Prop) (k : ByteArray) (c r : Int) (hT : w.heap[T]? = some (.cells #[.map (some M)] 94 (0, 0))) (hM : MapF mkS 9 w M n f h) (hn : n < maxLen) (hk : k.size ≤ maxLen)
    (h0 : 0 ≤ f k.data.toList) (h1 : f k.data.toList ≤ 1099511627776) (hr : plus (f k.data.toList) c = r) :
    Calls Try.prog 57 #[.pointer (some ⟨T, 0, none⟩), .string k, .int .i64 c] w fun e w' => e = .returned (.int .i64 r) ∧ MapF mkS 9 w' M (n + 1) (upd f k.data.toList r) (also h k.data.toList) ∧ w.grownBy w' (some M) := by
  have hkey := keyS k hk
  have hne : T ≠ M := fun e => by
    obtain ⟨o, ho, hc⟩ := hM.notcells
    rw [← e, hT] at ho
    cases ho; cases hc
  have hlk := hM.lookW law9 under92 hkey
  obtain ⟨v, hv⟩ : ∃ v, v = f k.data.toList := ⟨_, rfl⟩
  rw [← hv] at h0 h1 hr hlk
  obtain ⟨m1, hm1⟩ : ∃ m1, m1 = max c 0 := ⟨_, rfl⟩
  obtain ⟨m2, hm2⟩ : ∃ m2, m2 = min m1 (1099511627776 - v) := ⟨_, rfl⟩
  have hmax : (if c < 0 then 0 else c) = m1 := by rw [hm1]; split <;> omega
  have hmin : (if 1099511627776 - v < m1 then 1099511627776 - v else m1) = m2 := by rw [hm2]; split <;> omega
  have hsum : v + m2 = r := by rw [← hr, hm2, hm1]; rfl
  have hw1 : IntKind.i64.wrap (1099511627776 - v) = 1099511627776 - v := by rw [IntKind.wrap_i64]; omega
  have hw2 : IntKind.i64.wrap (v + m2) = r := by rw [IntKind.wrap_i64, ← hsum]; omega
  have hcell : w.cell? ⟨T, 0, none⟩ = some (.map (some M)) := cell0 hT
  have hnil : ∀ W, (binOp BinOp.eql 92 (.map (some M)) (.map none)).run Try.prog W = .ok (.bool false) W := fun W => by kernel_rfl
  obtain ⟨wd, hwd⟩ : ∃ wd : World, wd = w.drew := ⟨_, rfl⟩
  have hwh : wd.heap = w.heap := by rw [hwd]; rfl
  have hgd : w.grownBy wd (some M) := by rw [hwd]; exact ⟨rfl, rfl, rfl, Nat.le_refl _, fun _ _ _ => rfl⟩
  have hlk1 := hlk wd (by rw [hwh])
  obtain ⟨w2, hup, hM2, hg2⟩ := (hM.heap (w' := wd) (by rw [hwh])).put law9 injS litS under92 hkey hn (c := r) (wf64 (by omega) (by omega))
  have hc2 : w2.heap[T]? = some (.cells #[.map (some M)] 94 (0, 0)) := by
    rw [hg2.block T (by rw [hwh]; exact lt0 hT) (by simp; exact hne), hwh]; exact hT
  have hcell2 : w2.cell? ⟨T, 0, none⟩ = some (.map (some M)) := cell0 hc2
  have hlk2 := hM2.look law9 under92 hkey w2 rfl
  have hrr : upd f k.data.toList r k.data.toList = r := if_pos rfl
  rw [hrr] at hlk2
  have hcd : wd.cell? ⟨T, 0, none⟩ = some (.map (some M)) := by rw [hwd]; exact hcell
  have HM2 := Aside0.mk hM2
  have HG := Aside0.mk (World.grownBy.trans hgd hg2)
  clear hM2 hg2 hgd hwh hlk hM hkey hT hc2 hv hm1 hm2 hr hsum hrr
  go_enter Try.func57, Try.ntmps57
  go_wp2_with fail
  subst hwd
  go_still_tail 17, (by kernel_rfl)
  go_wp2_with fail
  go_ret
  exact ⟨rfl, HM2.out, HG.out⟩

set_option maxHeartbeats 2000000 in
set_option maxRecDepth 100000 in
theorem addS_none (w : World) (T : Nat) (k : ByteArray) (c r : Int) (hT : w.heap[T]? = some (.cells #[.map none] 94 (0, 0))) (hk : k.size ≤ maxLen) (hr : plus 0 c = r) :
    Calls Try.prog 57 #[.pointer (some ⟨T, 0, none⟩), .string k, .int .i64 c] w fun e w' => e = .returned (.int .i64 r) ∧ w'.heap[T]? = some (.cells #[.map (some w.heap.size)] 94 (0, 0)) ∧ MapF mkS 9 w' w.heap.size 1 (upd (fun _ => 0) k.data.toList r) (also (fun _ => False) k.data.toList) ∧ w.grownBy w' (some T) := by
  have hkey := keyS k hk
  obtain ⟨M, hMM⟩ : ∃ M, M = w.heap.size := ⟨_, rfl⟩
  have hTl := lt0 hT
  obtain ⟨v, hv⟩ : ∃ v : Int, v = 0 := ⟨_, rfl⟩
  have h0 : 0 ≤ v := by omega
  have h1 : v ≤ 1099511627776 := by omega
  rw [← hv] at hr
  obtain ⟨m1, hm1⟩ : ∃ m1, m1 = max c 0 := ⟨_, rfl⟩
  obtain ⟨m2, hm2⟩ : ∃ m2, m2 = min m1 (1099511627776 - v) := ⟨_, rfl⟩
  have hmax : (if c < 0 then 0 else c) = m1 := by rw [hm1]; split <;> omega
  have hmin : (if 1099511627776 - v < m1 then 1099511627776 - v else m1) = m2 := by rw [hm2]; split <;> omega
  have hsum : v + m2 = r := by rw [← hr, hm2, hm1]; rfl
  have hw1 : IntKind.i64.wrap (1099511627776 - v) = 1099511627776 - v := by rw [IntKind.wrap_i64]; omega
  have hw2 : IntKind.i64.wrap (v + m2) = r := by rw [IntKind.wrap_i64, ← hsum]; omega
  have hcell : w.cell? ⟨T, 0, none⟩ = some (.map none) := cell0 hT
  have hfro : w.frozen? ⟨T, 0, none⟩ = false := froz0 hT
  have hnil : ∀ W, (binOp BinOp.eql 92 (.map none) (.map none)).run Try.prog W = .ok (.bool true) W := fun W => by kernel_rfl
  have hmm := @run_makeMap Try.prog
  have hT1 : (w.alloc (.map #[] 0)).heap[T]? = some (.cells #[.map none] 94 (0, 0)) := (Below.heap_alloc _ _ _ hTl).trans hT
  have hcA := cell0 hT1
  have hfA := froz0 hT1
  have hT2 := set0 hT1 (.map (some w.heap.size))
  have hMF : MapF mkS 9 ((w.alloc (.map #[] 0)).setCell ⟨T, 0, none⟩ (.map (some w.heap.size))) w.heap.size 0 (fun _ => 0) (fun _ => False) :=
    (MapF.start w).heap (Below.heap_setCell _ _ _ _ (by show w.heap.size ≠ T; omega))
  have hgA : w.grownBy ((w.alloc (.map #[] 0)).setCell ⟨T, 0, none⟩ (.map (some w.heap.size))) (some T) := World.grownBy.trans (World.grownBy_alloc w _ _) (grownBy_setCell' _ _ _)
  have HT2 := Aside0.mk hT2
  have HMF := Aside0.mk hMF
  have HGA := Aside0.mk hgA
  have HR := Aside0.mk (And.intro hr hsum)
  have HMM := Aside0.mk hMM
  have HV := Aside0.mk hv
  clear hT2 hMF hgA hT hT1 hr hsum hm1 hm2 hTl hMM hv
  go_enter Try.func57, Try.ntmps57
  go_wp2_with fail
  clear hmm hnil hcell hfro hcA hfA
  generalize hW : (w.alloc (.map #[] 0)).setCell ⟨T, 0, none⟩ (.map (some w.heap.size)) = W at *
  rw [← HMM.out] at HT2 HMF ⊢
  have hMF := HMF.out
  have hTW := HT2.out
  have hgA := HGA.out
  have hTl := lt0 hTW
  have hne : T ≠ M := fun e => by
    obtain ⟨o, ho, hc⟩ := hMF.notcells
    rw [← e, hTW] at ho
    cases ho; cases hc
  have hMl := hMF.lt
  have hlk := hMF.lookW law9 under92 hkey
  rw [← HV.out] at hlk
  have hcell : W.cell? ⟨T, 0, none⟩ = some (.map (some M)) := cell0 hTW
  obtain ⟨wd, hwd⟩ : ∃ wd : World, wd = W.drew := ⟨_, rfl⟩
  have hwh : wd.heap = W.heap := by rw [hwd]; rfl
  have hgd : W.grownBy wd (some M) := by rw [hwd]; exact ⟨rfl, rfl, rfl, Nat.le_refl _, fun _ _ _ => rfl⟩
  have hlk1 := hlk wd (by rw [hwh])
  have hr1 := HR.out
  obtain ⟨w2, hup, hM2, hg2⟩ := (hMF.heap (w' := wd) (by rw [hwh])).put law9 injS litS under92 hkey (by decide) (c := r) (wf64 (by omega) (by omega))
  have hc2 : w2.heap[T]? = some (.cells #[.map (some M)] 94 (0, 0)) := by
    rw [hg2.block T (by rw [hwh]; exact hTl) (by simp; exact hne), hwh]; exact hTW
  have hcell2 : w2.cell? ⟨T, 0, none⟩ = some (.map (some M)) := cell0 hc2
  have hlk2 := hM2.look law9 under92 hkey w2 rfl
  have hrr : upd (fun _ => 0) k.data.toList r k.data.toList = r := if_pos rfl
  rw [hrr] at hlk2
  have hcd : wd.cell? ⟨T, 0, none⟩ = some (.map (some M)) := by rw [hwd]; exact hcell
  have HM2 := Aside0.mk hM2
  have HC2 := Aside0.mk hc2
  have HG : Aside0 (w.grownBy w2 (some T)) := ⟨grown_two hgA (World.grownBy.trans hgd hg2) (Nat.le_of_eq HMM.out.symm)⟩
  clear hM2 hg2 hgd hwh hlk hMF hkey hTW hc2 hrr hgA hTl hMl hr1
  subst hwd
  go_still_tail 17, (by kernel_rfl)
  go_wp2_with fail
  go_ret
  rw [← HMM.out]
  exact ⟨rfl, HC2.out, HM2.out, HG.out⟩

/-- Add at a tally. -/
theorem addS (w : World) (base T n : Nat) (f : List UInt8 → Int) (h : List UInt8 → Prop) (k : ByteArray) (c r : Int) (hT : TK mkS 9 94 w base T n f h) (hn : n < maxLen) (hk : k.size ≤ maxLen) (h0 : 0 ≤ f k.data.toList) (h1 : f k.data.toList ≤ 1099511627776) (hr : plus (f k.data.toList) c = r) :
    Calls Try.prog 57 #[.pointer (some ⟨T, 0, none⟩), .string k, .int .i64 c] w fun e w' => e = .returned (.int .i64 r) ∧ TK mkS 9 94 w' base T (n + 1) (upd f k.data.toList r) (also h k.data.toList) ∧ Below base w w' ∧ ∀ b o, w.heap[b]? = some o → o.isCells = true → b ≠ T → w'.heap[b]? = some o := by
  obtain ⟨hb, hT | ⟨M, hT, hbM, hM⟩⟩ := hT
  · obtain ⟨hT, hz, hh⟩ := hT
    have hsz := lt0 hT
    refine (addS_none w T k c r hT hk (by rw [← hz k.data.toList]; exact hr)).mono ?_
    rintro e w' ⟨rfl, h2, h3, h4⟩
    have ef : f = fun _ => 0 := funext hz
    have eh : h = fun _ => False := funext fun x => propext ⟨hh x, False.elim⟩
    rw [ef, eh]
    refine ⟨rfl, ⟨hb, Or.inr ⟨_, h2, by omega, h3.mono (by omega)⟩⟩, (Below.refl base w).grown h4 (by omega) (fun k e => by cases e; exact hb), fun b o ho hc hne => ?_⟩
    exact (h4.block b (lt0 ho) (by simp; omega)).trans ho
  · refine (addS_some w T M n f h k c r hT hM hn hk h0 h1 hr).mono ?_
    rintro e w' ⟨rfl, h3, h4⟩
    have hsz := lt0 hT
    have hne : T ≠ M := fun e => by
      obtain ⟨o, ho, hc⟩ := hM.notcells
      rw [← e, hT] at ho
      cases ho; cases hc
    refine ⟨rfl, ⟨hb, Or.inr ⟨M, (h4.block T hsz (by simp; exact hne)).trans hT, hbM, h3⟩⟩, (Below.refl base w).grown h4 (by omega) (fun k e => by cases e; exact hbM), fun b o ho hc hne2 => ?_⟩
    refine (h4.block b (lt0 ho) (fun e => ?_)).trans ho
    injection e with e
    obtain ⟨o2, ho2, hc2⟩ := hM.notcells
    rw [← e, ho] at ho2
    cases ho2
    rw [hc] at hc2; cases hc2

set_option maxHeartbeats 2000000 in
set_option maxRecDepth 100000 in
theorem addI_some (w : World) (T M n : Nat) (f : Int → Int) (h : Int → Prop) (k : Int) (c r : Int) (hT : w.heap[T]? = some (.cells #[.map (some M)] 70 (0, 0))) (hM : MapF mkI 3 w M n f h) (hn : n < maxLen) (hk : (Lit.int .i64 k).wf = true)
    (h0 : 0 ≤ f k) (h1 : f k ≤ 1099511627776) (hr : plus (f k) c = r) :
    Calls Try.prog 33 #[.pointer (some ⟨T, 0, none⟩), .int .i64 k, .int .i64 c] w fun e w' => e = .returned (.int .i64 r) ∧ MapF mkI 3 w' M (n + 1) (upd f k r) (also h k) ∧ w.grownBy w' (some M) := by
  have hkey := keyI k hk
  have hne : T ≠ M := fun e => by
    obtain ⟨o, ho, hc⟩ := hM.notcells
    rw [← e, hT] at ho
    cases ho; cases hc
  have hlk := hM.lookW law3 under68 hkey
  obtain ⟨v, hv⟩ : ∃ v, v = f k := ⟨_, rfl⟩
  rw [← hv] at h0 h1 hr hlk
  obtain ⟨m1, hm1⟩ : ∃ m1, m1 = max c 0 := ⟨_, rfl⟩
  obtain ⟨m2, hm2⟩ : ∃ m2, m2 = min m1 (1099511627776 - v) := ⟨_, rfl⟩
  have hmax : (if c < 0 then 0 else c) = m1 := by rw [hm1]; split <;> omega
  have hmin : (if 1099511627776 - v < m1 then 1099511627776 - v else m1) = m2 := by rw [hm2]; split <;> omega
  have hsum : v + m2 = r := by rw [← hr, hm2, hm1]; rfl
  have hw1 : IntKind.i64.wrap (1099511627776 - v) = 1099511627776 - v := by rw [IntKind.wrap_i64]; omega
  have hw2 : IntKind.i64.wrap (v + m2) = r := by rw [IntKind.wrap_i64, ← hsum]; omega
  have hcell : w.cell? ⟨T, 0, none⟩ = some (.map (some M)) := cell0 hT
  have hnil : ∀ W, (binOp BinOp.eql 68 (.map (some M)) (.map none)).run Try.prog W = .ok (.bool false) W := fun W => by kernel_rfl
  obtain ⟨wd, hwd⟩ : ∃ wd : World, wd = w.drew := ⟨_, rfl⟩
  have hwh : wd.heap = w.heap := by rw [hwd]; rfl
  have hgd : w.grownBy wd (some M) := by rw [hwd]; exact ⟨rfl, rfl, rfl, Nat.le_refl _, fun _ _ _ => rfl⟩
  have hlk1 := hlk wd (by rw [hwh])
  obtain ⟨w2, hup, hM2, hg2⟩ := (hM.heap (w' := wd) (by rw [hwh])).put law3 injI litI under68 hkey hn (c := r) (wf64 (by omega) (by omega))
  have hc2 : w2.heap[T]? = some (.cells #[.map (some M)] 70 (0, 0)) := by
    rw [hg2.block T (by rw [hwh]; exact lt0 hT) (by simp; exact hne), hwh]; exact hT
  have hcell2 : w2.cell? ⟨T, 0, none⟩ = some (.map (some M)) := cell0 hc2
  have hlk2 := hM2.look law3 under68 hkey w2 rfl
  have hrr : upd f k r k = r := if_pos rfl
  rw [hrr] at hlk2
  have hcd : wd.cell? ⟨T, 0, none⟩ = some (.map (some M)) := by rw [hwd]; exact hcell
  have HM2 := Aside0.mk hM2
  have HG := Aside0.mk (World.grownBy.trans hgd hg2)
  clear hM2 hg2 hgd hwh hlk hM hkey hT hc2 hv hm1 hm2 hr hsum hrr
  go_enter Try.func33, Try.ntmps33
  go_wp2_with fail
  subst hwd
  go_still_tail 17, (by kernel_rfl)
  go_wp2_with fail
  go_ret
  exact ⟨rfl, HM2.out, HG.out⟩

set_option maxHeartbeats 2000000 in
set_option maxRecDepth 100000 in
theorem addI_none (w : World) (T : Nat) (k : Int) (c r : Int) (hT : w.heap[T]? = some (.cells #[.map none] 70 (0, 0))) (hk : (Lit.int .i64 k).wf = true) (hr : plus 0 c = r) :
    Calls Try.prog 33 #[.pointer (some ⟨T, 0, none⟩), .int .i64 k, .int .i64 c] w fun e w' => e = .returned (.int .i64 r) ∧ w'.heap[T]? = some (.cells #[.map (some w.heap.size)] 70 (0, 0)) ∧ MapF mkI 3 w' w.heap.size 1 (upd (fun _ => 0) k r) (also (fun _ => False) k) ∧ w.grownBy w' (some T) := by
  have hkey := keyI k hk
  obtain ⟨M, hMM⟩ : ∃ M, M = w.heap.size := ⟨_, rfl⟩
  have hTl := lt0 hT
  obtain ⟨v, hv⟩ : ∃ v : Int, v = 0 := ⟨_, rfl⟩
  have h0 : 0 ≤ v := by omega
  have h1 : v ≤ 1099511627776 := by omega
  rw [← hv] at hr
  obtain ⟨m1, hm1⟩ : ∃ m1, m1 = max c 0 := ⟨_, rfl⟩
  obtain ⟨m2, hm2⟩ : ∃ m2, m2 = min m1 (1099511627776 - v) := ⟨_, rfl⟩
  have hmax : (if c < 0 then 0 else c) = m1 := by rw [hm1]; split <;> omega
  have hmin : (if 1099511627776 - v < m1 then 1099511627776 - v else m1) = m2 := by rw [hm2]; split <;> omega
  have hsum : v + m2 = r := by rw [← hr, hm2, hm1]; rfl
  have hw1 : IntKind.i64.wrap (1099511627776 - v) = 1099511627776 - v := by rw [IntKind.wrap_i64]; omega
  have hw2 : IntKind.i64.wrap (v + m2) = r := by rw [IntKind.wrap_i64, ← hsum]; omega
  have hcell : w.cell? ⟨T, 0, none⟩ = some (.map none) := cell0 hT
  have hfro : w.frozen? ⟨T, 0, none⟩ = false := froz0 hT
  have hnil : ∀ W, (binOp BinOp.eql 68 (.map none) (.map none)).run Try.prog W = .ok (.bool true) W := fun W => by kernel_rfl
  have hmm := @run_makeMap Try.prog
  have hT1 : (w.alloc (.map #[] 0)).heap[T]? = some (.cells #[.map none] 70 (0, 0)) := (Below.heap_alloc _ _ _ hTl).trans hT
  have hcA := cell0 hT1
  have hfA := froz0 hT1
  have hT2 := set0 hT1 (.map (some w.heap.size))
  have hMF : MapF mkI 3 ((w.alloc (.map #[] 0)).setCell ⟨T, 0, none⟩ (.map (some w.heap.size))) w.heap.size 0 (fun _ => 0) (fun _ => False) :=
    (MapF.start w).heap (Below.heap_setCell _ _ _ _ (by show w.heap.size ≠ T; omega))
  have hgA : w.grownBy ((w.alloc (.map #[] 0)).setCell ⟨T, 0, none⟩ (.map (some w.heap.size))) (some T) := World.grownBy.trans (World.grownBy_alloc w _ _) (grownBy_setCell' _ _ _)
  have HT2 := Aside0.mk hT2
  have HMF := Aside0.mk hMF
  have HGA := Aside0.mk hgA
  have HR := Aside0.mk (And.intro hr hsum)
  have HMM := Aside0.mk hMM
  have HV := Aside0.mk hv
  clear hT2 hMF hgA hT hT1 hr hsum hm1 hm2 hTl hMM hv
  go_enter Try.func33, Try.ntmps33
  go_wp2_with fail
  clear hmm hnil hcell hfro hcA hfA
  generalize hW : (w.alloc (.map #[] 0)).setCell ⟨T, 0, none⟩ (.map (some w.heap.size)) = W at *
  rw [← HMM.out] at HT2 HMF ⊢
  have hMF := HMF.out
  have hTW := HT2.out
  have hgA := HGA.out
  have hTl := lt0 hTW
  have hne : T ≠ M := fun e => by
    obtain ⟨o, ho, hc⟩ := hMF.notcells
    rw [← e, hTW] at ho
    cases ho; cases hc
  have hMl := hMF.lt
  have hlk := hMF.lookW law3 under68 hkey
  rw [← HV.out] at hlk
  have hcell : W.cell? ⟨T, 0, none⟩ = some (.map (some M)) := cell0 hTW
  obtain ⟨wd, hwd⟩ : ∃ wd : World, wd = W.drew := ⟨_, rfl⟩
  have hwh : wd.heap = W.heap := by rw [hwd]; rfl
  have hgd : W.grownBy wd (some M) := by rw [hwd]; exact ⟨rfl, rfl, rfl, Nat.le_refl _, fun _ _ _ => rfl⟩
  have hlk1 := hlk wd (by rw [hwh])
  have hr1 := HR.out
  obtain ⟨w2, hup, hM2, hg2⟩ := (hMF.heap (w' := wd) (by rw [hwh])).put law3 injI litI under68 hkey (by decide) (c := r) (wf64 (by omega) (by omega))
  have hc2 : w2.heap[T]? = some (.cells #[.map (some M)] 70 (0, 0)) := by
    rw [hg2.block T (by rw [hwh]; exact hTl) (by simp; exact hne), hwh]; exact hTW
  have hcell2 : w2.cell? ⟨T, 0, none⟩ = some (.map (some M)) := cell0 hc2
  have hlk2 := hM2.look law3 under68 hkey w2 rfl
  have hrr : upd (fun _ => 0) k r k = r := if_pos rfl
  rw [hrr] at hlk2
  have hcd : wd.cell? ⟨T, 0, none⟩ = some (.map (some M)) := by rw [hwd]; exact hcell
  have HM2 := Aside0.mk hM2
  have HC2 := Aside0.mk hc2
  have HG : Aside0 (w.grownBy w2 (some T)) := ⟨grown_two hgA (World.grownBy.trans hgd hg2) (Nat.le_of_eq HMM.out.symm)⟩
  clear hM2 hg2 hgd hwh hlk hMF hkey hTW hc2 hrr hgA hTl hMl hr1
  subst hwd
  go_still_tail 17, (by kernel_rfl)
  go_wp2_with fail
  go_ret
  rw [← HMM.out]
  exact ⟨rfl, HC2.out, HM2.out, HG.out⟩

/-- Add at a tally. -/
theorem addI (w : World) (base T n : Nat) (f : Int → Int) (h : Int → Prop) (k : Int) (c r : Int) (hT : TK mkI 3 70 w base T n f h) (hn : n < maxLen) (hk : (Lit.int .i64 k).wf = true) (h0 : 0 ≤ f k) (h1 : f k ≤ 1099511627776) (hr : plus (f k) c = r) :
    Calls Try.prog 33 #[.pointer (some ⟨T, 0, none⟩), .int .i64 k, .int .i64 c] w fun e w' => e = .returned (.int .i64 r) ∧ TK mkI 3 70 w' base T (n + 1) (upd f k r) (also h k) ∧ Below base w w' ∧ ∀ b o, w.heap[b]? = some o → o.isCells = true → b ≠ T → w'.heap[b]? = some o := by
  obtain ⟨hb, hT | ⟨M, hT, hbM, hM⟩⟩ := hT
  · obtain ⟨hT, hz, hh⟩ := hT
    have hsz := lt0 hT
    refine (addI_none w T k c r hT hk (by rw [← hz k]; exact hr)).mono ?_
    rintro e w' ⟨rfl, h2, h3, h4⟩
    have ef : f = fun _ => 0 := funext hz
    have eh : h = fun _ => False := funext fun x => propext ⟨hh x, False.elim⟩
    rw [ef, eh]
    refine ⟨rfl, ⟨hb, Or.inr ⟨_, h2, by omega, h3.mono (by omega)⟩⟩, (Below.refl base w).grown h4 (by omega) (fun k e => by cases e; exact hb), fun b o ho hc hne => ?_⟩
    exact (h4.block b (lt0 ho) (by simp; omega)).trans ho
  · refine (addI_some w T M n f h k c r hT hM hn hk h0 h1 hr).mono ?_
    rintro e w' ⟨rfl, h3, h4⟩
    have hsz := lt0 hT
    have hne : T ≠ M := fun e => by
      obtain ⟨o, ho, hc⟩ := hM.notcells
      rw [← e, hT] at ho
      cases ho; cases hc
    refine ⟨rfl, ⟨hb, Or.inr ⟨M, (h4.block T hsz (by simp; exact hne)).trans hT, hbM, h3⟩⟩, (Below.refl base w).grown h4 (by omega) (fun k e => by cases e; exact hbM), fun b o ho hc hne2 => ?_⟩
    refine (h4.block b (lt0 ho) (fun e => ?_)).trans ho
    injection e with e
    obtain ⟨o2, ho2, hc2⟩ := hM.notcells
    rw [← e, ho] at ho2
    cases ho2
    rw [hc] at hc2; cases hc2
end Go.Proofs.Ytacglolggaobdab.TL
