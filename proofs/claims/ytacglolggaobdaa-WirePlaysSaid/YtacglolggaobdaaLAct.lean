/- The law's act on a link and the reference's: both come to the same. -/
import Derived.Test.YtacglolggaobdaaLRef
namespace Go.Proofs.Ytacglolggaobdaa.Qu
open Go.RowKit Go.Proofs.YtacglolggaobdaaW.PrintWords Go.Proofs.YtacglolggaobdaaW.PrintLast Go.Proofs.YtacglolggaobdaaW.PrintMore
attribute [local go_sem] max2_int min2_int max_two min_two max_three min_three max_four min_four
set_option linter.unusedVariables false
set_option linter.unusedSimpArgs false

structure BothL (w0 w : World) (L : Lk) (b : Nat) (v : LV) : Prop where
  inl : InL w0 w L v
  ref : RefL w b v
  b0 : w0.heap.size ≤ b
  nb : ¬ L.S b
def Lk.T (L : Lk) (b x : Nat) : Prop := L.S x ∨ x = b
theorem BothL.lt {w0 w : World} {L : Lk} {b : Nat} {v : LV} (h : BothL w0 w L b v) : ∀ x, L.T b x → x < w.heap.size := by
  rintro x (e | rfl)
  · exact h.inl.lt x e
  · exact blk_lt h.ref
theorem BothL.other {w0 w w' : World} {L : Lk} {b : Nat} {v : LV} {S : Nat → Prop} (h : BothL w0 w L b v) (ho : Only w w' S) (h1 : ∀ x, L.T b x → ¬ S x) (h2 : ∀ x, S x → w0.heap.size ≤ x) : BothL w0 w' L b v :=
  ⟨h.inl.only ho (fun x e => h1 x (Or.inl e)) h2, ho.blk h.ref (h1 b (Or.inr rfl)), h.b0, h.nb⟩
theorem BothL.alloc {w0 w : World} {L : Lk} {b : Nat} {v : LV} (h : BothL w0 w L b v) (o : Obj) : BothL w0 (w.alloc o) L b v :=
  h.other ((Only.refl w (fun _ => False)).alloc o) (fun _ _ h => h) (fun _ h => h.elim)
theorem BothL.drewN {w0 w : World} {L : Lk} {b : Nat} {v : LV} (h : BothL w0 w L b v) (n : Nat) : BothL w0 (w.drewN n) L b v :=
  h.other ((Only.refl w (fun _ => False)).drewN n) (fun _ _ h => h) (fun _ h => h.elim)
/-- a call on the link -/
theorem BothL.callL {w0 w w' : World} {L : Lk} {b : Nat} {v v' : LV} (h : BothL w0 w L b v) (hi : InL w0 w' L v') (ho : Only w w' L.S) : InL w0 w' L v' ∧ RefL w' b v := ⟨hi, ho.blk h.ref h.nb⟩
/-- .. and the same on the reference's -/
theorem BothL.callR {w0 w w' w'' : World} {L : Lk} {b : Nat} {v v' : LV} (h : BothL w0 w L b v) (hi : InL w0 w' L v') (hr : RefL w'' b v') (ho : Only w' w'' (fun x => x = b)) : BothL w0 w'' L b v' :=
  ⟨hi.only ho (fun x e e' => h.nb (e' ▸ e)) (fun x e => e ▸ h.b0), hr, h.b0, h.nb⟩

def LV.act (v : LV) (d n : Int) (t : ByteArray) : LV :=
  if d = 1 then { v with I := v.I ++ t.data.toList.take (v.give t) }
  else if d = 2 then { v with e := true }
  else if d = 3 then { v with I := v.I.drop n.toNat }
  else if d = 4 then { v with Out := if v.s then v.Out else v.Out ++ t.data.toList }
  else if d = 5 then { v with Out := v.Out.drop n.toNat }
  else if d = 6 then { v with I := [], s := true }
  else v
def ActP (w0 w : World) (L : Lk) (b : Nat) (v' : LV) (x : Ending) (w' : World) : Prop := x = .returned (.bool true) ∧ BothL w0 w' L b v' ∧ Only w w' (L.T b)
def Bx (w : World) (B : Nat) (d n : Int) (t : ByteArray) : Prop := w.heap[B]? = some (.cells #[.int .i64 d, .int .i64 n, .string t] 44 (0, 0))
theorem Bx.c1 {w : World} {B : Nat} {d n : Int} {t : ByteArray} (h : Bx w B d n t) : w.cell? ⟨B, 1, none⟩ = some (.int .i64 n) := (blk_cell h 1).trans rfl
theorem Bx.c2 {w : World} {B : Nat} {d n : Int} {t : ByteArray} (h : Bx w B d n t) : w.cell? ⟨B, 2, none⟩ = some (.string t) := (blk_cell h 2).trans rfl

set_option maxHeartbeats 8000000 in
set_option maxRecDepth 100000 in
theorem act_any {w0 w : World} {L : Lk} {b : Nat} {v : LV} (h : BothL w0 w L b v) (d n : Int) (t : ByteArray) (ht : t.size ≤ 300) (hO : v.Out.length ≤ 900000) (h1 : -9223372036854775808 ≤ n) (h2 : n ≤ 9223372036854775807) :
    Calls Try.prog 28 #[.pointer (some ⟨L.k, 0, none⟩), .pointer (some ⟨b, 0, none⟩), .agg #[.int .i64 d, .int .i64 n, .string t]] w (ActP w0 w L b (v.act d n t)) := by
  have hlt := h.lt
  have hI := h.inl.lenI
  have hal : ∀ d : Int, BothL w0 (w.alloc (.cells #[.int .i64 d, .int .i64 n, .string t] 44)) L b v ∧ Bx (w.alloc (.cells #[.int .i64 d, .int .i64 n, .string t] 44)) w.heap.size d n t ∧ Only w (w.alloc (.cells #[.int .i64 d, .int .i64 n, .string t] 44)) (L.T b) := fun d => ⟨h.alloc _, heap_alloc_new w _, (Only.refl w _).alloc _⟩
  have HAL := Aside0.mk hal
  have HNE := Aside0.mk (show ∀ x, L.T b x → ¬ w.heap.size = x from fun x e e' => by have := hlt x e; omega)
  have HNB := Aside0.mk h.nb
  have HII := Aside0.mk hI
  have HOO := Aside0.mk hO
  have HT := Aside0.mk ht
  have HN := Aside0.mk (And.intro h1 h2)
  clear h hlt hal hI hO ht h1 h2
  by_cases hd1 : d = 1
  · subst hd1
    obtain ⟨W, hWe⟩ : ∃ W, W = w.alloc (.cells #[.int .i64 1, .int .i64 n, .string t] 44) := ⟨_, rfl⟩
    have hW := HAL.out 1
    rw [← hWe] at hW
    have HB := Aside0.mk hW.1
    have HX := Aside0.mk hW.2.1
    have HO := Aside0.mk hW.2.2
    have hc2 := hW.2.1.c2
    have HG := Aside0.mk (InL.give (w := W.drew) (hW.1.inl.drewN 1) t (by have := HT.out; omega))
    clear hW
    go_enter Try.func28, Try.ntmps28
    go_wp2_with fail
    rw [← hWe]
    clear hWe
    go_region_held3 (fun w' => w'.cell? ⟨w.heap.size, 2, none⟩ = some (.string t)) (first | assumption | go_keep)
      (first | (go_at_call 39; go_loud (refine HG.out.mono ?_); rintro e w2 ⟨rfl, hq2, ho2⟩; have h2 := BothL.callL (w := W.drew) (HB.out.drewN 1) hq2 ho2; have hk2 : Bx w2 w.heap.size 1 n t := ho2.blk (show W.drew.heap[w.heap.size]? = _ from HX.out) (fun e => HNE.out _ (Or.inl e) rfl); have hc22 := hk2.c2; have H2 := Aside0.mk h2; have HO2 := Aside0.mk ho2; have HK2 := Aside0.mk hk2; clear hq2 ho2 h2 hk2) | (go_at_call 73; go_loud (refine (rgive H2.out.2 t (by have := HT.out; omega) HII.out.1 HII.out.2).mono ?_); rintro e w3 ⟨rfl, hr3, ho3⟩; have hc23 : w3.cell? ⟨w.heap.size, 2, none⟩ = some (.string t) := Bx.c2 (d := 1) (n := n) (ho3.blk HK2.out (HNE.out _ (Or.inr rfl))); have H3 := Aside0.mk (HB.out.callR H2.out.1 hr3 ho3); have HO3 := Aside0.mk ho3; clear hr3 ho3))
    go_wp2
    go_ret
    refine ⟨rfl, H3.out, ?_⟩
    exact ((HO.out.drew).trans (HO2.out.mono (fun _ _ e => Or.inl e))).trans (HO3.out.mono (fun _ _ e => Or.inr e))
  · by_cases hd2 : d = 2
    · subst hd2
      obtain ⟨W, hWe⟩ : ∃ W, W = w.alloc (.cells #[.int .i64 2, .int .i64 n, .string t] 44) := ⟨_, rfl⟩
      have hW := HAL.out 2
      rw [← hWe] at hW
      have HB := Aside0.mk hW.1
      have HX := Aside0.mk hW.2.1
      have HO := Aside0.mk hW.2.2
      have hc1 := hW.2.1.c1
      have hc2 := hW.2.1.c2
      clear hW
      go_enter Try.func28, Try.ntmps28
      go_wp2_with fail
      rw [← hWe]
      clear hWe
      refine HB.out.inl.end_.mono ?_
      rintro e w2 ⟨rfl, hq2, ho2⟩
      have h2 := HB.out.callL hq2 ho2
      have hr2 := h2.2
      have c3 := hr2.c3
      have f3 := blk_frozen hr2 3
      have H2 := Aside0.mk h2
      have HO2 := Aside0.mk ho2
      clear h2 hr2 hq2 ho2
      go_wp2
      go_ret
      refine ⟨rfl, HB.out.callR H2.out.1 (H2.out.2.setE true) (only_set b 3 _), ?_⟩
      exact (HO.out.trans (HO2.out.mono (fun _ _ e => Or.inl e))).trans ((only_set b 3 _).mono (fun _ _ e => Or.inr e))
    · by_cases hd3 : d = 3
      · subst hd3
        obtain ⟨W, hWe⟩ : ∃ W, W = w.alloc (.cells #[.int .i64 3, .int .i64 n, .string t] 44) := ⟨_, rfl⟩
        have hW := HAL.out 3
        rw [← hWe] at hW
        have HB := Aside0.mk hW.1
        have HX := Aside0.mk hW.2.1
        have HO := Aside0.mk hW.2.2
        have hc1 := hW.2.1.c1
        have hc2 := hW.2.1.c2
        clear hW
        go_enter Try.func28, Try.ntmps28
        go_wp2_with fail
        rw [← hWe]
        clear hWe
        refine (HB.out.inl.use n).mono ?_
        rintro e w2 ⟨rfl, hq2, ho2⟩
        have h2 := HB.out.callL hq2 ho2
        have hk2 : Bx w2 w.heap.size 3 n t := ho2.blk (show W.heap[w.heap.size]? = _ from HX.out) (fun e => HNE.out _ (Or.inl e) rfl)
        have hc12 := hk2.c1
        have hc22 := hk2.c2
        have H2 := Aside0.mk h2
        have HO2 := Aside0.mk ho2
        have HK2 := Aside0.mk hk2
        clear hq2 ho2 h2 hk2
        go_wp2_with fail
        refine (ruse H2.out.2 n (by have := HII.out; omega)).mono ?_
        rintro e w3 ⟨rfl, hr3, ho3⟩
        have H3 := Aside0.mk (HB.out.callR H2.out.1 hr3 ho3)
        have HO3 := Aside0.mk ho3
        clear hr3 ho3
        go_wp2
        go_ret
        refine ⟨rfl, H3.out, ?_⟩
        exact (HO.out.trans (HO2.out.mono (fun _ _ e => Or.inl e))).trans (HO3.out.mono (fun _ _ e => Or.inr e))
      · by_cases hd4 : d = 4
        · subst hd4
          obtain ⟨W, hWe⟩ : ∃ W, W = w.alloc (.cells #[.int .i64 4, .int .i64 n, .string t] 44) := ⟨_, rfl⟩
          have hW := HAL.out 4
          rw [← hWe] at hW
          have HB := Aside0.mk hW.1
          have HX := Aside0.mk hW.2.1
          have HO := Aside0.mk hW.2.2
          have hc1 := hW.2.1.c1
          have hc2 := hW.2.1.c2
          clear hW
          go_enter Try.func28, Try.ntmps28
          go_wp2_with fail
          rw [← hWe]
          clear hWe
          refine (HB.out.inl.write t (by have := HOO.out; have := HT.out; omega)).mono ?_
          rintro e w2 ⟨rfl, hq2, ho2⟩
          have h2 := HB.out.callL hq2 ho2
          have hk2 : Bx w2 w.heap.size 4 n t := ho2.blk (show W.heap[w.heap.size]? = _ from HX.out) (fun e => HNE.out _ (Or.inl e) rfl)
          have hc12 := hk2.c1
          have hc22 := hk2.c2
          have H2 := Aside0.mk h2
          have HO2 := Aside0.mk ho2
          have HK2 := Aside0.mk hk2
          clear hq2 ho2 h2 hk2
          go_wp2_with fail
          refine (rwrite H2.out.2 t (by have := HOO.out; have := HT.out; omega)).mono ?_
          rintro e w3 ⟨rfl, hr3, ho3⟩
          have H3 := Aside0.mk (HB.out.callR H2.out.1 hr3 ho3)
          have HO3 := Aside0.mk ho3
          clear hr3 ho3
          go_wp2
          go_ret
          refine ⟨rfl, H3.out, ?_⟩
          exact (HO.out.trans (HO2.out.mono (fun _ _ e => Or.inl e))).trans (HO3.out.mono (fun _ _ e => Or.inr e))
        · by_cases hd5 : d = 5
          · subst hd5
            obtain ⟨W, hWe⟩ : ∃ W, W = w.alloc (.cells #[.int .i64 5, .int .i64 n, .string t] 44) := ⟨_, rfl⟩
            have hW := HAL.out 5
            rw [← hWe] at hW
            have HB := Aside0.mk hW.1
            have HX := Aside0.mk hW.2.1
            have HO := Aside0.mk hW.2.2
            have hc1 := hW.2.1.c1
            have hc2 := hW.2.1.c2
            have HG := Aside0.mk (InL.take (w := W.drew) (hW.1.inl.drewN 1) (by have := HOO.out; omega) n HN.out.1 HN.out.2)
            clear hW
            go_enter Try.func28, Try.ntmps28
            go_wp2_with fail
            rw [← hWe]
            clear hWe
            have HOB : Aside0 (v.Out.length ≤ 1000000) := ⟨by have := HOO.out; omega⟩
            go_region_held3 (fun w' => w'.cell? ⟨w.heap.size, 1, none⟩ = some (.int .i64 n)) (first | assumption | go_keep)
              (first | (go_at_call 40; go_loud (refine HG.out.mono ?_); rintro e w2 ⟨rfl, hq2, ho2⟩; have h2 := BothL.callL (w := W.drew) (HB.out.drewN 1) hq2 ho2; have hk2 : Bx w2 w.heap.size 5 n t := ho2.blk (show W.drew.heap[w.heap.size]? = _ from HX.out) (fun e => HNE.out _ (Or.inl e) rfl); have hc12 := hk2.c1; have H2 := Aside0.mk h2; have HO2 := Aside0.mk ho2; have HK2 := Aside0.mk hk2; clear hq2 ho2 h2 hk2) | (go_at_call 76; go_loud (refine (rtake H2.out.2 n HOB.out).mono ?_); rintro e w3 ⟨rfl, hr3, ho3⟩; have hc13 : w3.cell? ⟨w.heap.size, 1, none⟩ = some (.int .i64 n) := Bx.c1 (d := 5) (t := t) (ho3.blk HK2.out (HNE.out _ (Or.inr rfl))); have H3 := Aside0.mk (HB.out.callR H2.out.1 hr3 ho3); have HO3 := Aside0.mk ho3; clear hr3 ho3))
            go_wp2
            go_ret
            refine ⟨rfl, H3.out, ?_⟩
            exact ((HO.out.drew).trans (HO2.out.mono (fun _ _ e => Or.inl e))).trans (HO3.out.mono (fun _ _ e => Or.inr e))
          · by_cases hd6 : d = 6
            · subst hd6
              obtain ⟨W, hWe⟩ : ∃ W, W = w.alloc (.cells #[.int .i64 6, .int .i64 n, .string t] 44) := ⟨_, rfl⟩
              have hW := HAL.out 6
              rw [← hWe] at hW
              have HB := Aside0.mk hW.1
              have HX := Aside0.mk hW.2.1
              have HO := Aside0.mk hW.2.2
              have hc1 := hW.2.1.c1
              have hc2 := hW.2.1.c2
              clear hW
              go_enter Try.func28, Try.ntmps28
              go_wp2_with fail
              rw [← hWe]
              clear hWe
              refine HB.out.inl.shut.mono ?_
              rintro e w2 ⟨rfl, hq2, ho2⟩
              have h2 := HB.out.callL hq2 ho2
              have hr2 := h2.2
              have c4 := hr2.c4
              have f4 := blk_frozen hr2 4
              have hr3 := hr2.setS true
              have c0 := hr3.c0
              have f0 := blk_frozen hr3 0
              have H2 := Aside0.mk h2
              have HO2 := Aside0.mk ho2
              have HR3 := Aside0.mk hr3
              clear h2 hr2 hr3 hq2 ho2
              go_wp2
              go_ret
              have ho : Only w2 ((w2.setCell ⟨b, 4, none⟩ (.bool true)).setCell ⟨b, 0, none⟩ (.string ⟨#[]⟩)) (fun x => x = b) := (only_set b 4 _).trans (only_set b 0 _)
              refine ⟨rfl, HB.out.callR H2.out.1 (HR3.out.setI []) ho, ?_⟩
              exact (HO.out.trans (HO2.out.mono (fun _ _ e => Or.inl e))).trans (ho.mono (fun _ _ e => Or.inr e))
            · skip
              have hv : v.act d n t = v := by unfold LV.act; rw [if_neg hd1, if_neg hd2, if_neg hd3, if_neg hd4, if_neg hd5, if_neg hd6]
              rw [hv]
              have hb1 : (d == 1) = false := beq_eq_false_iff_ne.2 hd1
              have hb2 : (d == 2) = false := beq_eq_false_iff_ne.2 hd2
              have hb3 : (d == 3) = false := beq_eq_false_iff_ne.2 hd3
              have hb4 : (d == 4) = false := beq_eq_false_iff_ne.2 hd4
              have hb5 : (d == 5) = false := beq_eq_false_iff_ne.2 hd5
              have hb6 : (d == 6) = false := beq_eq_false_iff_ne.2 hd6
              clear hv
              go_enter Try.func28, Try.ntmps28
              go_wp2
              go_ret
              exact ⟨rfl, (HAL.out d).1, (HAL.out d).2.2⟩
end Go.Proofs.Ytacglolggaobdaa.Qu
