/- A call on the desk: wire and link, and the reference's. -/
import Derived.Test.YtacglolggaobdaaWRef
namespace Go.Proofs.Ytacglolggaobdaa.Qu
open Go.RowKit Go.Proofs.YtacglolggaobdaaW.PrintWords Go.Proofs.YtacglolggaobdaaW.PrintLast Go.Proofs.YtacglolggaobdaaW.PrintMore
attribute [local go_sem] max2_int min2_int max_two min_two max_three min_three max_four min_four
set_option linter.unusedVariables false
set_option linter.unusedSimpArgs false

theorem WS.not {w0 w : World} {L : Lk} {D : Dk} {x : WX} {v : LV} (h : WL w0 w L D x v) {g : Nat} {cs : Array Value} {t : TypeId} (hg : w.heap[g]? = some (.cells cs t (0, 0))) (h1 : t ≠ 50) (h2 : t ≠ 37) (h3 : t ≠ 5) (h4 : t ≠ 101) (h5 : t ≠ 96) : ¬ WS L D w g := by
  obtain ⟨p, q, hw⟩ := h.wi.hdr
  rintro (e | rfl | rfl | ⟨_, cs', fz', e⟩)
  · exact h.inl.not hg h1 h2 h3 e
  · exact blk_ne hg hw h4 rfl
  · exact blk_ne hg h.wi.st h5 rfl
  · rw [hg] at e
    simp only [Option.some.injEq, Obj.cells.injEq] at e
    exact h3 e.2.1
structure Mid (w0 w : World) (L : Lk) (D : Dk) (db : Nat) (x x' : WX) (v v' : LV) : Prop where
  wl : WL w0 w L D x' v'
  ref : RefD w db (preOf D L x) v
  ld : w0.heap.size ≤ db
abbrev Desk (w0 w : World) (L : Lk) (D : Dk) (db : Nat) (x : WX) (v : LV) : Prop := Mid w0 w L D db x x v v
theorem Mid.drewN {w0 w : World} {L : Lk} {D : Dk} {db : Nat} {x x' : WX} {v v' : LV} (h : Mid w0 w L D db x x' v v') (n : Nat) : Mid w0 (w.drewN n) L D db x x' v v' := ⟨h.wl.drewN n, h.ref, h.ld⟩
theorem Mid.ndb {w0 w : World} {L : Lk} {D : Dk} {db : Nat} {x x' : WX} {v v' : LV} (h : Mid w0 w L D db x x' v v') : ¬ WS L D w db := WS.not h.wl h.ref (by decide) (by decide) (by decide) (by decide) (by decide)
theorem Mid.step {w0 w w' : World} {L : Lk} {D : Dk} {db : Nat} {x x' x'' : WX} {v v' v'' : LV} (h : Mid w0 w L D db x x' v v') (hw : WL w0 w' L D x'' v'') (ho : Only w w' (WS L D w)) : Mid w0 w' L D db x x'' v v'' :=
  ⟨hw, ho.blk h.ref h.ndb, h.ld⟩
theorem Mid.desk {w0 w w' : World} {L : Lk} {D : Dk} {db : Nat} {x x' : WX} {v v' : LV} (h : Mid w0 w L D db x x' v v') (hr : RefD w' db (preOf D L x') v') (ho : Only w w' (fun k => k = db)) : Desk w0 w' L D db x' v' := by
  have hn := h.ndb
  refine ⟨⟨h.wl.inl.only ho (fun b hb e => hn (by rw [← e]; exact .inl hb)) (fun b e => by rw [e]; exact h.ld), h.wl.wi.only ho (fun e => hn (.inr (.inl e.symm))) (fun e => hn (.inr (.inr (.inl e.symm)))) (fun k hk ht e => hn (by rw [← e]; exact .inr (.inr (.inr ⟨hk, ht⟩)))), h.wl.lw, h.wl.ls, h.wl.lk⟩, hr, h.ld⟩
theorem Mid.alloc {w0 w : World} {L : Lk} {D : Dk} {db : Nat} {x x' : WX} {v v' : LV} (h : Mid w0 w L D db x x' v v') (o : Obj) : Mid w0 (w.alloc o) L D db x x' v v' := by
  have ho : Only w (w.alloc o) (fun _ => False) := (Only.refl w _).alloc o
  exact ⟨⟨h.wl.inl.only ho (fun _ _ e => e) (fun _ e => e.elim), h.wl.wi.only ho (fun e => e) (fun e => e) (fun _ _ _ e => e), h.wl.lw, h.wl.ls, h.wl.lk⟩, ho.blk h.ref (fun e => e), h.ld⟩
/-- so much at most -/
structure Bd (x : WX) (v : LV) (c : Nat) : Prop where
  rA : x.r ≤ x.A.length
  lA : x.A.length ≤ c
  lO : x.T.length + v.Out.length ≤ c
theorem Bd.ok {x : WX} {v : LV} {c : Nat} (h : Bd x v c) (hc : c ≤ 900000) : x.ok := ⟨h.rA, by have := h.lA; omega, by have := h.lO; omega⟩
def AcP (w0 : World) (L : Lk) (D : Dk) (db c : Nat) (y : Ending) (w' : World) : Prop := y = .returned (.bool true) ∧ ∃ x' v', Desk w0 w' L D db x' v' ∧ Bd x' v' (c + 300)

section calls
variable {w0 w : World} {L : Lk} {D : Dk} {db : Nat} {x : WX} {v : LV}
theorem Mid.send (h : Desk w0 w L D db x v) (t : ByteArray) (ht : x.A.length + t.size ≤ 900000) : Calls Try.prog 79 #[.pointer (some ⟨D.wb, 0, none⟩), .string t] w fun y w' => y = .returned (.int .i64 ((if x.e then 0 else t.size : Nat) : Int)) ∧ Mid w0 w' L D db x { x with A := if x.e then x.A else x.A ++ t.data.toList } v v ∧ Only w w' (WS L D w) :=
  (h.wl.wi.send t ht).mono fun _ _ ⟨e, hi, ho⟩ => ⟨e, h.step (h.wl.byWire hi ho) (WS.ofW ho), WS.ofW ho⟩
theorem Mid.end_ (h : Desk w0 w L D db x v) : Calls Try.prog 82 #[.pointer (some ⟨D.wb, 0, none⟩)] w fun y w' => y = .returned (.tuple #[]) ∧ Mid w0 w' L D db x { x with e := true } v v ∧ Only w w' (WS L D w) :=
  h.wl.wi.end_.mono fun _ _ ⟨e, hi, ho⟩ => ⟨e, h.step (h.wl.byWire hi ho) (WS.ofW ho), WS.ofW ho⟩
theorem Mid.read (h : Desk w0 w L D db x v) (hk : x.ok) (n : Int) : Calls Try.prog 80 #[.pointer (some ⟨D.wb, 0, none⟩), .pointer (some ⟨L.k, 0, none⟩), .int .i64 n] w fun y w' => y = .returned (.int .i64 (gotN x v n : Int)) ∧ Mid w0 w' L D db x { x with r := x.r + gotN x v n } v (readV x v n) ∧ Only w w' (WS L D w) :=
  (wread h.wl hk n).mono fun _ _ ⟨e, hi, ho⟩ => ⟨e, h.step hi ho, ho⟩
theorem Mid.grant (h : Desk w0 w L D db x v) (hO : v.Out.length ≤ 900000) (hT : x.T.length + v.Out.length ≤ 1000000) (n : Int) (h1 : -9223372036854775808 ≤ n) (h2 : n ≤ 9223372036854775807) : Calls Try.prog 84 #[.pointer (some ⟨D.wb, 0, none⟩), .pointer (some ⟨L.k, 0, none⟩), .int .i64 n] w fun y w' => y = .returned (.int .i64 ((v.Out.take n.toNat).length : Int)) ∧ Mid w0 w' L D db x { x with T := x.T ++ v.Out.take n.toNat } v { v with Out := v.Out.drop n.toNat } ∧ Only w w' (WS L D w) :=
  (wgrant h.wl hO hT n h1 h2).mono fun _ _ ⟨e, hi, ho⟩ => ⟨e, h.step hi ho, ho⟩
theorem Mid.write (h : Desk w0 w L D db x v) (t : ByteArray) (ht : v.Out.length + t.size ≤ 1000000) : Calls Try.prog 37 #[.pointer (some ⟨L.k, 0, none⟩), .string t] w fun y w' => y = .returned (.tuple #[]) ∧ Mid w0 w' L D db x x v { v with Out := if v.s then v.Out else v.Out ++ t.data.toList } ∧ Only w w' (WS L D w) :=
  (h.wl.inl.write t ht).mono fun _ _ ⟨e, hi, ho⟩ => ⟨e, h.step (h.wl.byLink hi ho) (WS.ofL ho), WS.ofL ho⟩
theorem Mid.use (h : Desk w0 w L D db x v) (n : Int) : Calls Try.prog 36 #[.pointer (some ⟨L.k, 0, none⟩), .int .i64 n] w fun y w' => y = .returned (.tuple #[]) ∧ Mid w0 w' L D db x x v { v with I := v.I.drop n.toNat } ∧ Only w w' (WS L D w) :=
  (h.wl.inl.use n).mono fun _ _ ⟨e, hi, ho⟩ => ⟨e, h.step (h.wl.byLink hi ho) (WS.ofL ho), WS.ofL ho⟩
theorem Mid.shut (h : Desk w0 w L D db x v) : Calls Try.prog 38 #[.pointer (some ⟨L.k, 0, none⟩)] w fun y w' => y = .returned (.tuple #[]) ∧ Mid w0 w' L D db x x v { v with I := [], s := true } ∧ Only w w' (WS L D w) :=
  h.wl.inl.shut.mono fun _ _ ⟨e, hi, ho⟩ => ⟨e, h.step (h.wl.byLink hi ho) (WS.ofL ho), WS.ofL ho⟩
end calls
def Bz (w : World) (B : Nat) (d n : Int) (t : ByteArray) : Prop := w.heap[B]? = some (.cells #[.int .i64 d, .int .i64 n, .string t] 63 (0, 0))
theorem Bz.c1 {w : World} {B : Nat} {d n : Int} {t : ByteArray} (h : Bz w B d n t) : w.cell? ⟨B, 1, none⟩ = some (.int .i64 n) := (blk_cell h 1).trans rfl
theorem Bz.c2 {w : World} {B : Nat} {d n : Int} {t : ByteArray} (h : Bz w B d n t) : w.cell? ⟨B, 2, none⟩ = some (.string t) := (blk_cell h 2).trans rfl
theorem Bz.call {w0 w w' : World} {B : Nat} {d n : Int} {t : ByteArray} {L : Lk} {D : Dk} {db : Nat} {x x' : WX} {v v' : LV} (h : Bz w B d n t) (hm : Mid w0 w L D db x x' v v') (ho : Only w w' (WS L D w)) : Bz w' B d n t :=
  ho.blk h (WS.not hm.wl h (by decide) (by decide) (by decide) (by decide) (by decide))
theorem Bz.ref {w w' : World} {B : Nat} {d n : Int} {t : ByteArray} {db : Nat} {a : Pre} {v : LV} (h : Bz w B d n t) (hm : RefD w db a v) (ho : Only w w' (fun k => k = db)) : Bz w' B d n t :=
  ho.blk h (fun e => blk_ne h hm (by decide) e)

set_option maxHeartbeats 8000000 in
set_option maxRecDepth 100000 in
theorem wact {w0 w : World} {L : Lk} {D : Dk} {db : Nat} {x : WX} {v : LV} {c : Nat} (h : Desk w0 w L D db x v) (hb : Bd x v c) (hc : c ≤ 100000) (d n : Int) (t : ByteArray) (ht : t.size ≤ 300) (h1 : -9223372036854775808 ≤ n) (h2 : n ≤ 9223372036854775807) :
    Calls Try.prog 44 #[.pointer (some ⟨db, 0, none⟩), .agg #[.int .i64 d, .int .i64 n, .string t]] w (AcP w0 L D db c) := by
  obtain ⟨B, hBe⟩ : ∃ B, B = w.heap.size := ⟨_, rfl⟩
  have hal : ∀ d : Int, Desk w0 (w.alloc (.cells #[.int .i64 d, .int .i64 n, .string t] 63)) L D db x v ∧ Bz (w.alloc (.cells #[.int .i64 d, .int .i64 n, .string t] 63)) w.heap.size d n t := fun d => ⟨h.alloc _, heap_alloc_new w _⟩
  have hI := h.wl.inl.lenI
  have HAL := Aside0.mk hal
  have HI := Aside0.mk hI
  have HB := Aside0.mk hb
  have HC := Aside0.mk (And.intro hc ht)
  have HN := Aside0.mk (And.intro h1 h2)
  have HBE := Aside0.mk hBe
  clear h hal hI hb hc ht h1 h2 hBe
  by_cases hd1 : d = 1
  · subst hd1
    obtain ⟨W, hWe⟩ : ∃ W, W = w.alloc (.cells #[.int .i64 1, .int .i64 n, .string t] 63) := ⟨_, rfl⟩
    have hW := HAL.out 1
    rw [← hWe] at hW
    have HM := Aside0.mk hW.1
    have HX := Aside0.mk hW.2
    have hc2 := hW.2.c2
    have hp0 : W.cell? ⟨db, 0, none⟩ = some (.pointer (some ⟨D.wb, 0, none⟩)) := hW.1.ref.p0
    have hG := Mid.send (w := W.drew) (hW.1.drewN 1) t (by have := HB.out.lA; have := HC.out; omega)
    obtain ⟨rs, hrs⟩ : ∃ s : Nat, s = if x.e then 0 else t.size := ⟨_, rfl⟩
    obtain ⟨x', hx'⟩ : ∃ x' : WX, x' = { x with A := if x.e then x.A else x.A ++ t.data.toList } := ⟨_, rfl⟩
    rw [← hrs, ← hx'] at hG
    have HG := Aside0.mk hG
    have HRS := Aside0.mk (And.intro hrs hx')
    clear hW hG hrs hx'
    go_enter Try.func44, Try.ntmps44
    go_wp2_with fail
    rw [← hWe]
    clear hWe
    go_region_held3 (fun w' => w'.cell? ⟨w.heap.size, 2, none⟩ = some (.string t) ∧ w'.cell? ⟨db, 0, none⟩ = some (.pointer (some ⟨D.wb, 0, none⟩))) (first | assumption | go_keep)
      (first | (go_at_call 79; go_loud (refine HG.out.mono ?_); rintro e w2 ⟨rfl, hm2, ho2⟩; have hk2 := HX.out.call (w := W.drew) (HM.out.drewN 1) ho2; have hc22 := hk2.c2; have hp02 : w2.cell? ⟨db, 0, none⟩ = some (.pointer (some ⟨D.wb, 0, none⟩)) := hm2.ref.p0; have H2 := Aside0.mk hm2; have HK2 := Aside0.mk hk2; clear hm2 ho2 hk2) | (go_at_call 81; go_loud (refine (dsend H2.out.ref HB.out.rA t (by have := HB.out.lA; have := HC.out; omega)).mono ?_); rw [← HRS.out.1, ← HRS.out.2]; rintro e w3 ⟨rfl, hr3, ho3⟩; have hk3 := HK2.out.ref H2.out.ref ho3; have hc23 := hk3.c2; have hp03 : w3.cell? ⟨db, 0, none⟩ = some (.pointer (some ⟨D.wb, 0, none⟩)) := hr3.p0; have H3 := Aside0.mk (H2.out.desk hr3 ho3); clear hr3 ho3 hk3))
    go_wp2
    go_ret
    refine ⟨rfl, _, _, H3.out, ?_⟩
    rw [HRS.out.2]
    have hb := HB.out
    have hc := HC.out
    refine ⟨?_, ?_, ?_⟩
    · show x.r ≤ (if x.e then x.A else x.A ++ t.data.toList).length
      split
      · exact hb.rA
      · rw [List.length_append]; exact Nat.le_trans hb.rA (Nat.le_add_right _ _)
    · show (if x.e then x.A else x.A ++ t.data.toList).length ≤ c + 300
      have := hb.lA
      split
      · omega
      · rw [List.length_append, data_length]; omega
    · exact Nat.le_trans hb.lO (Nat.le_add_right _ _)
  · by_cases hd2 : d = 2
    · subst hd2
      obtain ⟨W, hWe⟩ : ∃ W, W = w.alloc (.cells #[.int .i64 2, .int .i64 n, .string t] 63) := ⟨_, rfl⟩
      have hW := HAL.out 2
      rw [← hWe] at hW
      have HM := Aside0.mk hW.1
      have HX := Aside0.mk hW.2
      have hc1 := hW.2.c1
      have hc2 := hW.2.c2
      have hp0 : W.cell? ⟨db, 0, none⟩ = some (.pointer (some ⟨D.wb, 0, none⟩)) := hW.1.ref.p0
      have hp1 : W.cell? ⟨db, 1, none⟩ = some (.pointer (some ⟨L.k, 0, none⟩)) := hW.1.ref.p1
      have hpa : (w.alloc (.cells #[.int .i64 2, .int .i64 n, .string t] 63)).cell? ⟨db, 0, none⟩ = some (.pointer (some ⟨D.wb, 0, none⟩)) := (HAL.out 2).1.ref.p0
      clear hW
      go_enter Try.func44, Try.ntmps44
      go_wp2_with fail
      rw [← hWe]
      clear hWe
      refine HM.out.end_.mono ?_
      rintro e w2 ⟨rfl, hm2, ho2⟩
      have d4 := hm2.ref.p4
      have f4 := blk_frozen hm2.ref 4
      have H2 := Aside0.mk hm2
      clear hm2 ho2
      go_wp2
      go_ret
      exact ⟨rfl, _, _, H2.out.desk (H2.out.ref.set4 (.bool true)) (only_set db 4 _), HB.out.rA, Nat.le_trans HB.out.lA (Nat.le_add_right _ _), Nat.le_trans HB.out.lO (Nat.le_add_right _ _)⟩
    · by_cases hd3 : d = 3
      · subst hd3
        obtain ⟨W, hWe⟩ : ∃ W, W = w.alloc (.cells #[.int .i64 3, .int .i64 n, .string t] 63) := ⟨_, rfl⟩
        have hW := HAL.out 3
        rw [← hWe] at hW
        have HM := Aside0.mk hW.1
        have HX := Aside0.mk hW.2
        have hc1 := hW.2.c1
        have hc2 := hW.2.c2
        have hp0 : W.cell? ⟨db, 0, none⟩ = some (.pointer (some ⟨D.wb, 0, none⟩)) := hW.1.ref.p0
        have hp1 : W.cell? ⟨db, 1, none⟩ = some (.pointer (some ⟨L.k, 0, none⟩)) := hW.1.ref.p1
        have hG := Mid.read (w := W.drew) (hW.1.drewN 1) (HB.out.ok (by have := HC.out; omega)) n
        obtain ⟨g, hg⟩ : ∃ g, g = gotN x v n := ⟨_, rfl⟩
        obtain ⟨v', hv'⟩ : ∃ v', v' = readV x v n := ⟨_, rfl⟩
        have hgl : x.r + gotN x v n ≤ x.A.length := by
          have h1 := give_le v (st ((x.A.drop x.r).take n.toNat))
          rw [st_size, List.length_take, List.length_drop] at h1
          have := HB.out.rA
          unfold gotN
          omega
        rw [← hg] at hgl
        rw [← hg, ← hv'] at hG
        have HG := Aside0.mk hG
        have HRS := Aside0.mk (And.intro hg (And.intro hv' hgl))
        clear hW hG hg hv' hgl
        go_enter Try.func44, Try.ntmps44
        go_wp2_with fail
        rw [← hWe]
        clear hWe
        go_region_held3 (fun w' => w'.cell? ⟨w.heap.size, 1, none⟩ = some (.int .i64 n) ∧ w'.cell? ⟨db, 0, none⟩ = some (.pointer (some ⟨D.wb, 0, none⟩)) ∧ w'.cell? ⟨db, 1, none⟩ = some (.pointer (some ⟨L.k, 0, none⟩))) (first | assumption | go_keep)
          (first | (go_at_call 80; go_loud (refine HG.out.mono ?_); rintro e w2 ⟨rfl, hm2, ho2⟩; have hk2 := HX.out.call (w := W.drew) (HM.out.drewN 1) ho2; have hc22 := hk2.c1; have hp02 : w2.cell? ⟨db, 0, none⟩ = some (.pointer (some ⟨D.wb, 0, none⟩)) := hm2.ref.p0; have hp12 : w2.cell? ⟨db, 1, none⟩ = some (.pointer (some ⟨L.k, 0, none⟩)) := hm2.ref.p1; have H2 := Aside0.mk hm2; have HK2 := Aside0.mk hk2; clear hm2 ho2 hk2) | (go_at_call 83; go_loud (refine (dread H2.out.ref (HB.out.ok (by have := HC.out; omega)) HI.out.1 HI.out.2 n).mono ?_); rw [← HRS.out.1, ← HRS.out.2.1]; rintro e w3 ⟨rfl, hr3, ho3⟩; have hk3 := HK2.out.ref H2.out.ref ho3; have hc23 := hk3.c1; have hp03 : w3.cell? ⟨db, 0, none⟩ = some (.pointer (some ⟨D.wb, 0, none⟩)) := hr3.p0; have hp13 : w3.cell? ⟨db, 1, none⟩ = some (.pointer (some ⟨L.k, 0, none⟩)) := hr3.p1; have H3 := Aside0.mk (H2.out.desk hr3 ho3); clear hr3 ho3 hk3))
        go_wp2
        go_ret
        refine ⟨rfl, _, _, H3.out, HRS.out.2.2, Nat.le_trans HB.out.lA (Nat.le_add_right _ _), ?_⟩
        rw [HRS.out.2.1]
        exact Nat.le_trans HB.out.lO (Nat.le_add_right _ _)
      · by_cases hd4 : d = 4
        · subst hd4
          obtain ⟨W, hWe⟩ : ∃ W, W = w.alloc (.cells #[.int .i64 4, .int .i64 n, .string t] 63) := ⟨_, rfl⟩
          have hW := HAL.out 4
          rw [← hWe] at hW
          have HM := Aside0.mk hW.1
          have HX := Aside0.mk hW.2
          have hc1 := hW.2.c1
          have hc2 := hW.2.c2
          have hp0 : W.cell? ⟨db, 0, none⟩ = some (.pointer (some ⟨D.wb, 0, none⟩)) := hW.1.ref.p0
          have hp1 : W.cell? ⟨db, 1, none⟩ = some (.pointer (some ⟨L.k, 0, none⟩)) := hW.1.ref.p1
          have hG := Mid.write (w := W.drew) (hW.1.drewN 1) t (by have := HB.out.lO; have := HC.out; omega)
          obtain ⟨v', hv'⟩ : ∃ v' : LV, v' = { v with Out := if v.s then v.Out else v.Out ++ t.data.toList } := ⟨_, rfl⟩
          rw [← hv'] at hG
          have HG := Aside0.mk hG
          have HV := Aside0.mk hv'
          clear hW hG hv'
          go_enter Try.func44, Try.ntmps44
          go_wp2_with fail
          rw [← hWe]
          clear hWe
          go_still_tail 6, (by kernel_rfl)
          go_wp2_with fail
          refine HG.out.mono ?_
          rintro e w2 ⟨rfl, hm2, ho2⟩
          have hk2 := HX.out.call (w := W.drew) (HM.out.drewN 1) ho2
          have hc22 := hk2.c2
          have H2 := Aside0.mk hm2
          have HK2 := Aside0.mk hk2
          clear hm2 ho2 hk2
          go_wp2_with fail
          go_still_tail 5, (by kernel_rfl)
          go_wp2_with fail
          refine (dwrite (w := w2.drew) (show RefD w2.drew db _ v from H2.out.ref) t (by have := HB.out.lO; have := HC.out; omega)).mono ?_
          rw [← HV.out]
          rintro e w3 ⟨rfl, hr3, ho3⟩
          have H3 := Aside0.mk (Mid.desk (w := w2.drew) (H2.out.drewN 1) hr3 ho3)
          clear hr3 ho3
          go_wp2
          go_ret
          refine ⟨rfl, _, _, H3.out, HB.out.rA, Nat.le_trans HB.out.lA (Nat.le_add_right _ _), ?_⟩
          rw [HV.out]
          show x.T.length + (if v.s then v.Out else v.Out ++ t.data.toList).length ≤ c + 300
          have := HB.out.lO
          have := HC.out
          split
          · omega
          · rw [List.length_append, data_length]; omega
        · by_cases hd5 : d = 5
          · subst hd5
            obtain ⟨W, hWe⟩ : ∃ W, W = w.alloc (.cells #[.int .i64 5, .int .i64 n, .string t] 63) := ⟨_, rfl⟩
            have hW := HAL.out 5
            rw [← hWe] at hW
            have HM := Aside0.mk hW.1
            have HX := Aside0.mk hW.2
            have hc1 := hW.2.c1
            have hc2 := hW.2.c2
            have hp0 : W.cell? ⟨db, 0, none⟩ = some (.pointer (some ⟨D.wb, 0, none⟩)) := hW.1.ref.p0
            have hp1 : W.cell? ⟨db, 1, none⟩ = some (.pointer (some ⟨L.k, 0, none⟩)) := hW.1.ref.p1
            have hG := Mid.grant (w := W.drew) (hW.1.drewN 1) (by have := HB.out.lO; have := HC.out; omega) (by have := HB.out.lO; have := HC.out; omega) n HN.out.1 HN.out.2
            obtain ⟨g, hg⟩ : ∃ g, g = (v.Out.take n.toNat).length := ⟨_, rfl⟩
            rw [← hg] at hG
            have HG := Aside0.mk hG
            have HRS := Aside0.mk hg
            clear hW hG hg
            go_enter Try.func44, Try.ntmps44
            go_wp2_with fail
            rw [← hWe]
            clear hWe
            go_region_held3 (fun w' => w'.cell? ⟨w.heap.size, 1, none⟩ = some (.int .i64 n) ∧ w'.cell? ⟨db, 0, none⟩ = some (.pointer (some ⟨D.wb, 0, none⟩)) ∧ w'.cell? ⟨db, 1, none⟩ = some (.pointer (some ⟨L.k, 0, none⟩))) (first | assumption | go_keep)
              (first | (go_at_call 84; go_loud (refine HG.out.mono ?_); rintro e w2 ⟨rfl, hm2, ho2⟩; have hk2 := HX.out.call (w := W.drew) (HM.out.drewN 1) ho2; have hc22 := hk2.c1; have hp02 : w2.cell? ⟨db, 0, none⟩ = some (.pointer (some ⟨D.wb, 0, none⟩)) := hm2.ref.p0; have hp12 : w2.cell? ⟨db, 1, none⟩ = some (.pointer (some ⟨L.k, 0, none⟩)) := hm2.ref.p1; have H2 := Aside0.mk hm2; have HK2 := Aside0.mk hk2; clear hm2 ho2 hk2) | (go_at_call 85; go_loud (refine (dgrant H2.out.ref (by have := HB.out.lO; have := HC.out; omega) (by have := HB.out.lO; have := HC.out; omega) n).mono ?_); rw [← HRS.out]; rintro e w3 ⟨rfl, hr3, ho3⟩; have hk3 := HK2.out.ref H2.out.ref ho3; have hc23 := hk3.c1; have hp03 : w3.cell? ⟨db, 0, none⟩ = some (.pointer (some ⟨D.wb, 0, none⟩)) := hr3.p0; have hp13 : w3.cell? ⟨db, 1, none⟩ = some (.pointer (some ⟨L.k, 0, none⟩)) := hr3.p1; have H3 := Aside0.mk (H2.out.desk hr3 ho3); clear hr3 ho3 hk3))
            go_wp2
            go_ret
            refine ⟨rfl, _, _, H3.out, HB.out.rA, Nat.le_trans HB.out.lA (Nat.le_add_right _ _), ?_⟩
            show (x.T ++ v.Out.take n.toNat).length + (v.Out.drop n.toNat).length ≤ c + 300
            have := HB.out.lO
            rw [List.length_append, List.length_take, List.length_drop]
            omega
          · by_cases hd6 : d = 6
            · subst hd6
              obtain ⟨W, hWe⟩ : ∃ W, W = w.alloc (.cells #[.int .i64 6, .int .i64 n, .string t] 63) := ⟨_, rfl⟩
              have hW := HAL.out 6
              rw [← hWe] at hW
              have HM := Aside0.mk hW.1
              have HX := Aside0.mk hW.2
              have hc1 := hW.2.c1
              have hc2 := hW.2.c2
              have hp0 : W.cell? ⟨db, 0, none⟩ = some (.pointer (some ⟨D.wb, 0, none⟩)) := hW.1.ref.p0
              have hp1 : W.cell? ⟨db, 1, none⟩ = some (.pointer (some ⟨L.k, 0, none⟩)) := hW.1.ref.p1
              have HG := Aside0.mk (Mid.use (w := W.drew) (hW.1.drewN 1) n)
              clear hW
              go_enter Try.func44, Try.ntmps44
              go_wp2_with fail
              rw [← hWe]
              clear hWe
              go_still_tail 6, (by kernel_rfl)
              go_wp2_with fail
              refine HG.out.mono ?_
              rintro e w2 ⟨rfl, hm2, ho2⟩
              have hk2 := HX.out.call (w := W.drew) (HM.out.drewN 1) ho2
              have hc22 := hk2.c1
              have H2 := Aside0.mk hm2
              have HK2 := Aside0.mk hk2
              clear hm2 ho2 hk2
              go_wp2_with fail
              go_still_tail 5, (by kernel_rfl)
              go_wp2_with fail
              refine (duse (w := w2.drew) (show RefD w2.drew db _ v from H2.out.ref) n (by have := HI.out; omega)).mono ?_
              rintro e w3 ⟨rfl, hr3, ho3⟩
              have H3 := Aside0.mk (Mid.desk (w := w2.drew) (H2.out.drewN 1) hr3 ho3)
              clear hr3 ho3
              go_wp2
              go_ret
              exact ⟨rfl, _, _, H3.out, HB.out.rA, Nat.le_trans HB.out.lA (Nat.le_add_right _ _), Nat.le_trans HB.out.lO (Nat.le_add_right _ _)⟩
            · by_cases hd7 : d = 7
              · subst hd7
                obtain ⟨W, hWe⟩ : ∃ W, W = w.alloc (.cells #[.int .i64 7, .int .i64 n, .string t] 63) := ⟨_, rfl⟩
                have hW := HAL.out 7
                rw [← hWe] at hW
                have HM := Aside0.mk hW.1
                have HX := Aside0.mk hW.2
                have hc1 := hW.2.c1
                have hc2 := hW.2.c2
                have hp0 : W.cell? ⟨db, 0, none⟩ = some (.pointer (some ⟨D.wb, 0, none⟩)) := hW.1.ref.p0
                have hp1 : W.cell? ⟨db, 1, none⟩ = some (.pointer (some ⟨L.k, 0, none⟩)) := hW.1.ref.p1
                have hpa : (w.alloc (.cells #[.int .i64 7, .int .i64 n, .string t] 63)).cell? ⟨db, 1, none⟩ = some (.pointer (some ⟨L.k, 0, none⟩)) := (HAL.out 7).1.ref.p1
                clear hW
                go_enter Try.func44, Try.ntmps44
                go_wp2_with fail
                rw [← hWe]
                clear hWe
                refine HM.out.shut.mono ?_
                rintro e w2 ⟨rfl, hm2, ho2⟩
                have d4 := hm2.ref.c4
                have f4 := blk_frozen hm2.ref 10
                have d0 := hm2.ref.c0
                have f0 := blk_frozen hm2.ref 6
                have H2 := Aside0.mk hm2
                clear hm2 ho2
                go_wp2
                go_ret
                exact ⟨rfl, _, _, H2.out.desk ((H2.out.ref.setS true).setI []) ((only_set db 10 _).trans (only_set db 6 _)), HB.out.rA, Nat.le_trans HB.out.lA (Nat.le_add_right _ _), Nat.le_trans HB.out.lO (Nat.le_add_right _ _)⟩
              · have HL := Aside0.mk (HAL.out d).1
                clear HAL
                go_enter Try.func44, Try.ntmps44
                go_wp2
                go_ret
                exact ⟨rfl, _, _, HL.out, HB.out.rA, Nat.le_trans HB.out.lA (Nat.le_add_right _ _), Nat.le_trans HB.out.lO (Nat.le_add_right _ _)⟩
end Go.Proofs.Ytacglolggaobdaa.Qu
