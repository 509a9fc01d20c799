/- QueuePlays: the law returns true for every number and every list of calls. -/
import Derived.Test.YtacglolggaobdaaQLives
import Derived.Test.YtacglolggaobdaaQRef2
import Derived.Test.YtacglolggaobdaaPQueuex1
import Derived.Deep.RegionHeld3
import Derived.Deep.QuietTactic
import Derived.BigQuiet
namespace Go.Proofs.Ytacglolggaobdaa.Qu
open Go.RowKit Go.Proofs.YtacglolggaobdaaW.PrintWords Go.Proofs.YtacglolggaobdaaW.PrintLast Go.Proofs.YtacglolggaobdaaW.PrintMore Go.Proofs.Ytacglolggaobdaa.PQueue
attribute [local go_sem] max2_int min2_int max_two min_two max_three min_three max_four min_four
set_option linter.unusedVariables false
set_option linter.unusedSimpArgs false

theorem w64q {x : Int} (h0 : -9223372036854775808 ≤ x) (h1 : x ≤ 9223372036854775807) : wrap64 x = x := by unfold wrap64; omega
theorem rd30 (l : List S30) (i : Nat) (h : i < l.length) : rd_T30 l (i : Int) = l[i] := by
  unfold rd_T30
  rw [Int.toNat_natCast, List.getD_eq_getElem?_getD, List.getElem?_eq_getElem h]; rfl
def fewA (l : List S30) : Prop := l.length ≤ 60 ∧ ∀ x ∈ l, x.f2.size ≤ 300
instance (l : List S30) : Decidable (fewA l) := by unfold fewA; infer_instance
theorem few_l0 (l : List S30) (hl : l.length ≤ 60) : ∀ (d i : Nat), l.length - i = d → i ≤ l.length → Ev (fun n => abutmentlaw03_few.l0 n l (l.length : Int) (i : Int)) (decide (∀ x ∈ l.drop i, x.f2.size ≤ 300)) := by
  intro d
  induction d with
  | zero =>
    intro i hd hi
    rw [List.drop_eq_nil_of_le (by omega), decide_eq_true (by simp)]
    refine Ev.step (f := fun _ => some true) (fun n => ?_) (Ev.now _)
    simp only [abutmentlaw03_few.l0]
    rw [if_neg (by omega)]
  | succ d ih =>
    intro i hd hi
    have hil : i < l.length := by omega
    have hrd := rd30 l i hil
    rw [List.drop_eq_getElem_cons hil]
    by_cases h0 : l[i].f2.size ≤ 300
    · rw [decide_eq_decide.2 (show (∀ x ∈ l[i] :: l.drop (i + 1), x.f2.size ≤ 300) ↔ (∀ x ∈ l.drop (i + 1), x.f2.size ≤ 300) from ⟨fun h x hx => h x (List.mem_cons_of_mem _ hx), fun h x hx => by
          rcases List.mem_cons.1 hx with rfl | hx
          · exact h0
          · exact h x hx⟩)]
      refine Ev.step (f := fun n => abutmentlaw03_few.l0 n l (l.length : Int) ((i + 1 : Nat) : Int)) (fun n => ?_) (ih (i + 1) (by omega) (by omega))
      simp only [abutmentlaw03_few.l0]
      rw [if_pos (by omega), if_pos (by omega), if_pos (by omega), hrd, if_neg (by omega), w64q (by omega) (by omega)]; rfl
    · rw [decide_eq_false (fun h => h0 (h _ (List.mem_cons_self ..)))]
      refine Ev.step (f := fun _ => some false) (fun n => ?_) (Ev.now _)
      simp only [abutmentlaw03_few.l0]
      rw [if_pos (by omega), if_pos (by omega), if_pos (by omega), hrd, if_pos (by omega)]
theorem few_any (A : Option Addr) (c : Nat) (l : List S30) (w : World) (hr : Kd.C k30 w A l.length l) (hc : l.length ≤ c) : Calls Try.prog 13 #[.slice A l.length c] w fun e w' => e = .returned (.bool (decide (fewA l))) ∧ Below w.heap.size w w' := by
  have hev : Ev (fun n => abutmentlaw03_few.f n l) (decide (fewA l)) := by
    unfold abutmentlaw03_few.f
    by_cases hl : l.length ≤ 60
    · refine Ev.congr (f := fun n => abutmentlaw03_few.l0 n l (l.length : Int) ((0 : Nat) : Int)) (fun n => by rw [if_neg (by omega)]; rfl) ?_
      have := few_l0 l hl _ 0 rfl (by omega)
      rw [List.drop_zero] at this
      rwa [show decide (fewA l) = decide (∀ x ∈ l, x.f2.size ≤ 300) from decide_eq_decide.2 (by simp [fewA, hl])]
    · rw [decide_eq_false (fun h => hl h.1)]
      exact Ev.congr (fun n => by rw [if_pos (by omega)]) (Ev.now _)
  obtain ⟨k, hk⟩ := hev.rounds
  exact abutmentlaw03_few.calls k A c l _ w hr hc hk

theorem IsQ.lenq {w : World} {g r m : Nat} {q : List UInt8} (h : IsQ w g r m q) (n : Nat) : Calls Try.prog 22 #[.pointer (some ⟨g, 0, none⟩)] (w.drewN n) fun e w' => e = .returned (.int .i64 (q.length : Int)) ∧ ∃ m, w' = w.drewN m :=
  (IsQ.len (w := w.drewN n) (h.only ((Only.refl w (fun _ => False)).drewN n) (fun h => h) (fun h => h))).mono fun _ _ ⟨he, hw⟩ => ⟨he, n, hw.symm⟩
theorem IsQ.mostq {w : World} {g r m : Nat} {q : List UInt8} (h : IsQ w g r m q) (n : Nat) : Calls Try.prog 24 #[.pointer (some ⟨g, 0, none⟩)] (w.drewN n) fun e w' => e = .returned (.int .i64 (m : Int)) ∧ ∃ m, w' = w.drewN m :=
  (IsQ.most (w := w.drewN n) (h.only ((Only.refl w (fun _ => False)).drewN n) (fun h => h) (fun h => h))).mono fun _ _ ⟨he, hw⟩ => ⟨he, n, hw.symm⟩
theorem IsQ.roomq {w : World} {g r m : Nat} {q : List UInt8} (h : IsQ w g r m q) (n : Nat) : Calls Try.prog 23 #[.pointer (some ⟨g, 0, none⟩)] (w.drewN n) fun e w' => e = .returned (.int .i64 ((m : Int) - (q.length : Int))) ∧ ∃ m, w' = w.drewN m :=
  (IsQ.room (w := w.drewN n) (h.only ((Only.refl w (fun _ => False)).drewN n) (fun h => h) (fun h => h))).mono fun _ _ ⟨he, hw⟩ => ⟨he, n, hw.symm⟩

set_option maxHeartbeats 8000000 in
set_option maxRecDepth 100000 in
theorem plays_out (most : Int) (A : Option Addr) (c : Nat) (l : List S30) (w : World) (hr : Kd.C k30 w A l.length l) (hc : l.length ≤ c) (ho : most < 0 ∨ 2000 < most ∨ ¬ fewA l) :
    Calls Try.prog 3 #[.int .i64 most, .slice A l.length c] w fun e w' => e = .returned (.bool true) ∧ Below w.heap.size w w' := by
  have HR := Aside0.mk (few_any A c l w hr hc)
  clear hr
  by_cases h0 : most < 0
  · clear ho HR
    go_enter Try.func3, Try.ntmps3
    go_wp2_with (first | (go_at_call 14; refine (new_bad _ most (Or.inl h0)).mono ?_; rintro e w' ⟨rfl, rfl⟩) | (go_at_call 15; refine (lives_any _).mono ?_; rintro e w1 ⟨rfl, hb1⟩; have HB1 := Aside0.mk hb1; clear hb1))
    go_ret
    exact ⟨rfl, HB1.out⟩
  · by_cases h1 : 2000 < most
    · clear ho HR
      have h1' : most > 2000 := h1
      by_cases h2 : most ≤ 65536
      · go_enter Try.func3, Try.ntmps3
        go_wp2_with (first | (go_at_call 15; refine (lives_any _).mono ?_; rintro e w1 ⟨rfl, hb1⟩; have HB1 := Aside0.mk hb1; clear hb1))
        go_ret
        exact ⟨rfl, HB1.out⟩
      · go_enter Try.func3, Try.ntmps3
        go_wp2_with (first | (go_at_call 14; refine (new_bad _ most (Or.inr (by omega))).mono ?_; rintro e w' ⟨rfl, rfl⟩) | (go_at_call 15; refine (lives_any _).mono ?_; rintro e w1 ⟨rfl, hb1⟩; have HB1 := Aside0.mk hb1; clear hb1))
        go_ret
        exact ⟨rfl, HB1.out⟩
    · have hf : ¬ fewA l := by rcases ho with h | h | h; exact absurd h h0; exact absurd h h1; exact h
      have h2 : most ≤ 65536 := by omega
      have hfd := HR.out
      rw [decide_eq_false hf] at hfd
      have HF := Aside0.mk hfd
      clear hfd HR ho hf
      go_enter Try.func3, Try.ntmps3
      go_wp2_with (first | (go_at_call 13; refine HF.out.mono ?_; rintro e w1 ⟨rfl, hb1⟩; have HB1 := Aside0.mk hb1; clear hb1) | (go_at_call 15; refine (lives_any _).mono ?_; rintro e w2 ⟨rfl, hb2⟩; have HB2 := Aside0.mk hb2; clear hb2))
      go_ret
      exact ⟨rfl, below_step HB1.out HB2.out⟩

theorem InQ.lift {w0 w1 w : World} {g r m : Nat} {q : List UInt8} (h : InQ w1 w g r m q) (hb : Below w0.heap.size w0 w1) : InQ w0 w g r m q :=
  ⟨h.q, below_step hb h.bel, Nat.le_trans hb.size h.g0, Nat.le_trans hb.size h.r0⟩
theorem IsQ.same {w w' : World} {g r m : Nat} {q : List UInt8} (h : IsQ w g r m q) (e : w'.heap = w.heap) : IsQ w' g r m q := by
  obtain ⟨xs, fr, hm, hs⟩ := h
  exact ⟨xs, fr, hm, by have := hs.hdr; unfold Hdr at *; rwa [e], by have := hs.row; unfold Row at *; rwa [e], hs.le, hs.lt, hs.lt', hs.cap, hs.ring⟩
/-- the queue and the reference's, which hold the same -/
structure Both (w0 w : World) (g r b m : Nat) (q : List UInt8) : Prop where
  inq : InQ w0 w g r m q
  ref : RefQ w b q m
  b0 : w0.heap.size ≤ b
theorem Both.ne {w0 w : World} {g r b m : Nat} {q : List UInt8} (h : Both w0 w g r b m q) : b ≠ g ∧ b ≠ r := by
  obtain ⟨xs, fr, hm, hs⟩ := h.inq.q
  exact ⟨blk_ne h.ref hs.hdr (by decide), blk_ne h.ref hs.row (by decide)⟩
theorem Both.same {w0 w w' : World} {g r b m : Nat} {q : List UInt8} (h : Both w0 w g r b m q) (e : w' = w.drew) : Both w0 w' g r b m q := by
  subst e
  exact ⟨⟨h.inq.q.same rfl, h.inq.bel.trans ((Below.refl _ _).drew), h.inq.g0, h.inq.r0⟩, h.ref, h.b0⟩
theorem Both.drewN {w0 w : World} {g r b m : Nat} {q : List UInt8} (h : Both w0 w g r b m q) (n : Nat) : Both w0 (w.drewN n) g r b m q :=
  ⟨⟨h.inq.q.same rfl, h.inq.bel.trans (pw_below_drewN (Below.refl _ _) n), h.inq.g0, h.inq.r0⟩, h.ref, h.b0⟩
theorem Both.lt {w0 w : World} {g r b m : Nat} {q : List UInt8} (h : Both w0 w g r b m q) : ∀ k, w.heap.size ≤ k → k ≠ g ∧ k ≠ r ∧ k ≠ b := fun k hk => by
  have h1 := h.inq.q.glt
  have h2 := blk_lt h.ref
  refine ⟨?_, ?_, ?_⟩ <;> omega
theorem Both.back {w0 w2 w3 : World} {g r b m : Nat} {q' : List UInt8} (h : InQ w0 w2 g r m q') (hb : w0.heap.size ≤ b) (hne : b ≠ g ∧ b ≠ r) (hr : RefQ w3 b q' m) (ho : Only w2 w3 (fun k => k = b)) : Both w0 w3 g r b m q' :=
  ⟨⟨h.q.only ho (fun e => hne.1 e.symm) (fun e => hne.2 e.symm), h.bel.trans (ho.below h.bel.size (fun k hk => by subst hk; exact hb)), h.g0, h.r0⟩, hr, hb⟩
theorem Both.put {w0 w w' : World} {g r b m : Nat} {q q' : List UInt8} (h : Both w0 w g r b m q) (hq : IsQ w' g r m q') (ho : Only w w' (fun k => k = g ∨ k = r)) : InQ w0 w' g r m q' ∧ RefQ w' b q m :=
  ⟨h.inq.step hq ho, ho.blk h.ref (fun e => by rcases e with e | e; exact h.ne.1 e; exact h.ne.2 e)⟩
theorem Both.alloc {w0 w : World} {g r b m : Nat} {q : List UInt8} (h : Both w0 w g r b m q) (o : Obj) : Both w0 (w.alloc o) g r b m q :=
  ⟨h.inq.below ((Below.refl _ _).alloc (Nat.le_refl _) _), (Below.heap_alloc _ _ _ (blk_lt h.ref)).trans h.ref, h.b0⟩

set_option maxHeartbeats 8000000 in
set_option maxRecDepth 100000 in
theorem plays_in (m : Nat) (A : Option Addr) (c : Nat) (l : List S30) (w : World) (hr : Kd.C k30 w A l.length l) (hc : l.length ≤ c) (hm : m ≤ 2000) (hf : fewA l) :
    Calls Try.prog 3 #[.int .i64 (m : Int), .slice A l.length c] w fun e w' => e = .returned (.bool true) ∧ Below w.heap.size w w' := by
  have hfd := few_any A c l w hr hc
  rw [decide_eq_true hf] at hfd
  have HFD := Aside0.mk hfd
  have HR := Aside0.mk hr
  have HF := Aside0.mk hf.2
  have hlen := hf.1
  clear hfd hr hf
  have hm0 : ¬ (m : Int) > 2000 := by omega
  go_enter Try.func3, Try.ntmps3
  go_wp2_with (first | (go_at_call 13; refine HFD.out.mono ?_; rintro e w1 ⟨rfl, hb1⟩; have HB1 := Aside0.mk hb1; clear hb1) | (go_at_call 14; refine (new_ok _ m (by omega)).mono ?_; rintro e w2 ⟨g, r, rfl, hg, hr, hq, hb2⟩; have HQ := Aside0.mk ((InQ.mk hq hb2 hg hr).lift HB1.out); clear hq hb2 hg hr))
  obtain ⟨b, hbe⟩ : ∃ b, b = w2.heap.size := ⟨_, rfl⟩
  have hboth : Both w (w2.alloc (.cells #[.string ⟨#[]⟩, .int .i64 (m : Int)] 28)) g r b m [] :=
    ⟨HQ.out.below ((Below.refl _ _).alloc (Nat.le_refl _) _), by rw [hbe]; exact heap_alloc_new w2 _, by rw [hbe]; exact HQ.out.bel.size⟩
  have HBO := Aside0.mk hboth
  rw [← hbe]
  clear hboth hbe
  go_loopw [43] (fun v43 wr => ∃ (i : Nat) (q : List UInt8), v43 = .int .i64 (i : Int) ∧ Aside0 (i ≤ l.length ∧ Both w wr g r b m q)) (fun v43 _ => l.length - (intOf v43).toNat)
  case atStart => exact ⟨0, [], rfl, ⟨by omega, HBO.out⟩⟩
  case round =>
    obtain ⟨i, q, rfl, HA⟩ := hrel
    obtain ⟨hi, hbo⟩ := HA.out
    clear HA
    have HW := Aside0.mk hbo
    clear hbo
    by_cases hlt : i < l.length
    · obtain ⟨ad, e, hx0, hx1, hx2⟩ := at_T30 (Kd.C_below HR.out HW.out.inq.bel) (i : Int) (by omega) (by omega)
      cases e
      rw [rd30 l i hlt, Int.toNat_natCast] at hx0 hx1 hx2
      obtain ⟨x, hxe⟩ : ∃ x, x = l[i] := ⟨_, rfl⟩
      have hxs : x.f2.size ≤ 300 := HF.out x (by rw [hxe]; exact List.getElem_mem _)
      rw [← hxe] at hx0 hx1 hx2
      clear hxe
      obtain ⟨d, n, t⟩ := x
      simp only at hxs hx0 hx1 hx2
      have hal : ∀ d : Int, Both w (wr.alloc (.cells #[.int .i64 d, .int .i64 n, .string t] 30)) g r b m q ∧ (wr.alloc (.cells #[.int .i64 d, .int .i64 n, .string t] 30)).heap[wr.heap.size]? = some (.cells #[.int .i64 d, .int .i64 n, .string t] 30 (0, 0)) := fun d => ⟨HW.out.alloc _, heap_alloc_new wr _⟩
      have HAL := Aside0.mk hal
      clear hal
      by_cases hd1 : d = 1
      · subst hd1
        obtain ⟨W, hWe⟩ : ∃ W, W = wr.alloc (.cells #[.int .i64 1, .int .i64 n, .string t] 30) := ⟨_, rfl⟩
        have hW := HAL.out 1
        rw [← hWe] at hW
        have HWB := Aside0.mk hW.1
        have HWK := Aside0.mk hW.2
        have hc2 : W.cell? ⟨wr.heap.size, 2, none⟩ = some (.string t) := (blk_cell hW.2 2).trans rfl
        clear hW
        go_wp2_with fail
        rw [← hWe]
        clear hWe
        have HNE := Aside0.mk (HW.out.lt wr.heap.size (Nat.le_refl _))
        have HQL := HWB.out.inq.q.len_le
        have HSM := Aside0.mk (show t.size ≤ 1000000 ∧ q.length ≤ 1000000 ∧ m ≤ 1000000 by omega)
        clear HQL
        go_region_held3 (fun w' => w'.cell? ⟨wr.heap.size, 2, none⟩ = some (.string t)) (first | assumption | go_keep)
          (first | (go_at_call 16; go_loud (refine (IsQ.put (w := W.drew) (HWB.out.inq.q.same rfl) t (by omega)).mono ?_); rintro e w2 ⟨rfl, hq2, ho2⟩; have h2 := Both.put (w := W.drew) (HWB.out.same rfl) hq2 ho2; have hk2 := Only.blk ho2 (show W.drew.heap[wr.heap.size]? = _ from HWK.out) (fun e => e.elim HNE.out.1 HNE.out.2.1); have hc22 : w2.cell? ⟨wr.heap.size, 2, none⟩ = some (.string t) := (blk_cell hk2 2).trans rfl; have H2 := Aside0.mk h2; have HK2 := Aside0.mk hk2; clear hq2 ho2 h2 hk2) | (go_at_call 17; go_loud (refine (refput w2 b q m (min t.size (m - q.length)) t H2.out.2 HSM.out.1 HSM.out.2.1 HSM.out.2.2 rfl).mono ?_); rintro e w3 ⟨rfl, hr3, ho3⟩; have hc23 : w3.cell? ⟨wr.heap.size, 2, none⟩ = some (.string t) := (blk_cell (ho3.blk HK2.out HNE.out.2.2) 2).trans rfl; have H3 := Aside0.mk (Both.back H2.out.1 HWB.out.b0 HWB.out.ne hr3 ho3); clear hr3 ho3))
        obtain ⟨q', hq'⟩ : ∃ q', q' = q ++ t.data.toList.take (min t.size (m - q.length)) := ⟨_, rfl⟩
        have h3 := H3.out
        rw [← hq'] at h3
        have hcb := h3.ref.c0
        have hzs := str_size q'
        have hql := h3.inq.q.len_le
        obtain ⟨z, hz⟩ : ∃ z, z = (⟨q'.toArray⟩ : ByteArray) := ⟨_, rfl⟩
        rw [← hz] at hcb hzs
        have HL := Aside0.mk h3.inq.q.lenq
        have HM := Aside0.mk h3.inq.q.mostq
        have HRM := Aside0.mk h3.inq.q.roomq
        have H4 := Aside0.mk h3
        clear h3 hq' hz
        go_wp2_with fail
        go_quiet ((first | (go_at_call 22; exact HL.out _) | (go_at_call 23; exact HRM.out _) | (go_at_call 24; exact HM.out _)))
        go_wp2
        go_roundw
        case rel => exact ⟨i + 1, q', by go_num, ⟨by omega, (H4.out.drewN _)⟩⟩
        case measure => simp [intOf]; omega
      · by_cases hd2 : d = 2
        · subst hd2
          obtain ⟨W, hWe⟩ : ∃ W, W = wr.alloc (.cells #[.int .i64 2, .int .i64 n, .string t] 30) := ⟨_, rfl⟩
          have hW := HAL.out 2
          rw [← hWe] at hW
          have HWB := Aside0.mk hW.1
          have HWK := Aside0.mk hW.2
          have hc2 : W.cell? ⟨wr.heap.size, 1, none⟩ = some (.int .i64 n) := (blk_cell hW.2 1).trans rfl
          clear hW
          go_wp2_with fail
          rw [← hWe]
          clear hWe
          have HNE := Aside0.mk (HW.out.lt wr.heap.size (Nat.le_refl _))
          have HQL := HWB.out.inq.q.len_le
          have HSM := Aside0.mk (show t.size ≤ 1000000 ∧ q.length ≤ 1000000 ∧ m ≤ 1000000 by omega)
          clear HQL
          go_region_held3 (fun w' => w'.cell? ⟨wr.heap.size, 1, none⟩ = some (.int .i64 n)) (first | assumption | go_keep)
            (first | (go_at_call 18; go_loud (refine (IsQ.take (w := W.drew) (HWB.out.inq.q.same rfl) n).mono ?_); rintro e w2 ⟨rfl, hq2, ho2⟩; have h2 := Both.put (w := W.drew) (HWB.out.same rfl) hq2 (ho2.mono (fun _ _ h => Or.inl h)); have hk2 := Only.blk ho2 (show W.drew.heap[wr.heap.size]? = _ from HWK.out) HNE.out.1; have hc22 : w2.cell? ⟨wr.heap.size, 1, none⟩ = some (.int .i64 n) := (blk_cell hk2 1).trans rfl; have H2 := Aside0.mk h2; have HK2 := Aside0.mk hk2; clear hq2 ho2 h2 hk2) | (go_at_call 19; go_loud (refine (reftake w2 b q m n H2.out.2 HSM.out.2.1).mono ?_); rintro e w3 ⟨rfl, hr3, ho3⟩; have hc23 : w3.cell? ⟨wr.heap.size, 1, none⟩ = some (.int .i64 n) := (blk_cell (ho3.blk HK2.out HNE.out.2.2) 1).trans rfl; have H3 := Aside0.mk (Both.back H2.out.1 HWB.out.b0 HWB.out.ne hr3 ho3); clear hr3 ho3))
          obtain ⟨q', hq'⟩ : ∃ q', q' = q.drop n.toNat := ⟨_, rfl⟩
          have h3 := H3.out
          rw [← hq'] at h3
          have hcb := h3.ref.c0
          have hzs := str_size q'
          have hql := h3.inq.q.len_le
          obtain ⟨z, hz⟩ : ∃ z, z = (⟨q'.toArray⟩ : ByteArray) := ⟨_, rfl⟩
          rw [← hz] at hcb hzs
          have HL := Aside0.mk h3.inq.q.lenq
          have HM := Aside0.mk h3.inq.q.mostq
          have HRM := Aside0.mk h3.inq.q.roomq
          have H4 := Aside0.mk h3
          clear h3 hq' hz
          go_wp2_with fail
          go_quiet ((first | (go_at_call 22; exact HL.out _) | (go_at_call 23; exact HRM.out _) | (go_at_call 24; exact HM.out _)))
          go_wp2
          go_roundw
          case rel => exact ⟨i + 1, q', by go_num, ⟨by omega, (H4.out.drewN _)⟩⟩
          case measure => simp [intOf]; omega
        · have hb1 : (d == 1) = false := beq_eq_false_iff_ne.2 hd1
          have hb2 : (d == 2) = false := beq_eq_false_iff_ne.2 hd2
          obtain ⟨W, hWe⟩ : ∃ W, W = wr.alloc (.cells #[.int .i64 d, .int .i64 n, .string t] 30) := ⟨_, rfl⟩
          have hW := HAL.out d
          rw [← hWe] at hW
          have HWB := Aside0.mk hW.1
          have HWK := Aside0.mk hW.2
          have hc2 : W.cell? ⟨wr.heap.size, 1, none⟩ = some (.int .i64 n) := (blk_cell hW.2 1).trans rfl
          clear hW
          go_wp2_with fail
          rw [← hWe]
          clear hWe
          have HNE := Aside0.mk (HW.out.lt wr.heap.size (Nat.le_refl _))
          have HQL := HWB.out.inq.q.len_le
          have HSM := Aside0.mk (show t.size ≤ 1000000 ∧ q.length ≤ 1000000 ∧ m ≤ 1000000 by omega)
          clear HQL
          go_region_held3 (fun w' => w'.cell? ⟨wr.heap.size, 1, none⟩ = some (.int .i64 n)) (first | assumption | go_keep)
            (first | (go_at_call 20; go_loud (refine (IsQ.peek (w := W.drew) (HWB.out.inq.q.same rfl) n).mono ?_); rintro e w2 ⟨rfl, nd, hw2⟩; have h2 : Both w w2 g r b m q := (by rw [hw2]; exact Both.drewN (HWB.out.same rfl) nd); have hk2 : w2.heap[wr.heap.size]? = some (.cells #[.int .i64 d, .int .i64 n, .string t] 30 (0, 0)) := (by rw [hw2]; exact HWK.out); have hc22 : w2.cell? ⟨wr.heap.size, 1, none⟩ = some (.int .i64 n) := (blk_cell hk2 1).trans rfl; have H3 := Aside0.mk h2; clear h2 hk2 hw2) | (go_at_call 21; go_loud (refine (refpeek w2 b q m n H3.out.ref HSM.out.2.1).mono ?_); rintro e w3 ⟨rfl, rfl⟩))
          obtain ⟨q', hq'⟩ : ∃ q', q' = q := ⟨_, rfl⟩
          have h3 := H3.out
          rw [← hq'] at h3
          have hcb := h3.ref.c0
          have hzs := str_size q'
          have hql := h3.inq.q.len_le
          obtain ⟨z, hz⟩ : ∃ z, z = (⟨q'.toArray⟩ : ByteArray) := ⟨_, rfl⟩
          rw [← hz] at hcb hzs
          have HL := Aside0.mk h3.inq.q.lenq
          have HM := Aside0.mk h3.inq.q.mostq
          have HRM := Aside0.mk h3.inq.q.roomq
          have H4 := Aside0.mk h3
          clear h3 hq' hz
          go_wp2_with fail
          go_quiet ((first | (go_at_call 22; exact HL.out _) | (go_at_call 23; exact HRM.out _) | (go_at_call 24; exact HM.out _)))
          go_wp2
          go_roundw
          case rel => exact ⟨i + 1, q', by go_num, ⟨by omega, (H4.out.drewN _)⟩⟩
          case measure => simp [intOf]; omega
    · go_wp2_with (go_at_call 15; refine (lives_any _).mono ?_; rintro e w2 ⟨rfl, hb2⟩; have HB2 := Aside0.mk hb2; clear hb2)
      go_ret
      exact ⟨rfl, below_step HW.out.inq.bel HB2.out⟩

theorem abutmentlaw03_QueuePlays.calls (a0 : Int) (A1 : Option Addr) (c1 : Nat) (l1 : List S30) (r : Bool) (w : World) (hr1 : Kd.C k30 w A1 l1.length l1) (hc1 : l1.length ≤ c1) (h : r = true) :
    Calls Try.prog 3 #[.int .i64 a0, .slice A1 l1.length c1] w fun e w' => e = .returned (.bool r) ∧ Below w.heap.size w w' := by
  subst h
  by_cases ho : a0 < 0 ∨ 2000 < a0 ∨ ¬ fewA l1
  · exact plays_out a0 A1 c1 l1 w hr1 hc1 ho
  · have h0 : ¬ a0 < 0 := fun h => ho (Or.inl h)
    have h1 : ¬ 2000 < a0 := fun h => ho (Or.inr (Or.inl h))
    have h2 : fewA l1 := Decidable.of_not_not (fun h => ho (Or.inr (Or.inr h)))
    obtain ⟨m, rfl⟩ := Int.eq_ofNat_of_zero_le (show 0 ≤ a0 by omega)
    exact plays_in m A1 c1 l1 w hr1 hc1 (by omega) h2
namespace Pure
theorem QueuePlays (a0 : Int) (l1 : List S30) : true = true := rfl
end Pure
end Go.Proofs.Ytacglolggaobdaa.Qu
