/- LinkPlays: the law returns true for every number and every list of calls. -/
import Derived.Test.YtacglolggaobdaaLLives
import Derived.Test.YtacglolggaobdaaHQuiet
import Derived.Test.YtacglolggaobdaaPQueuex1
import Derived.Deep.QuietTactic
import Derived.BigQuiet
namespace Go.Proofs.Ytacglolggaobdaa.Qu
open Go.RowKit Go.Proofs.YtacglolggaobdaaW.PrintWords Go.Proofs.YtacglolggaobdaaW.PrintLast Go.Proofs.YtacglolggaobdaaW.PrintMore Go.Proofs.Ytacglolggaobdaa.PQueue Go.Proofs.Ytacglolggaobdaa.HQ
attribute [local go_sem] max2_int min2_int max_two min_two max_three min_three max_four min_four
set_option linter.unusedVariables false
set_option linter.unusedSimpArgs false

theorem rd44 (l : List S44) (i : Nat) (h : i < l.length) : rd_T44 l (i : Int) = l[i] := by
  unfold rd_T44
  rw [Int.toNat_natCast, List.getD_eq_getElem?_getD, List.getElem?_eq_getElem h]; rfl
def fewL (l : List S44) : Prop := l.length ≤ 60 ∧ ∀ x ∈ l, x.f2.size ≤ 300
instance (l : List S44) : Decidable (fewL l) := by unfold fewL; infer_instance
theorem fewl_l0 (l : List S44) (hl : l.length ≤ 60) : ∀ (d i : Nat), l.length - i = d → i ≤ l.length → Ev (fun n => abutmentlaw38_few.l0 n l (l.length : Int) (i : Int)) (decide (∀ x ∈ l.drop i, x.f2.size ≤ 300)) := by
  intro d
  induction d with
  | zero =>
    intro i hd hi
    rw [List.drop_eq_nil_of_le (by omega), decide_eq_true (by simp)]
    refine Ev.step (f := fun _ => some true) (fun n => ?_) (Ev.now _)
    simp only [abutmentlaw38_few.l0]
    rw [if_neg (by omega)]
  | succ d ih =>
    intro i hd hi
    have hil : i < l.length := by omega
    have hrd := rd44 l i hil
    rw [List.drop_eq_getElem_cons hil]
    by_cases h0 : l[i].f2.size ≤ 300
    · rw [decide_eq_decide.2 (show (∀ x ∈ l[i] :: l.drop (i + 1), x.f2.size ≤ 300) ↔ (∀ x ∈ l.drop (i + 1), x.f2.size ≤ 300) from ⟨fun h x hx => h x (List.mem_cons_of_mem _ hx), fun h x hx => by
          rcases List.mem_cons.1 hx with rfl | hx
          · exact h0
          · exact h x hx⟩)]
      refine Ev.step (f := fun n => abutmentlaw38_few.l0 n l (l.length : Int) ((i + 1 : Nat) : Int)) (fun n => ?_) (ih (i + 1) (by omega) (by omega))
      simp only [abutmentlaw38_few.l0]
      rw [if_pos (by omega), if_pos (by omega), if_pos (by omega), hrd, if_neg (by omega), w64q (by omega) (by omega)]; rfl
    · rw [decide_eq_false (fun h => h0 (h _ (List.mem_cons_self ..)))]
      refine Ev.step (f := fun _ => some false) (fun n => ?_) (Ev.now _)
      simp only [abutmentlaw38_few.l0]
      rw [if_pos (by omega), if_pos (by omega), if_pos (by omega), hrd, if_pos (by omega)]
theorem fewl_any (A : Option Addr) (c : Nat) (l : List S44) (w : World) (hr : Kd.C k44 w A l.length l) (hc : l.length ≤ c) : Calls Try.prog 25 #[.slice A l.length c] w fun e w' => e = .returned (.bool (decide (fewL l))) ∧ Below w.heap.size w w' := by
  have hev : Ev (fun n => abutmentlaw38_few.f n l) (decide (fewL l)) := by
    unfold abutmentlaw38_few.f
    by_cases hl : l.length ≤ 60
    · refine Ev.congr (f := fun n => abutmentlaw38_few.l0 n l (l.length : Int) ((0 : Nat) : Int)) (fun n => by rw [if_neg (by omega)]; rfl) ?_
      have := fewl_l0 l hl _ 0 rfl (by omega)
      rw [List.drop_zero] at this
      rwa [show decide (fewL l) = decide (∀ x ∈ l, x.f2.size ≤ 300) from decide_eq_decide.2 (by simp [fewL, hl])]
    · rw [decide_eq_false (fun h => hl h.1)]
      exact Ev.congr (fun n => by rw [if_pos (by omega)]) (Ev.now _)
  obtain ⟨k, hk⟩ := hev.rounds
  exact abutmentlaw38_few.calls k A c l _ w hr hc hk


set_option maxHeartbeats 8000000 in
set_option maxRecDepth 100000 in
theorem lplays_out (most : Int) (A : Option Addr) (c : Nat) (l : List S44) (w : World) (hr : Kd.C k44 w A l.length l) (hc : l.length ≤ c) (ho : most < 0 ∨ 2000 < most ∨ ¬ fewL l) :
    Calls Try.prog 5 #[.int .i64 most, .slice A l.length c] w fun e w' => e = .returned (.bool true) ∧ Below w.heap.size w w' := by
  have HR := Aside0.mk (fewl_any A c l w hr hc)
  clear hr
  by_cases h0 : most < 0
  · clear ho HR
    go_enter Try.func5, Try.ntmps5
    go_wp2_with (first | (go_at_call 26; refine (lnew_bad _ most (Or.inl h0)).mono ?_; rintro e w' ⟨rfl, rfl⟩) | (go_at_call 27; refine (llives_any _).mono ?_; rintro e w1 ⟨rfl, hb1⟩; have HB1 := Aside0.mk hb1; clear hb1))
    go_ret
    exact ⟨rfl, HB1.out⟩
  · by_cases h1 : 2000 < most
    · clear ho HR
      have h1' : most > 2000 := h1
      by_cases h2 : most ≤ 65536
      · go_enter Try.func5, Try.ntmps5
        go_wp2_with (first | (go_at_call 27; refine (llives_any _).mono ?_; rintro e w1 ⟨rfl, hb1⟩; have HB1 := Aside0.mk hb1; clear hb1))
        go_ret
        exact ⟨rfl, HB1.out⟩
      · go_enter Try.func5, Try.ntmps5
        go_wp2_with (first | (go_at_call 26; refine (lnew_bad _ most (Or.inr (by omega))).mono ?_; rintro e w' ⟨rfl, rfl⟩) | (go_at_call 27; refine (llives_any _).mono ?_; rintro e w1 ⟨rfl, hb1⟩; have HB1 := Aside0.mk hb1; clear hb1))
        go_ret
        exact ⟨rfl, HB1.out⟩
    · have hf : ¬ fewL l := by rcases ho with h | h | h; exact absurd h h0; exact absurd h h1; exact h
      have h2 : most ≤ 65536 := by omega
      have hfd := HR.out
      rw [decide_eq_false hf] at hfd
      have HF := Aside0.mk hfd
      clear hfd HR ho hf
      go_enter Try.func5, Try.ntmps5
      go_wp2_with (first | (go_at_call 25; refine HF.out.mono ?_; rintro e w1 ⟨rfl, hb1⟩; have HB1 := Aside0.mk hb1; clear hb1) | (go_at_call 27; refine (llives_any _).mono ?_; rintro e w2 ⟨rfl, hb2⟩; have HB2 := Aside0.mk hb2; clear hb2))
      go_ret
      exact ⟨rfl, below_step HB1.out HB2.out⟩

theorem InL.lift {w0 w1 w : World} {L : Lk} {v : LV} (h : InL w1 w L v) (hb : Below w0.heap.size w0 w1) : InL w0 w L v :=
  ⟨h.ex, below_step hb h.bel, fun b e => Nat.le_trans hb.size (h.new b e)⟩
theorem i64_range {n : Int} (h : (Lit.int .i64 n).wf = true) : -9223372036854775808 ≤ n ∧ n ≤ 9223372036854775807 := by
  simp [Lit.wf] at h
  have e : IntKind.i64.min = -9223372036854775808 := by decide
  rw [e] at h
  exact h
/-- what a link tells, after some draws -/
structure Tells (w : World) (L : Lk) (v : LV) : Prop where
  left : ∀ n, Calls Try.prog 29 #[.pointer (some ⟨L.k, 0, none⟩)] (w.drewN n) fun x w' => x = .returned (.string (st v.I)) ∧ ∃ nd, w' = w.drewN nd
  dry : ∀ n, Calls Try.prog 30 #[.pointer (some ⟨L.k, 0, none⟩)] (w.drewN n) fun x w' => x = .returned (.bool (v.e && v.I.isEmpty)) ∧ ∃ nd, w' = w.drewN nd
  waits : ∀ n, Calls Try.prog 31 #[.pointer (some ⟨L.k, 0, none⟩)] (w.drewN n) fun x w' => x = .returned (.int .i64 (v.Out.length : Int)) ∧ ∃ nd, w' = w.drewN nd
  free : ∀ n, Calls Try.prog 32 #[.pointer (some ⟨L.k, 0, none⟩)] (w.drewN n) fun x w' => x = .returned (.bool (decide (v.Out.length ≤ v.m))) ∧ ∃ nd, w' = w.drewN nd
  over : ∀ n, Calls Try.prog 33 #[.pointer (some ⟨L.k, 0, none⟩)] (w.drewN n) fun x w' => x = .returned (.bool (v.s && v.Out.isEmpty)) ∧ ∃ nd, w' = w.drewN nd
  live : ∀ n, Calls Try.prog 34 #[.pointer (some ⟨L.k, 0, none⟩)] (w.drewN n) fun x w' => x = .returned (.bool (!v.s)) ∧ ∃ nd, w' = w.drewN nd
theorem InL.tells {w0 w : World} {L : Lk} {v : LV} (h : InL w0 w L v) (hO : v.Out.length ≤ 1000000) : Tells w L v :=
  ⟨fun n => (h.drewN n).left.mono fun _ _ ⟨he, nd, hw⟩ => ⟨he, n + nd, by rw [hw, World.drewN_drewN]⟩,
   fun n => (h.drewN n).dry.mono fun _ _ ⟨he, hw⟩ => ⟨he, n, hw.symm⟩,
   fun n => ((h.drewN n).waits hO).mono fun _ _ ⟨he, nd, hw⟩ => ⟨he, n + nd, by rw [hw, World.drewN_drewN]⟩,
   fun n => (h.drewN n).free.mono fun _ _ ⟨he, hw⟩ => ⟨he, n, hw.symm⟩,
   fun n => ((h.drewN n).over hO).mono fun _ _ ⟨he, nd, hw⟩ => ⟨he, n + nd, by rw [hw, World.drewN_drewN]⟩,
   fun n => (h.drewN n).live.mono fun _ _ ⟨he, hw⟩ => ⟨he, n, hw.symm⟩⟩
theorem LV.act_m (v : LV) (d n : Int) (t : ByteArray) : (v.act d n t).m = v.m := by
  obtain ⟨u, e⟩ : ∃ u, v.act d n t = u := ⟨_, rfl⟩
  rw [e]
  unfold LV.act at e
  by_cases h1 : d = 1
  · rw [if_pos h1] at e; subst e; rfl
  · rw [if_neg h1] at e
    by_cases h2 : d = 2
    · rw [if_pos h2] at e; subst e; rfl
    · rw [if_neg h2] at e
      by_cases h3 : d = 3
      · rw [if_pos h3] at e; subst e; rfl
      · rw [if_neg h3] at e
        by_cases h4 : d = 4
        · rw [if_pos h4] at e; subst e; rfl
        · rw [if_neg h4] at e
          by_cases h5 : d = 5
          · rw [if_pos h5] at e; subst e; rfl
          · rw [if_neg h5] at e
            by_cases h6 : d = 6
            · rw [if_pos h6] at e; subst e; rfl
            · rw [if_neg h6] at e
              subst e; rfl
theorem LV.act_out (v : LV) (d n : Int) (t : ByteArray) : (v.act d n t).Out.length ≤ v.Out.length + t.size := by
  obtain ⟨u, e⟩ : ∃ u, v.act d n t = u := ⟨_, rfl⟩
  rw [e]
  unfold LV.act at e
  by_cases h1 : d = 1
  · rw [if_pos h1] at e; subst e; show v.Out.length ≤ _; omega
  · rw [if_neg h1] at e
    by_cases h2 : d = 2
    · rw [if_pos h2] at e; subst e; show v.Out.length ≤ _; omega
    · rw [if_neg h2] at e
      by_cases h3 : d = 3
      · rw [if_pos h3] at e; subst e; show v.Out.length ≤ _; omega
      · rw [if_neg h3] at e
        by_cases h4 : d = 4
        · rw [if_pos h4] at e; subst e; show (if v.s = true then v.Out else v.Out ++ t.data.toList).length ≤ _; (split; omega; (rw [List.length_append, data_length]; exact Nat.le_refl _))
        · rw [if_neg h4] at e
          by_cases h5 : d = 5
          · rw [if_pos h5] at e; subst e; show (v.Out.drop n.toNat).length ≤ _; (rw [List.length_drop]; omega)
          · rw [if_neg h5] at e
            by_cases h6 : d = 6
            · rw [if_pos h6] at e; subst e; show v.Out.length ≤ _; omega
            · rw [if_neg h6] at e
              subst e; show v.Out.length ≤ _; omega

set_option maxHeartbeats 16000000 in
set_option maxRecDepth 100000 in
theorem lplays_in (m : Nat) (A : Option Addr) (c : Nat) (l : List S44) (w : World) (hr : Kd.C k44 w A l.length l) (hc : l.length ≤ c) (hm : m ≤ 2000) (hf : fewL l) (hwf : ∀ x ∈ l, -9223372036854775808 ≤ x.f1 ∧ x.f1 ≤ 9223372036854775807) :
    Calls Try.prog 5 #[.int .i64 (m : Int), .slice A l.length c] w fun e w' => e = .returned (.bool true) ∧ Below w.heap.size w w' := by
  have hfd := fewl_any A c l w hr hc
  rw [decide_eq_true hf] at hfd
  have HFD := Aside0.mk hfd
  have HR := Aside0.mk hr
  have HF := Aside0.mk hf.2
  have HWF := Aside0.mk hwf
  have hlen := hf.1
  clear hfd hr hf hwf
  have hm0 : ¬ (m : Int) > 2000 := by omega
  go_enter Try.func5, Try.ntmps5
  go_wp2_with (first | (go_at_call 25; refine HFD.out.mono ?_; rintro e w1 ⟨rfl, hb1⟩; have HB1 := Aside0.mk hb1; clear hb1) | (go_at_call 26; refine (lnew_ok _ m (by omega)).mono ?_; rintro e w2 ⟨L, rfl, hl⟩; have HQ := Aside0.mk (hl.lift HB1.out); clear hl))
  obtain ⟨b, hbe⟩ : ∃ b, b = w2.heap.size := ⟨_, rfl⟩
  have hboth : BothL w (w2.alloc (.cells #[.string ⟨#[]⟩, .string ⟨#[]⟩, .int .i64 (m : Int), .bool false, .bool false] 43)) L b ⟨m, [], [], false, false⟩ :=
    ⟨HQ.out.only ((Only.refl w2 (fun _ => False)).alloc _) (fun _ _ h => h) (fun _ h => h.elim), by rw [hbe]; exact heap_alloc_new w2 _, by rw [hbe]; exact HQ.out.bel.size, fun e => by have := HQ.out.lt b e; omega⟩
  have HBO := Aside0.mk hboth
  rw [← hbe]
  clear hboth hbe
  go_loopw [42] (fun v42 wr => ∃ (i : Nat) (v : LV), v42 = .int .i64 (i : Int) ∧ Aside0 (i ≤ l.length ∧ BothL w wr L b v ∧ v.m = m ∧ v.Out.length ≤ 300 * i)) (fun v42 _ => l.length - (intOf v42).toNat)
  case atStart => exact ⟨0, _, rfl, ⟨by omega, HBO.out, rfl, by simp⟩⟩
  case round =>
    obtain ⟨i, v, rfl, HA⟩ := hrel
    obtain ⟨hi, hbo, hvm, hvo⟩ := HA.out
    clear HA
    have HW := Aside0.mk hbo
    have HVM := Aside0.mk hvm
    clear hbo hvm
    by_cases hlt : i < l.length
    · obtain ⟨ad, e, hx0, hx1, hx2⟩ := at_T44 (Kd.C_below HR.out HW.out.inl.bel) (i : Int) (by omega) (by omega)
      cases e
      rw [rd44 l i hlt, Int.toNat_natCast] at hx0 hx1 hx2
      obtain ⟨x, hxe⟩ : ∃ x, x = l[i] := ⟨_, rfl⟩
      have hxs : x.f2.size ≤ 300 := HF.out x (by rw [hxe]; exact List.getElem_mem _)
      have hxw := HWF.out x (by rw [hxe]; exact List.getElem_mem _)
      rw [← hxe] at hx0 hx1 hx2
      clear hxe
      obtain ⟨d, n, t⟩ := x
      simp only at hxs hx0 hx1 hx2 hxw
      obtain ⟨B, hBe⟩ : ∃ B, B = wr.heap.size := ⟨_, rfl⟩
      obtain ⟨W, hWe⟩ : ∃ W, W = wr.alloc (.cells #[.int .i64 d, .int .i64 n, .string t] 44) := ⟨_, rfl⟩
      have hWB : BothL w W L b v := by rw [hWe]; exact HW.out.alloc _
      have hX : Bx W B d n t := by rw [hWe, hBe]; exact heap_alloc_new wr _
      have hB0 : W.cell? ⟨B, 0, none⟩ = some (.int .i64 d) := (blk_cell hX 0).trans rfl
      have hB1 := hX.c1
      have hB2 := hX.c2
      have HNE := Aside0.mk (show ∀ x, L.T b x → ¬ B = x from fun x e e' => by have := HW.out.lt x e; omega)
      have HACT := Aside0.mk (act_any (w := W.drew) (hWB.drewN 1) d n t hxs (by omega) hxw.1 hxw.2)
      have HV1 := Aside0.mk (LV.act_m v d n t)
      have HV2 := Aside0.mk (LV.act_out v d n t)
      have HX := Aside0.mk hX
      have HXS := Aside0.mk hxs
      clear hWB hX hxs hxw
      go_wp2_with fail
      rw [← hWe, ← hBe]
      clear hWe hBe
      have hS : W.drew.cell? ⟨B, 0, none⟩ = some (.int .i64 d) ∧ W.drew.cell? ⟨B, 1, none⟩ = some (.int .i64 n) ∧ W.drew.cell? ⟨B, 2, none⟩ = some (.string t) := ⟨hB0, hB1, hB2⟩
      -- region plays9
      refine start_ (n := 60) (S := fun w' => w'.cell? ⟨B, 0, none⟩ = some (.int .i64 d) ∧ w'.cell? ⟨B, 1, none⟩ = some (.int .i64 n) ∧ w'.cell? ⟨B, 2, none⟩ = some (.string t)) (ds := [3, 4, 5, 6, 7, 8, 9, 10, 11, 12, 13, 14, 15, 16, 17, 18, 19, 20, 21, 22, 23, 24, 25, 26, 27, 28, 29, 30, 31, 32, 33, 34, 35, 36, 37, 38, 39, 40, 41, 42, 43, 44, 45, 46, 47, 48, 49, 50, 51, 52, 53, 54, 55, 56, 57, 58, 59]) #[false, false, false, false, false, false, false, false, false, false, false, false, false, false, false, false, false, false, false, false, false, false, false, false, false, false, false, false, false, false, false, false, false, false, false, false, false, false, false, false, false, false, false, false, false, false, false, false, false, false, false, false, false, false, false, false, false, false, false, false] (by kernel_rfl) rfl rfl hS (fun hHeld => ?_)
      refine pure_ (i := 0) (N := (some 46)) (v := ?_) (a' := ?_) #[true, false, false, false, false, false, false, false, false, false, false, false, false, false, false, false, false, false, false, false, false, false, false, false, false, false, false, false, false, false, false, false, false, false, false, false, false, false, false, false, false, false, false, false, false, false, false, false, false, false, false, false, false, false, false, false, false, false, false, false] rfl rfl (by kernel_rfl) (fun _ _ _ h => h) (Or.inl ⟨by rfl, ?_⟩) ?_ ?_
      rotate_left
      · intro w'
        go_simp
        with_reducible rfl
      rotate_left
      · simp only [Act.put, List.setIfInBounds_toArray, List.set_cons_zero, List.set_cons_succ, i64_w, i32_w]
        rfl
      refine take_ (i := 1) (N := (some 47)) (v := ?_) (a' := ?_) #[true, true, false, false, false, false, false, false, false, false, false, false, false, false, false, false, false, false, false, false, false, false, false, false, false, false, false, false, false, false, false, false, false, false, false, false, false, false, false, false, false, false, false, false, false, false, false, false, false, false, false, false, false, false, false, false, false, false, false, false] rfl rfl (by kernel_rfl) (fun _ _ _ h => h) (Or.inl ⟨by rfl, ?_⟩) hHeld ?_ ?_
      rotate_left
      · rintro w' ⟨s0, s1, s2⟩
        go_simp
        with_reducible rfl
      rotate_left
      · simp only [Act.put, List.setIfInBounds_toArray, List.set_cons_zero, List.set_cons_succ, i64_w, i32_w]
        rfl
      refine one_ (i := 2) (N := (some 48)) #[true, true, true, false, false, false, false, false, false, false, false, false, false, false, false, false, false, false, false, false, false, false, false, false, false, false, false, false, false, false, false, false, false, false, false, false, false, false, false, false, false, false, false, false, false, false, false, false, false, false, false, false, false, false, false, false, false, false, false, false] rfl rfl (by kernel_rfl) (by decide) (fun K hK => ?_)
      refine goes_ Try.func28 (by kernel_rfl) rfl #[.pointer (some ⟨L.k, 0, none⟩), .pointer (some ⟨b, 0, none⟩), .agg #[.int .i64 d, .int .i64 n, .string t]] (by rfl) rfl rfl (by (try simp only [List.map_toArray, List.map_cons, List.map_nil]); first | done | rfl) ?_
      refine HACT.out.mono ?_
      rintro e w4 ⟨rfl, h4, ho4⟩
      have hx4 : Bx w4 B d n t := ho4.blk (show W.drew.heap[B]? = _ from HX.out) (fun e => HNE.out _ e rfl)
      have H4 := Aside0.mk h4
      have hc0 : w4.cell? ⟨B, 0, none⟩ = some (.int .i64 d) := (blk_cell hx4 0).trans rfl
      have hc1 := hx4.c1
      have hc2 := hx4.c2
      clear h4 ho4 hx4
      refine ⟨_, rfl, ?_⟩
      refine hK.out _ _ ⟨hc0, hc1, hc2⟩ (fun hHeld => ?_)
      clear hK K
      refine norm_ (a' := ?_) ?_ ?_
      rotate_left
      · show Act.put _ (some 48) _ = _
        simp only [Act.put, List.setIfInBounds_toArray, List.set_cons_zero, List.set_cons_succ, i64_w, i32_w]
        rfl
      -- end plays9
      generalize v.act d n t = v' at *
      obtain ⟨m', I', O', e', s'⟩ := v'
      have h4 := H4.out
      have hv1 : m' = v.m := HV1.out
      have hv2 : O'.length ≤ v.Out.length + t.size := HV2.out
      have hmm : m' = m := by have := HVM.out; omega
      subst hmm
      have htx := HXS.out
      have hO' : O'.length ≤ 300 * (i + 1) := by omega
      have hT := h4.inl.tells (by show O'.length ≤ 1000000; omega)
      have HT := Aside0.mk hT
      have HO' := Aside0.mk hO'
      have c0 := h4.ref.c0
      have c1 := h4.ref.c1
      have c3 := h4.ref.c3
      have c4 := h4.ref.c4
      simp only at c0 c1 c3 c4
      have hsO := st_size O'
      have hiI : (st I').toList.isEmpty = I'.isEmpty := by
        cases I' with
        | nil => exact st_empty _ rfl
        | cons => exact st_full _ (by simp)
      have hiO : (st O').toList.isEmpty = O'.isEmpty := by
        cases O' with
        | nil => exact st_empty _ rfl
        | cons => exact st_full _ (by simp)
      clear hT h4 hv1 hv2 htx hO' hvo hS hB0 hB1 hB2 hx0 hx1 hx2 hHeld
      refine tail_quiet 3 (by kernel_rfl) (by kernel_rfl) (by kernel_rfl) (by kernel_rfl) ?_
      simp only [List.drop_succ_cons, List.drop_zero]
      cases e' <;> cases s'
      all_goals
        repeat (first | go_big_quiet_step ((first | (go_at_call 29; exact HT.out.left _) | (go_at_call 30; exact HT.out.dry _) | (go_at_call 31; exact HT.out.waits _) | (go_at_call 32; exact HT.out.free _) | (go_at_call 33; exact HT.out.over _) | (go_at_call 34; exact HT.out.live _))) | quiet_step ((first | (go_at_call 29; exact HT.out.left _) | (go_at_call 30; exact HT.out.dry _) | (go_at_call 31; exact HT.out.waits _) | (go_at_call 32; exact HT.out.free _) | (go_at_call 33; exact HT.out.over _) | (go_at_call 34; exact HT.out.live _))))
        refine wpQuiet_nil ?_
        intro wq hw'
        obtain ⟨nq, rfl⟩ := hw'
        go_wp2
        go_roundw
        case rel => exact ⟨i + 1, _, by go_num, ⟨by omega, H4.out.drewN nq, rfl, HO'.out⟩⟩
        case measure => simp [intOf]; omega
    · go_wp2_with (go_at_call 27; refine (llives_any _).mono ?_; rintro e w2 ⟨rfl, hb2⟩; have HB2 := Aside0.mk hb2; clear hb2)
      go_ret
      exact ⟨rfl, below_step HW.out.inl.bel HB2.out⟩

theorem abutmentlaw38_LinkPlays.calls (a0 : Int) (A1 : Option Addr) (c1 : Nat) (l1 : List S44) (r : Bool) (w : World) (hr1 : Kd.C k44 w A1 l1.length l1) (hc1 : l1.length ≤ c1) (h : r = true ∧ ∀ x ∈ l1, (Lit.int .i64 x.f0).wf = true ∧ (Lit.int .i64 x.f1).wf = true ∧ x.f2.size ≤ maxLen) :
    Calls Try.prog 5 #[.int .i64 a0, .slice A1 l1.length c1] w fun e w' => e = .returned (.bool r) ∧ Below w.heap.size w w' := by
  obtain ⟨rfl, hwf⟩ := h
  by_cases ho : a0 < 0 ∨ 2000 < a0 ∨ ¬ fewL l1
  · exact lplays_out a0 A1 c1 l1 w hr1 hc1 ho
  · have h0 : ¬ a0 < 0 := fun h => ho (Or.inl h)
    have h1 : ¬ 2000 < a0 := fun h => ho (Or.inr (Or.inl h))
    have h2 : fewL l1 := Decidable.of_not_not (fun h => ho (Or.inr (Or.inr h)))
    obtain ⟨m, rfl⟩ := Int.eq_ofNat_of_zero_le (show 0 ≤ a0 by omega)
    exact lplays_in m A1 c1 l1 w hr1 hc1 (by omega) h2 (fun x hx => i64_range (hwf x hx).2.1)
namespace Pure
theorem LinkPlays (a0 : Int) (l1 : List S44) (g : ∀ x ∈ l1, (Lit.int .i64 x.f0).wf = true ∧ (Lit.int .i64 x.f1).wf = true ∧ x.f2.size ≤ maxLen) : true = true ∧ ∀ x ∈ l1, (Lit.int .i64 x.f0).wf = true ∧ (Lit.int .i64 x.f1).wf = true ∧ x.f2.size ≤ maxLen := ⟨rfl, g⟩
end Pure
end Go.Proofs.Ytacglolggaobdaa.Qu
