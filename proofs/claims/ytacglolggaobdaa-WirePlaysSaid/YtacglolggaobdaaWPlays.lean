/- WirePlays: the law returns true for every number and every list of calls. -/
import Derived.Test.YtacglolggaobdaaWLives
import Derived.Test.YtacglolggaobdaaPQueuex1
import Derived.Test.YtacglolggaobdaaHQuiet
import Derived.Deep.QuietTactic
import Derived.BigQuiet
namespace Go.Proofs.Ytacglolggaobdaa.Qu
open Go.RowKit Go.Proofs.YtacglolggaobdaaW.PrintWords Go.Proofs.YtacglolggaobdaaW.PrintLast Go.Proofs.YtacglolggaobdaaW.PrintMore Go.Proofs.Ytacglolggaobdaa.PQueue Go.Proofs.Ytacglolggaobdaa.HQ
attribute [local go_sem] max2_int min2_int max_two min_two max_three min_three max_four min_four
set_option linter.unusedVariables false
set_option linter.unusedSimpArgs false

theorem rd63 (l : List S63) (i : Nat) (h : i < l.length) : rd_T63 l (i : Int) = l[i] := by
  unfold rd_T63
  rw [Int.toNat_natCast, List.getD_eq_getElem?_getD, List.getElem?_eq_getElem h]; rfl
def fewW (l : List S63) : Prop := l.length ≤ 60 ∧ ∀ x ∈ l, x.f2.size ≤ 300
instance (l : List S63) : Decidable (fewW l) := by unfold fewW; infer_instance
theorem feww_l0 (l : List S63) (hl : l.length ≤ 60) : ∀ (d i : Nat), l.length - i = d → i ≤ l.length → Ev (fun n => abutmentlaw42_few.l0 n l (l.length : Int) (i : Int)) (decide (∀ x ∈ l.drop i, x.f2.size ≤ 300)) := by
  intro d
  induction d with
  | zero =>
    intro i hd hi
    rw [List.drop_eq_nil_of_le (by omega), decide_eq_true (by simp)]
    refine Ev.step (f := fun _ => some true) (fun n => ?_) (Ev.now _)
    simp only [abutmentlaw42_few.l0]
    rw [if_neg (by omega)]
  | succ d ih =>
    intro i hd hi
    have hil : i < l.length := by omega
    have hrd := rd63 l i hil
    rw [List.drop_eq_getElem_cons hil]
    by_cases h0 : l[i].f2.size ≤ 300
    · rw [decide_eq_decide.2 (show (∀ x ∈ l[i] :: l.drop (i + 1), x.f2.size ≤ 300) ↔ (∀ x ∈ l.drop (i + 1), x.f2.size ≤ 300) from ⟨fun h x hx => h x (List.mem_cons_of_mem _ hx), fun h x hx => by
          rcases List.mem_cons.1 hx with rfl | hx
          · exact h0
          · exact h x hx⟩)]
      refine Ev.step (f := fun n => abutmentlaw42_few.l0 n l (l.length : Int) ((i + 1 : Nat) : Int)) (fun n => ?_) (ih (i + 1) (by omega) (by omega))
      simp only [abutmentlaw42_few.l0]
      rw [if_pos (by omega), if_pos (by omega), if_pos (by omega), hrd, if_neg (by omega), w64q (by omega) (by omega)]; rfl
    · rw [decide_eq_false (fun h => h0 (h _ (List.mem_cons_self ..)))]
      refine Ev.step (f := fun _ => some false) (fun n => ?_) (Ev.now _)
      simp only [abutmentlaw42_few.l0]
      rw [if_pos (by omega), if_pos (by omega), if_pos (by omega), hrd, if_pos (by omega)]
theorem feww_any (A : Option Addr) (c : Nat) (l : List S63) (w : World) (hr : Kd.C k63 w A l.length l) (hc : l.length ≤ c) : Calls Try.prog 41 #[.slice A l.length c] w fun e w' => e = .returned (.bool (decide (fewW l))) ∧ Below w.heap.size w w' := by
  have hev : Ev (fun n => abutmentlaw42_few.f n l) (decide (fewW l)) := by
    unfold abutmentlaw42_few.f
    by_cases hl : l.length ≤ 60
    · refine Ev.congr (f := fun n => abutmentlaw42_few.l0 n l (l.length : Int) ((0 : Nat) : Int)) (fun n => by rw [if_neg (by omega)]; rfl) ?_
      have := feww_l0 l hl _ 0 rfl (by omega)
      rw [List.drop_zero] at this
      rwa [show decide (fewW l) = decide (∀ x ∈ l, x.f2.size ≤ 300) from decide_eq_decide.2 (by simp [fewW, hl])]
    · rw [decide_eq_false (fun h => hl h.1)]
      exact Ev.congr (fun n => by rw [if_pos (by omega)]) (Ev.now _)
  obtain ⟨k, hk⟩ := hev.rounds
  exact abutmentlaw42_few.calls k A c l _ w hr hc hk


set_option maxHeartbeats 8000000 in
set_option maxRecDepth 100000 in
theorem wplays_out (most : Int) (A : Option Addr) (c : Nat) (l : List S63) (w : World) (hr : Kd.C k63 w A l.length l) (hc : l.length ≤ c) (ho : most < 0 ∨ 2000 < most ∨ ¬ fewW l) :
    Calls Try.prog 7 #[.int .i64 most, .slice A l.length c] w fun e w' => e = .returned (.bool true) ∧ Below w.heap.size w w' := by
  have HR := Aside0.mk (feww_any A c l w hr hc)
  clear hr
  by_cases h0 : most < 0
  · clear ho HR
    go_enter Try.func7, Try.ntmps7
    go_wp2_with (first | (go_at_call 42; refine (wlives_any _).mono ?_; rintro e w1 ⟨rfl, hb1⟩; have HB1 := Aside0.mk hb1; clear hb1))
    go_ret
    exact ⟨rfl, HB1.out⟩
  · by_cases h1 : 2000 < most
    · clear ho HR
      have h1' : most > 2000 := h1
      by_cases h2 : most ≤ 65536
      · go_enter Try.func7, Try.ntmps7
        go_wp2_with (first | (go_at_call 42; refine (wlives_any _).mono ?_; rintro e w1 ⟨rfl, hb1⟩; have HB1 := Aside0.mk hb1; clear hb1))
        go_ret
        exact ⟨rfl, HB1.out⟩
      · go_enter Try.func7, Try.ntmps7
        go_wp2_with (first | (go_at_call 42; refine (wlives_any _).mono ?_; rintro e w1 ⟨rfl, hb1⟩; have HB1 := Aside0.mk hb1; clear hb1))
        go_ret
        exact ⟨rfl, HB1.out⟩
    · have hf : ¬ fewW l := by rcases ho with h | h | h; exact absurd h h0; exact absurd h h1; exact h
      have h2 : most ≤ 65536 := by omega
      have hfd := HR.out
      rw [decide_eq_false hf] at hfd
      have HF := Aside0.mk hfd
      clear hfd HR ho hf
      go_enter Try.func7, Try.ntmps7
      go_wp2_with (first | (go_at_call 41; refine HF.out.mono ?_; rintro e w1 ⟨rfl, hb1⟩; have HB1 := Aside0.mk hb1; clear hb1) | (go_at_call 42; refine (wlives_any _).mono ?_; rintro e w2 ⟨rfl, hb2⟩; have HB2 := Aside0.mk hb2; clear hb2))
      go_ret
      exact ⟨rfl, below_step HB1.out HB2.out⟩


/-- another S from here on: the operations that are left are all of ds -/
theorem switch_ {P : Program} {md : Region.Mode} {ops : Array Oper} {Q : Exit → Act → World → Prop} {S : World → Prop} {ds : List Nat} (S' : World → Prop) (ds' : List Nat) : ∀ {fuel : Nat} {listed : Array Bool} {a : Act} {w : World}, (allB listed ds = true) → wpAnyLast P md ops Q S' ds' fuel listed a w → wpAnyLast P md ops Q S ds fuel listed a w := by
  have main : ∀ (fuel : Nat) (listed : Array Bool) (a : Act) (w : World), (∀ i, listed.getD i true = false → i ∈ ds) → wpAnyLast P md ops Q S' ds' fuel listed a w → wpAnyLast P md ops Q S ds fuel listed a w := by
    intro fuel
    induction fuel with
    | zero => intro listed a w _ h; exact h
    | succ fuel ih =>
      intro listed a w hd h
      refine ⟨h.1, fun i hi => ?_⟩
      have hun := (mem_ready.1 hi).1
      refine wpOp_mono (fun a' w' h' => ⟨fun hnd => absurd (hd i hun) hnd, ih _ a' w' (fun j hj => ?_) h'.2⟩) (h.2 i hi)
      by_cases hij : i = j
      · subst hij; exact hd i hun
      · rw [getD_set_ne true hij] at hj; exact hd j hj
  intro fuel listed a w hb h
  exact main fuel listed a w (allB_spec hb) h
theorem wpAnyLast_of_quietS {P : Program} {ops : Array Oper} {md : Region.Mode} {S : World → Prop} {ds : List Nat} {C : World → Prop} (hS : ∀ w, C w → S w) {Qq : Act → Prop} {Q' : Exit → Act → World → Prop} (hQ : ∀ a w, C w → Qq a → Q' .normal a w) : ∀ (fuel : Nat) (listed : Array Bool) (a : Act) (w : World), C w →
    wpAnyQ P md ops C Qq fuel listed a → wpAnyLast P md ops Q' S ds fuel listed a w
  | 0, _, _, _, hw, h => ⟨h.1, hQ _ _ hw h.2⟩
  | fuel + 1, listed, _, _, hw, h => ⟨fun h0 => hQ _ _ hw (h.1 h0), fun i hi =>
      wpOp_of_qOp hw (fun a' w' hw' hk => ⟨fun _ _ => hS _ hw', wpAnyLast_of_quietS hS hQ fuel _ a' w' hw' hk⟩) (h.2 i hi)⟩
/-- What is left of the region, from operation k on, only reads, and S holds whatever is drawn. -/
theorem tail_quietS {P : Program} {md : Region.Mode} {S : World → Prop} {ds : List Nat} {Q : Exit → Act → World → Prop} {l0 : List Oper} {fuel : Nat} {listed : Array Bool} {a : Act} {w : World} (k : Nat) (hf : (fuel == (l0.drop k).length) = true) (hs : Region.noSelect l0.toArray = true)
    (hB : Region.lexFrom md l0.toArray (l0.drop k).length k listed = true) (hds : ∀ n, S (w.drewN n))
    (h : wpQuiet P l0.toArray (fun w' => ∃ n, w' = w.drewN n) (fun a' => ∀ w', (∃ n, w' = w.drewN n) → Q .normal a' w') (l0.drop k) a) : wpAnyLast P md l0.toArray Q S ds fuel listed a w := by
  obtain rfl := beq_iff_eq.1 hf
  refine wpAnyLast_of_quietS (C := fun w' => ∃ n, w' = w.drewN n) (fun _ ⟨n, hn⟩ => by rw [hn]; exact hds n) (Qq := fun a' => ∀ w', (∃ n, w' = w.drewN n) → Q .normal a' w') (fun _ w' hw' h => h w' hw') _ _ _ _ ⟨0, rfl⟩ ?_
  refine wpAnyQ_lex hs (l0.drop k) k listed a (fun j => ?_) hB h
  rw [List.getElem?_drop, List.getElem?_toArray]
theorem WL.lift {w0 w1 w : World} {L : Lk} {D : Dk} {x : WX} {v : LV} (h : WL w1 w L D x v) (hb : Below w0.heap.size w0 w1) : WL w0 w L D x v :=
  ⟨h.inl.lift hb, h.wi, Nat.le_trans hb.size h.lw, Nat.le_trans hb.size h.ls, h.lk⟩
set_option maxHeartbeats 16000000 in
set_option maxRecDepth 100000 in
theorem wplays_in (m : Nat) (A : Option Addr) (c : Nat) (l : List S63) (w : World) (hr : Kd.C k63 w A l.length l) (hc : l.length ≤ c) (hm : m ≤ 2000) (hf : fewW l) (hwf : ∀ x ∈ l, -9223372036854775808 ≤ x.f1 ∧ x.f1 ≤ 9223372036854775807) :
    Calls Try.prog 7 #[.int .i64 (m : Int), .slice A l.length c] w fun e w' => e = .returned (.bool true) ∧ Below w.heap.size w w' := by
  have hfd := feww_any A c l w hr hc
  rw [decide_eq_true hf] at hfd
  have HFD := Aside0.mk hfd
  have HR := Aside0.mk hr
  have HF := Aside0.mk hf.2
  have HWF := Aside0.mk hwf
  have hlen := hf.1
  clear hfd hr hf hwf
  have hm0 : ¬ (m : Int) > 2000 := by omega
  go_enter Try.func7, Try.ntmps7
  go_wp2_with (first | (go_at_call 41; refine HFD.out.mono ?_; rintro e w1 ⟨rfl, hb1⟩; have HB1 := Aside0.mk hb1; clear hb1) | (go_at_call 43; refine (wnew _).mono ?_; rintro e w2 ⟨wb, sb, rfl, hn⟩; have HN := Aside0.mk hn; clear hn) | (go_at_call 26; refine (lnew_ok _ m (by omega)).mono ?_; rintro e w3 ⟨L, rfl, hl⟩; have HL := Aside0.mk hl; clear hl))
  obtain ⟨db, hdb⟩ : ∃ b, b = w3.heap.size := ⟨_, rfl⟩
  obtain ⟨W0, hW0⟩ : ∃ W, W = w3.alloc (.cells #[.pointer (some ⟨wb, 0, none⟩), .pointer (some ⟨L.k, 0, none⟩), .string ⟨#[]⟩, .int .i64 0, .bool false, .string ⟨#[]⟩, .string ⟨#[]⟩, .string ⟨#[]⟩, .int .i64 (m : Int), .bool false, .bool false] 62) := ⟨_, rfl⟩
  have hsz : W0.heap.size = w3.heap.size + 1 := by rw [hW0, World.size_alloc]
  have hdesk : Desk w W0 L ⟨wb, sb, W0.heap.size⟩ db ⟨[], 0, false, []⟩ ⟨m, [], [], false, false⟩ := by
    refine ⟨(HN.out.wl HL.out W0.heap.size W0 (by rw [hW0]; exact (Only.refl _ _).alloc _) (by omega) (Nat.le_refl _)).lift HB1.out, ?_, ?_⟩
    · rw [hW0, hdb]
      exact heap_alloc_new w3 _
    · rw [hdb]
      exact Nat.le_trans HB1.out.size (Nat.le_trans HN.out.bel.size HL.out.bel.size)
  obtain ⟨D, hD⟩ : ∃ D, D = (⟨wb, sb, W0.heap.size⟩ : Dk) := ⟨_, rfl⟩
  rw [← hD] at hdesk
  have HD := Aside0.mk hdesk
  rw [← hW0, ← hdb]
  clear hD hdesk hsz hW0 hdb
  go_loopw [41] (fun v41 wr => ∃ (i : Nat) (x : WX) (v : LV), v41 = .int .i64 (i : Int) ∧ Aside0 (i ≤ l.length ∧ Desk w wr L D db x v ∧ Bd x v (300 * i))) (fun v41 _ => l.length - (intOf v41).toNat)
  case atStart => exact ⟨0, _, _, rfl, ⟨by omega, HD.out, by simp, by simp, by simp⟩⟩
  case round =>
    obtain ⟨i, x, v, rfl, HA⟩ := hrel
    obtain ⟨hi, hdk, hbd⟩ := HA.out
    clear HA
    have HK := Aside0.mk hdk
    have HBD := Aside0.mk hbd
    clear hdk hbd
    by_cases hlt : i < l.length
    · obtain ⟨ad, e, hx0, hx1, hx2⟩ := at_T63 (Kd.C_below HR.out HK.out.wl.inl.bel) (i : Int) (by omega) (by omega)
      cases e
      rw [rd63 l i hlt, Int.toNat_natCast] at hx0 hx1 hx2
      obtain ⟨y, hye⟩ : ∃ y, y = l[i] := ⟨_, rfl⟩
      have hys : y.f2.size ≤ 300 := HF.out y (by rw [hye]; exact List.getElem_mem _)
      have hyw := HWF.out y (by rw [hye]; exact List.getElem_mem _)
      rw [← hye] at hx0 hx1 hx2
      clear hye
      obtain ⟨d, n, t⟩ := y
      simp only at hys hx0 hx1 hx2 hyw
      obtain ⟨B, hBe⟩ : ∃ B, B = wr.heap.size := ⟨_, rfl⟩
      obtain ⟨W, hWe⟩ : ∃ W, W = wr.alloc (.cells #[.int .i64 d, .int .i64 n, .string t] 63) := ⟨_, rfl⟩
      have hWK : Desk w W L D db x v := by rw [hWe]; exact HK.out.alloc _
      have hX : Bz W B d n t := by rw [hWe, hBe]; exact heap_alloc_new wr _
      have hB0 : W.cell? ⟨B, 0, none⟩ = some (.int .i64 d) := (blk_cell hX 0).trans rfl
      have hB1 := hX.c1
      have hB2 := hX.c2
      have HACT := Aside0.mk (wact (w := W.drew) (hWK.drewN 1) HBD.out (by omega) d n t hys hyw.1 hyw.2)
      clear hys hyw hWK hX
      go_wp2_with fail
      rw [← hWe, ← hBe]
      clear hWe hBe
      have hS : W.drew.cell? ⟨B, 0, none⟩ = some (.int .i64 d) ∧ W.drew.cell? ⟨B, 1, none⟩ = some (.int .i64 n) ∧ W.drew.cell? ⟨B, 2, none⟩ = some (.string t) := ⟨hB0, hB1, hB2⟩
      -- region one
      refine start_ (n := 79) (S := fun w' => w'.cell? ⟨B, 0, none⟩ = some (.int .i64 d) ∧ w'.cell? ⟨B, 1, none⟩ = some (.int .i64 n) ∧ w'.cell? ⟨B, 2, none⟩ = some (.string t)) (ds := [2, 3, 4, 5, 6, 7, 8, 9, 10, 11, 12, 13, 14, 15, 16, 17, 18, 19, 20, 21, 22, 23, 24, 25, 26, 27, 28, 29, 30, 31, 32, 33, 34, 35, 36, 37, 38, 39, 40, 41, 42, 43, 44, 45, 46, 47, 48, 49, 50, 51, 52, 53, 54, 55, 56, 57, 58, 59, 60, 61, 62, 63, 64, 65, 66, 67, 68, 69, 70, 71, 72, 73, 74, 75, 76, 77, 78]) #[false, false, false, false, false, false, false, false, false, false, false, false, false, false, false, false, false, false, false, false, false, false, false, false, false, false, false, false, false, false, false, false, false, false, false, false, false, false, false, false, false, false, false, false, false, false, false, false, false, false, false, false, false, false, false, false, false, false, false, false, false, false, false, false, false, false, false, false, false, false, false, false, false, false, false, false, false, false, false] (by as_aux_lemma => kernel_rfl) rfl rfl hS (fun hHeld => ?_)
      refine pure_ (i := 0) (N := (some 45)) (v := ?_) (a' := ?_) #[true, false, false, false, false, false, false, false, false, false, false, false, false, false, false, false, false, false, false, false, false, false, false, false, false, false, false, false, false, false, false, false, false, false, false, false, false, false, false, false, false, false, false, false, false, false, false, false, false, false, false, false, false, false, false, false, false, false, false, false, false, false, false, false, false, false, false, false, false, false, false, false, false, false, false, false, false, false, false] rfl rfl (by as_aux_lemma => kernel_rfl) (fun _ _ _ h => h) (Or.inl ⟨by rfl, ?_⟩) ?_ ?_
      rotate_left
      · intro w'
        go_simp
        with_reducible rfl
      rotate_left
      · simp only [Act.put, List.setIfInBounds_toArray, List.set_cons_zero, List.set_cons_succ, i64_w, i32_w]
        rfl
      refine take_ (i := 1) (N := (some 46)) (v := ?_) (a' := ?_) #[true, true, false, false, false, false, false, false, false, false, false, false, false, false, false, false, false, false, false, false, false, false, false, false, false, false, false, false, false, false, false, false, false, false, false, false, false, false, false, false, false, false, false, false, false, false, false, false, false, false, false, false, false, false, false, false, false, false, false, false, false, false, false, false, false, false, false, false, false, false, false, false, false, false, false, false, false, false, false] rfl rfl (by as_aux_lemma => kernel_rfl) (fun _ _ _ h => h) (Or.inl ⟨by rfl, ?_⟩) hHeld ?_ ?_
      rotate_left
      · rintro w' ⟨s0, s1, s2⟩
        go_simp
        with_reducible rfl
      rotate_left
      · simp only [Act.put, List.setIfInBounds_toArray, List.set_cons_zero, List.set_cons_succ, i64_w, i32_w]
        rfl
      refine last_ (i := 2) (N := (some 47)) #[true, true, true, false, false, false, false, false, false, false, false, false, false, false, false, false, false, false, false, false, false, false, false, false, false, false, false, false, false, false, false, false, false, false, false, false, false, false, false, false, false, false, false, false, false, false, false, false, false, false, false, false, false, false, false, false, false, false, false, false, false, false, false, false, false, false, false, false, false, false, false, false, false, false, false, false, false, false, false] rfl rfl (by as_aux_lemma => kernel_rfl) (by decide) (fun K hK => ?_)
      refine goes_ Try.func44 (by as_aux_lemma => kernel_rfl) rfl #[.pointer (some ⟨db, 0, none⟩), .agg #[.int .i64 d, .int .i64 n, .string t]] (by rfl) rfl rfl (by (try simp only [List.map_toArray, List.map_cons, List.map_nil]); first | done | rfl) ?_
      refine HACT.out.mono ?_
      rintro e w4 ⟨rfl, x', v', h4, hb4⟩
      have H4 := Aside0.mk h4
      have HB4 := Aside0.mk hb4
      clear h4 hb4
      refine ⟨_, rfl, ?_⟩
      refine hK.out _ _ ?_
      clear hK K
      refine norm_ (a' := ?_) ?_ ?_
      rotate_left
      · show Act.put _ (some 47) _ = _
        simp only [Act.put, List.setIfInBounds_toArray, List.set_cons_zero, List.set_cons_succ, i64_w, i32_w]
        rfl
      -- end one
      as_aux_lemma =>
        clear hS hB0 hB1 hB2 hx0 hx1 hx2
        obtain ⟨lf, hlf⟩ : ∃ f, f = x'.A.length - x'.r := ⟨_, rfl⟩
        obtain ⟨zX, hzX⟩ : ∃ z, z = st (x'.A.drop x'.r) := ⟨_, rfl⟩
        obtain ⟨zT, hzT⟩ : ∃ z, z = st x'.T := ⟨_, rfl⟩
        have hszX : zX.size = lf := by rw [hzX, st_size, List.length_drop, hlf]
        have HXX := Aside0.mk (And.intro hzX hzT)
        have hL := H4.out.wl.wi.left (HB4.out.ok (by omega))
        rw [← hlf] at hL
        have HLF := Aside0.mk hL
        have hSD : ∀ nd, Calls Try.prog 46 #[.pointer (some ⟨D.wb, 0, none⟩)] (w4.drewN nd) fun y w' => y = .returned (.string zT) ∧ Desk w w' L D db x' v' := fun nd => by
          have hh := (H4.out.drewN nd).wl.wi.sent
          rw [← hzT] at hh
          exact hh.mono fun _ _ ⟨e, hi, ho⟩ => ⟨e, (H4.out.drewN nd).step ((H4.out.drewN nd).wl.byWire hi ho) (WS.ofW ho)⟩
        have HSD := Aside0.mk hSD
        have d0 := H4.out.ref.p0
        have d2 := H4.out.ref.p2
        have d5 := H4.out.ref.p5
        unfold preOf at d0 d2 d5
        simp only at d0 d2 d5
        rw [← hzX] at d2
        rw [← hzT] at d5
        clear hL hSD hlf hzX hzT
        refine switch_ (fun w' => w'.cell? ⟨db, 0, none⟩ = some (.pointer (some ⟨D.wb, 0, none⟩)) ∧ w'.cell? ⟨db, 2, none⟩ = some (.string zX) ∧ w'.cell? ⟨db, 5, none⟩ = some (.string zT)) ([]) (by as_aux_lemma => kernel_rfl) ?_
        have hHeld : w4.cell? ⟨db, 0, none⟩ = some (.pointer (some ⟨D.wb, 0, none⟩)) ∧ w4.cell? ⟨db, 2, none⟩ = some (.string zX) ∧ w4.cell? ⟨db, 5, none⟩ = some (.string zT) := ⟨d0, d2, d5⟩
        -- region two
        refine pure_ (i := 3) (N := (some 48)) (v := ?_) (a' := ?_) #[true, true, true, true, false, false, false, false, false, false, false, false, false, false, false, false, false, false, false, false, false, false, false, false, false, false, false, false, false, false, false, false, false, false, false, false, false, false, false, false, false, false, false, false, false, false, false, false, false, false, false, false, false, false, false, false, false, false, false, false, false, false, false, false, false, false, false, false, false, false, false, false, false, false, false, false, false, false, false] rfl rfl (by as_aux_lemma => kernel_rfl) (fun _ _ _ h => h) (Or.inl ⟨by rfl, ?_⟩) ?_ ?_
        rotate_left
        · intro w'
          go_simp
          with_reducible rfl
        rotate_left
        · simp only [Act.put, List.setIfInBounds_toArray, List.set_cons_zero, List.set_cons_succ, i64_w, i32_w]
          rfl
        refine pure_ (i := 4) (N := (some 49)) (v := ?_) (a' := ?_) #[true, true, true, true, true, false, false, false, false, false, false, false, false, false, false, false, false, false, false, false, false, false, false, false, false, false, false, false, false, false, false, false, false, false, false, false, false, false, false, false, false, false, false, false, false, false, false, false, false, false, false, false, false, false, false, false, false, false, false, false, false, false, false, false, false, false, false, false, false, false, false, false, false, false, false, false, false, false, false] rfl rfl (by as_aux_lemma => kernel_rfl) (fun _ _ _ h => h) (Or.inl ⟨by rfl, ?_⟩) ?_ ?_
        rotate_left
        · intro w'
          go_simp
          with_reducible rfl
        rotate_left
        · simp only [Act.put, List.setIfInBounds_toArray, List.set_cons_zero, List.set_cons_succ, i64_w, i32_w]
          rfl
        refine pure_ (i := 5) (N := (some 50)) (v := ?_) (a' := ?_) #[true, true, true, true, true, true, false, false, false, false, false, false, false, false, false, false, false, false, false, false, false, false, false, false, false, false, false, false, false, false, false, false, false, false, false, false, false, false, false, false, false, false, false, false, false, false, false, false, false, false, false, false, false, false, false, false, false, false, false, false, false, false, false, false, false, false, false, false, false, false, false, false, false, false, false, false, false, false, false] rfl rfl (by as_aux_lemma => kernel_rfl) (fun _ _ _ h => h) (Or.inl ⟨by rfl, ?_⟩) ?_ ?_
        rotate_left
        · intro w'
          go_simp
          with_reducible rfl
        rotate_left
        · simp only [Act.put, List.setIfInBounds_toArray, List.set_cons_zero, List.set_cons_succ, i64_w, i32_w]
          rfl
        refine pure_ (i := 6) (N := (some 51)) (v := ?_) (a' := ?_) #[true, true, true, true, true, true, true, false, false, false, false, false, false, false, false, false, false, false, false, false, false, false, false, false, false, false, false, false, false, false, false, false, false, false, false, false, false, false, false, false, false, false, false, false, false, false, false, false, false, false, false, false, false, false, false, false, false, false, false, false, false, false, false, false, false, false, false, false, false, false, false, false, false, false, false, false, false, false, false] rfl rfl (by as_aux_lemma => kernel_rfl) (fun _ _ _ h => h) (Or.inl ⟨by rfl, ?_⟩) ?_ ?_
        rotate_left
        · intro w'
          go_simp
          with_reducible rfl
        rotate_left
        · simp only [Act.put, List.setIfInBounds_toArray, List.set_cons_zero, List.set_cons_succ, i64_w, i32_w]
          rfl
        refine pure_ (i := 7) (N := (some 52)) (v := ?_) (a' := ?_) #[true, true, true, true, true, true, true, true, false, false, false, false, false, false, false, false, false, false, false, false, false, false, false, false, false, false, false, false, false, false, false, false, false, false, false, false, false, false, false, false, false, false, false, false, false, false, false, false, false, false, false, false, false, false, false, false, false, false, false, false, false, false, false, false, false, false, false, false, false, false, false, false, false, false, false, false, false, false, false] rfl rfl (by as_aux_lemma => kernel_rfl) (fun _ _ _ h => h) (Or.inl ⟨by rfl, ?_⟩) ?_ ?_
        rotate_left
        · intro w'
          go_simp
          with_reducible rfl
        rotate_left
        · simp only [Act.put, List.setIfInBounds_toArray, List.set_cons_zero, List.set_cons_succ, i64_w, i32_w]
          rfl
        refine take_ (i := 8) (N := (some 53)) (v := ?_) (a' := ?_) #[true, true, true, true, true, true, true, true, true, false, false, false, false, false, false, false, false, false, false, false, false, false, false, false, false, false, false, false, false, false, false, false, false, false, false, false, false, false, false, false, false, false, false, false, false, false, false, false, false, false, false, false, false, false, false, false, false, false, false, false, false, false, false, false, false, false, false, false, false, false, false, false, false, false, false, false, false, false, false] rfl rfl (by as_aux_lemma => kernel_rfl) (fun _ _ _ h => h) (Or.inl ⟨by rfl, ?_⟩) hHeld ?_ ?_
        rotate_left
        · rintro w' ⟨s0, s1, s2⟩
          go_simp
          with_reducible rfl
        rotate_left
        · simp only [Act.put, List.setIfInBounds_toArray, List.set_cons_zero, List.set_cons_succ, i64_w, i32_w]
          rfl
        refine pure_ (i := 10) (N := (some 55)) (v := ?_) (a' := ?_) #[true, true, true, true, true, true, true, true, true, false, true, false, false, false, false, false, false, false, false, false, false, false, false, false, false, false, false, false, false, false, false, false, false, false, false, false, false, false, false, false, false, false, false, false, false, false, false, false, false, false, false, false, false, false, false, false, false, false, false, false, false, false, false, false, false, false, false, false, false, false, false, false, false, false, false, false, false, false, false] rfl rfl (by as_aux_lemma => kernel_rfl) (fun _ _ _ h => h) (Or.inl ⟨by rfl, ?_⟩) ?_ ?_
        rotate_left
        · intro w'
          go_simp
          with_reducible rfl
        rotate_left
        · simp only [Act.put, List.setIfInBounds_toArray, List.set_cons_zero, List.set_cons_succ, i64_w, i32_w]
          rfl
        refine pure_ (i := 11) (N := (some 56)) (v := ?_) (a' := ?_) #[true, true, true, true, true, true, true, true, true, false, true, true, false, false, false, false, false, false, false, false, false, false, false, false, false, false, false, false, false, false, false, false, false, false, false, false, false, false, false, false, false, false, false, false, false, false, false, false, false, false, false, false, false, false, false, false, false, false, false, false, false, false, false, false, false, false, false, false, false, false, false, false, false, false, false, false, false, false, false] rfl rfl (by as_aux_lemma => kernel_rfl) (fun _ _ _ h => h) (Or.inl ⟨by rfl, ?_⟩) ?_ ?_
        rotate_left
        · intro w'
          go_simp
          with_reducible rfl
        rotate_left
        · simp only [Act.put, List.setIfInBounds_toArray, List.set_cons_zero, List.set_cons_succ, i64_w, i32_w]
          rfl
        refine pure_ (i := 12) (N := (some 57)) (v := ?_) (a' := ?_) #[true, true, true, true, true, true, true, true, true, false, true, true, true, false, false, false, false, false, false, false, false, false, false, false, false, false, false, false, false, false, false, false, false, false, false, false, false, false, false, false, false, false, false, false, false, false, false, false, false, false, false, false, false, false, false, false, false, false, false, false, false, false, false, false, false, false, false, false, false, false, false, false, false, false, false, false, false, false, false] rfl rfl (by as_aux_lemma => kernel_rfl) (fun _ _ _ h => h) (Or.inl ⟨by rfl, ?_⟩) ?_ ?_
        rotate_left
        · intro w'
          go_simp
          with_reducible rfl
        rotate_left
        · simp only [Act.put, List.setIfInBounds_toArray, List.set_cons_zero, List.set_cons_succ, i64_w, i32_w]
          rfl
        refine pure_ (i := 13) (N := (some 58)) (v := ?_) (a' := ?_) #[true, true, true, true, true, true, true, true, true, false, true, true, true, true, false, false, false, false, false, false, false, false, false, false, false, false, false, false, false, false, false, false, false, false, false, false, false, false, false, false, false, false, false, false, false, false, false, false, false, false, false, false, false, false, false, false, false, false, false, false, false, false, false, false, false, false, false, false, false, false, false, false, false, false, false, false, false, false, false] rfl rfl (by as_aux_lemma => kernel_rfl) (fun _ _ _ h => h) (Or.inl ⟨by rfl, ?_⟩) ?_ ?_
        rotate_left
        · intro w'
          go_simp
          with_reducible rfl
        rotate_left
        · simp only [Act.put, List.setIfInBounds_toArray, List.set_cons_zero, List.set_cons_succ, i64_w, i32_w]
          rfl
        refine take_ (i := 14) (N := (some 59)) (v := ?_) (a' := ?_) #[true, true, true, true, true, true, true, true, true, false, true, true, true, true, true, false, false, false, false, false, false, false, false, false, false, false, false, false, false, false, false, false, false, false, false, false, false, false, false, false, false, false, false, false, false, false, false, false, false, false, false, false, false, false, false, false, false, false, false, false, false, false, false, false, false, false, false, false, false, false, false, false, false, false, false, false, false, false, false] rfl rfl (by as_aux_lemma => kernel_rfl) (fun _ _ _ h => h) (Or.inl ⟨by rfl, ?_⟩) hHeld ?_ ?_
        rotate_left
        · rintro w' ⟨s0, s1, s2⟩
          go_simp
          with_reducible rfl
        rotate_left
        · simp only [Act.put, List.setIfInBounds_toArray, List.set_cons_zero, List.set_cons_succ, i64_w, i32_w]
          rfl
        refine pure_ (i := 15) (N := (some 60)) (v := ?_) (a' := ?_) #[true, true, true, true, true, true, true, true, true, false, true, true, true, true, true, true, false, false, false, false, false, false, false, false, false, false, false, false, false, false, false, false, false, false, false, false, false, false, false, false, false, false, false, false, false, false, false, false, false, false, false, false, false, false, false, false, false, false, false, false, false, false, false, false, false, false, false, false, false, false, false, false, false, false, false, false, false, false, false] rfl rfl (by as_aux_lemma => kernel_rfl) (fun _ _ _ h => h) (Or.inl ⟨by rfl, ?_⟩) ?_ ?_
        rotate_left
        · intro w'
          go_simp
          with_reducible rfl
        rotate_left
        · simp only [Act.put, List.setIfInBounds_toArray, List.set_cons_zero, List.set_cons_succ, i64_w, i32_w]
          rfl
        refine one_ (i := 9) (N := (some 54)) #[true, true, true, true, true, true, true, true, true, true, true, true, true, true, true, true, false, false, false, false, false, false, false, false, false, false, false, false, false, false, false, false, false, false, false, false, false, false, false, false, false, false, false, false, false, false, false, false, false, false, false, false, false, false, false, false, false, false, false, false, false, false, false, false, false, false, false, false, false, false, false, false, false, false, false, false, false, false, false] rfl rfl (by as_aux_lemma => kernel_rfl) (by decide) (fun K hK => ?_)
        refine goes_ Try.func45 (by as_aux_lemma => kernel_rfl) rfl #[.pointer (some ⟨D.wb, 0, none⟩)] (by rfl) rfl rfl (by (try simp only [List.map_toArray, List.map_cons, List.map_nil]); first | done | rfl) ?_
        refine (HLF.out 0).mono ?_
        rintro e w5 ⟨rfl, nd, rfl⟩
        refine ⟨_, rfl, ?_⟩
        refine hK.out _ _ ⟨d0, d2, d5⟩ (fun hHeld => ?_)
        clear hK K
        refine norm_ (a' := ?_) ?_ ?_
        rotate_left
        · show Act.put _ (some 54) _ = _
          simp only [Act.put, List.setIfInBounds_toArray, List.set_cons_zero, List.set_cons_succ, i64_w, i32_w]
          rfl
        refine pure_ (i := 16) (N := (some 61)) (v := ?_) (a' := ?_) #[true, true, true, true, true, true, true, true, true, true, true, true, true, true, true, true, true, false, false, false, false, false, false, false, false, false, false, false, false, false, false, false, false, false, false, false, false, false, false, false, false, false, false, false, false, false, false, false, false, false, false, false, false, false, false, false, false, false, false, false, false, false, false, false, false, false, false, false, false, false, false, false, false, false, false, false, false, false, false] rfl rfl (by as_aux_lemma => kernel_rfl) (fun _ _ _ h => h) (Or.inl ⟨by rfl, ?_⟩) ?_ ?_
        rotate_left
        · intro w'
          go_simp
          with_reducible rfl
        rotate_left
        · simp only [Act.put, List.setIfInBounds_toArray, List.set_cons_zero, List.set_cons_succ, i64_w, i32_w]
          rfl
        refine pure_ (i := 17) (N := (some 62)) (v := ?_) (a' := ?_) #[true, true, true, true, true, true, true, true, true, true, true, true, true, true, true, true, true, true, false, false, false, false, false, false, false, false, false, false, false, false, false, false, false, false, false, false, false, false, false, false, false, false, false, false, false, false, false, false, false, false, false, false, false, false, false, false, false, false, false, false, false, false, false, false, false, false, false, false, false, false, false, false, false, false, false, false, false, false, false] rfl rfl (by as_aux_lemma => kernel_rfl) (fun _ _ _ h => h) (Or.inl ⟨by rfl, ?_⟩) ?_ ?_
        rotate_left
        · intro w'
          go_simp
          with_reducible rfl
        rotate_left
        · simp only [Act.put, List.setIfInBounds_toArray, List.set_cons_zero, List.set_cons_succ, i64_w, i32_w]
          rfl
        refine pure_ (i := 18) (N := (some 63)) (v := ?_) (a' := ?_) #[true, true, true, true, true, true, true, true, true, true, true, true, true, true, true, true, true, true, true, false, false, false, false, false, false, false, false, false, false, false, false, false, false, false, false, false, false, false, false, false, false, false, false, false, false, false, false, false, false, false, false, false, false, false, false, false, false, false, false, false, false, false, false, false, false, false, false, false, false, false, false, false, false, false, false, false, false, false, false] rfl rfl (by as_aux_lemma => kernel_rfl) (fun _ _ _ h => h) (Or.inl ⟨by rfl, ?_⟩) ?_ ?_
        rotate_left
        · intro w'
          go_simp
          with_reducible rfl
        rotate_left
        · simp only [Act.put, List.setIfInBounds_toArray, List.set_cons_zero, List.set_cons_succ, i64_w, i32_w]
          rfl
        refine pure_ (i := 19) (N := (some 64)) (v := ?_) (a' := ?_) #[true, true, true, true, true, true, true, true, true, true, true, true, true, true, true, true, true, true, true, true, false, false, false, false, false, false, false, false, false, false, false, false, false, false, false, false, false, false, false, false, false, false, false, false, false, false, false, false, false, false, false, false, false, false, false, false, false, false, false, false, false, false, false, false, false, false, false, false, false, false, false, false, false, false, false, false, false, false, false] rfl rfl (by as_aux_lemma => kernel_rfl) (fun _ _ _ h => h) (Or.inl ⟨by rfl, ?_⟩) ?_ ?_
        rotate_left
        · intro w'
          go_simp
          with_reducible rfl
        rotate_left
        · simp only [Act.put, List.setIfInBounds_toArray, List.set_cons_zero, List.set_cons_succ, i64_w, i32_w]
          rfl
        refine pure_ (i := 20) (N := (some 65)) (v := ?_) (a' := ?_) #[true, true, true, true, true, true, true, true, true, true, true, true, true, true, true, true, true, true, true, true, true, false, false, false, false, false, false, false, false, false, false, false, false, false, false, false, false, false, false, false, false, false, false, false, false, false, false, false, false, false, false, false, false, false, false, false, false, false, false, false, false, false, false, false, false, false, false, false, false, false, false, false, false, false, false, false, false, false, false] rfl rfl (by as_aux_lemma => kernel_rfl) (fun _ _ _ h => h) (Or.inl ⟨by rfl, ?_⟩) ?_ ?_
        rotate_left
        · intro w'
          go_simp
          with_reducible rfl
        rotate_left
        · simp only [Act.put, List.setIfInBounds_toArray, List.set_cons_zero, List.set_cons_succ, i64_w, i32_w]
          rfl
        refine pure_ (i := 21) (N := (some 66)) (v := ?_) (a' := ?_) #[true, true, true, true, true, true, true, true, true, true, true, true, true, true, true, true, true, true, true, true, true, true, false, false, false, false, false, false, false, false, false, false, false, false, false, false, false, false, false, false, false, false, false, false, false, false, false, false, false, false, false, false, false, false, false, false, false, false, false, false, false, false, false, false, false, false, false, false, false, false, false, false, false, false, false, false, false, false, false] rfl rfl (by as_aux_lemma => kernel_rfl) (fun _ _ _ h => h) (Or.inl ⟨by rfl, ?_⟩) ?_ ?_
        rotate_left
        · intro w'
          go_simp
          with_reducible rfl
        rotate_left
        · simp only [Act.put, List.setIfInBounds_toArray, List.set_cons_zero, List.set_cons_succ, i64_w, i32_w]
          rfl
        refine take_ (i := 22) (N := (some 67)) (v := ?_) (a' := ?_) #[true, true, true, true, true, true, true, true, true, true, true, true, true, true, true, true, true, true, true, true, true, true, true, false, false, false, false, false, false, false, false, false, false, false, false, false, false, false, false, false, false, false, false, false, false, false, false, false, false, false, false, false, false, false, false, false, false, false, false, false, false, false, false, false, false, false, false, false, false, false, false, false, false, false, false, false, false, false, false] rfl rfl (by as_aux_lemma => kernel_rfl) (fun _ _ _ h => h) (Or.inl ⟨by rfl, ?_⟩) hHeld ?_ ?_
        rotate_left
        · rintro w' ⟨s0, s1, s2⟩
          go_simp
          with_reducible rfl
        rotate_left
        · simp only [Act.put, List.setIfInBounds_toArray, List.set_cons_zero, List.set_cons_succ, i64_w, i32_w]
          rfl
        refine pure_ (i := 24) (N := (some 69)) (v := ?_) (a' := ?_) #[true, true, true, true, true, true, true, true, true, true, true, true, true, true, true, true, true, true, true, true, true, true, true, false, true, false, false, false, false, false, false, false, false, false, false, false, false, false, false, false, false, false, false, false, false, false, false, false, false, false, false, false, false, false, false, false, false, false, false, false, false, false, false, false, false, false, false, false, false, false, false, false, false, false, false, false, false, false, false] rfl rfl (by as_aux_lemma => kernel_rfl) (fun _ _ _ h => h) (Or.inl ⟨by rfl, ?_⟩) ?_ ?_
        rotate_left
        · intro w'
          go_simp
          with_reducible rfl
        rotate_left
        · simp only [Act.put, List.setIfInBounds_toArray, List.set_cons_zero, List.set_cons_succ, i64_w, i32_w]
          rfl
        refine pure_ (i := 25) (N := (some 70)) (v := ?_) (a' := ?_) #[true, true, true, true, true, true, true, true, true, true, true, true, true, true, true, true, true, true, true, true, true, true, true, false, true, true, false, false, false, false, false, false, false, false, false, false, false, false, false, false, false, false, false, false, false, false, false, false, false, false, false, false, false, false, false, false, false, false, false, false, false, false, false, false, false, false, false, false, false, false, false, false, false, false, false, false, false, false, false] rfl rfl (by as_aux_lemma => kernel_rfl) (fun _ _ _ h => h) (Or.inl ⟨by rfl, ?_⟩) ?_ ?_
        rotate_left
        · intro w'
          go_simp
          with_reducible rfl
        rotate_left
        · simp only [Act.put, List.setIfInBounds_toArray, List.set_cons_zero, List.set_cons_succ, i64_w, i32_w]
          rfl
        refine pure_ (i := 26) (N := (some 71)) (v := ?_) (a' := ?_) #[true, true, true, true, true, true, true, true, true, true, true, true, true, true, true, true, true, true, true, true, true, true, true, false, true, true, true, false, false, false, false, false, false, false, false, false, false, false, false, false, false, false, false, false, false, false, false, false, false, false, false, false, false, false, false, false, false, false, false, false, false, false, false, false, false, false, false, false, false, false, false, false, false, false, false, false, false, false, false] rfl rfl (by as_aux_lemma => kernel_rfl) (fun _ _ _ h => h) (Or.inl ⟨by rfl, ?_⟩) ?_ ?_
        rotate_left
        · intro w'
          go_simp
          with_reducible rfl
        rotate_left
        · simp only [Act.put, List.setIfInBounds_toArray, List.set_cons_zero, List.set_cons_succ, i64_w, i32_w]
          rfl
        refine pure_ (i := 27) (N := (some 72)) (v := ?_) (a' := ?_) #[true, true, true, true, true, true, true, true, true, true, true, true, true, true, true, true, true, true, true, true, true, true, true, false, true, true, true, true, false, false, false, false, false, false, false, false, false, false, false, false, false, false, false, false, false, false, false, false, false, false, false, false, false, false, false, false, false, false, false, false, false, false, false, false, false, false, false, false, false, false, false, false, false, false, false, false, false, false, false] rfl rfl (by as_aux_lemma => kernel_rfl) (fun _ _ _ h => h) (Or.inl ⟨by rfl, ?_⟩) ?_ ?_
        rotate_left
        · intro w'
          go_simp
          with_reducible rfl
        rotate_left
        · simp only [Act.put, List.setIfInBounds_toArray, List.set_cons_zero, List.set_cons_succ, i64_w, i32_w]
          rfl
        refine take_ (i := 28) (N := (some 73)) (v := ?_) (a' := ?_) #[true, true, true, true, true, true, true, true, true, true, true, true, true, true, true, true, true, true, true, true, true, true, true, false, true, true, true, true, true, false, false, false, false, false, false, false, false, false, false, false, false, false, false, false, false, false, false, false, false, false, false, false, false, false, false, false, false, false, false, false, false, false, false, false, false, false, false, false, false, false, false, false, false, false, false, false, false, false, false] rfl rfl (by as_aux_lemma => kernel_rfl) (fun _ _ _ h => h) (Or.inl ⟨by rfl, ?_⟩) hHeld ?_ ?_
        rotate_left
        · rintro w' ⟨s0, s1, s2⟩
          go_simp
          with_reducible rfl
        rotate_left
        · simp only [Act.put, List.setIfInBounds_toArray, List.set_cons_zero, List.set_cons_succ, i64_w, i32_w]
          rfl
        refine one_ (i := 23) (N := (some 68)) #[true, true, true, true, true, true, true, true, true, true, true, true, true, true, true, true, true, true, true, true, true, true, true, true, true, true, true, true, true, false, false, false, false, false, false, false, false, false, false, false, false, false, false, false, false, false, false, false, false, false, false, false, false, false, false, false, false, false, false, false, false, false, false, false, false, false, false, false, false, false, false, false, false, false, false, false, false, false, false] rfl rfl (by as_aux_lemma => kernel_rfl) (by decide) (fun K hK => ?_)
        refine goes_ Try.func46 (by as_aux_lemma => kernel_rfl) rfl #[.pointer (some ⟨D.wb, 0, none⟩)] (by rfl) rfl rfl (by (try simp only [List.map_toArray, List.map_cons, List.map_nil]); first | done | rfl) ?_
        refine ((HSD.out nd).mono ?_)
        rintro e w6 ⟨rfl, h6⟩
        have H6 := Aside0.mk h6
        have e0 := h6.ref.p0
        have e2 := h6.ref.p2
        have e5 := h6.ref.p5
        unfold preOf at e0 e2 e5
        simp only at e0 e2 e5
        rw [← HXX.out.1] at e2
        rw [← HXX.out.2] at e5
        clear h6
        refine ⟨_, rfl, ?_⟩
        refine hK.out _ _ ⟨e0, e2, e5⟩ (fun hHeld => ?_)
        clear hK K
        refine norm_ (a' := ?_) ?_ ?_
        rotate_left
        · show Act.put _ (some 68) _ = _
          simp only [Act.put, List.setIfInBounds_toArray, List.set_cons_zero, List.set_cons_succ, i64_w, i32_w]
          rfl
        -- end two
        as_aux_lemma =>
          clear d0 d2 d5 e0 e2 e5
          obtain ⟨m', I', O', e', s'⟩ := v'
          have h6 := H6.out
          have hO' : O'.length ≤ 1000000 := by have h1 : x'.T.length + O'.length ≤ 300 * i + 300 := HB4.out.lO; omega
          have HT := Aside0.mk (h6.wl.inl.tells hO')
          have p1 := h6.ref.p1
          have c0 := h6.ref.c0
          have c1 := h6.ref.c1
          have c3 := h6.ref.c3
          unfold preOf at p1
          simp only at p1 c0 c1 c3
          have hsO := st_size O'
          have hiI : (st I').toList.isEmpty = I'.isEmpty := by
            cases I' with
            | nil => exact st_empty _ rfl
            | cons => exact st_full _ (by simp)
          clear h6 hO'
          refine tail_quietS 29 (by as_aux_lemma => kernel_rfl) (by as_aux_lemma => kernel_rfl) (by as_aux_lemma => kernel_rfl) (fun _ => hHeld) ?_
          clear hHeld
          simp only [List.append_eq, List.cons_append, List.nil_append, List.drop_succ_cons, List.drop_zero]
          cases e'
          all_goals as_aux_lemma =>
            repeat (first | go_big_quiet_step ((first | (go_at_call 29; exact HT.out.left _) | (go_at_call 30; exact HT.out.dry _) | (go_at_call 31; exact HT.out.waits _))) | quiet_step ((first | (go_at_call 29; exact HT.out.left _) | (go_at_call 30; exact HT.out.dry _) | (go_at_call 31; exact HT.out.waits _))))
            refine wpQuiet_nil ?_
            intro wq hw'
            obtain ⟨nq, rfl⟩ := hw'
            go_wp2
            go_roundw
            case rel => exact ⟨i + 1, _, _, by go_num, ⟨by omega, H6.out.drewN nq, ⟨HB4.out.rA, by have := HB4.out.lA; omega, by have := HB4.out.lO; omega⟩⟩⟩
            case measure => simp [intOf]; omega
    · go_wp2_with (go_at_call 42; refine (wlives_any _).mono ?_; rintro e w2 ⟨rfl, hb2⟩; have HB2 := Aside0.mk hb2; clear hb2)
      go_ret
      exact ⟨rfl, below_step HK.out.wl.inl.bel HB2.out⟩
theorem abutmentlaw42_WirePlays.calls (a0 : Int) (A1 : Option Addr) (c1 : Nat) (l1 : List S63) (r : Bool) (w : World) (hr1 : Kd.C k63 w A1 l1.length l1) (hc1 : l1.length ≤ c1) (h : r = true ∧ ∀ x ∈ l1, (Lit.int .i64 x.f0).wf = true ∧ (Lit.int .i64 x.f1).wf = true ∧ x.f2.size ≤ maxLen) :
    Calls Try.prog 7 #[.int .i64 a0, .slice A1 l1.length c1] w fun e w' => e = .returned (.bool r) ∧ Below w.heap.size w w' := by
  obtain ⟨rfl, hwf⟩ := h
  by_cases ho : a0 < 0 ∨ 2000 < a0 ∨ ¬ fewW l1
  · exact wplays_out a0 A1 c1 l1 w hr1 hc1 ho
  · have h0 : ¬ a0 < 0 := fun h => ho (Or.inl h)
    have h1 : ¬ 2000 < a0 := fun h => ho (Or.inr (Or.inl h))
    have h2 : fewW l1 := Decidable.of_not_not (fun h => ho (Or.inr (Or.inr h)))
    obtain ⟨m, rfl⟩ := Int.eq_ofNat_of_zero_le (show 0 ≤ a0 by omega)
    exact wplays_in m A1 c1 l1 w hr1 hc1 (by omega) h2 (fun x hx => i64_range (hwf x hx).2.1)
namespace Pure
theorem WirePlays (a0 : Int) (l1 : List S63) (g : ∀ x ∈ l1, (Lit.int .i64 x.f0).wf = true ∧ (Lit.int .i64 x.f1).wf = true ∧ x.f2.size ≤ maxLen) : true = true ∧ ∀ x ∈ l1, (Lit.int .i64 x.f0).wf = true ∧ (Lit.int .i64 x.f1).wf = true ∧ x.f2.size ≤ maxLen := ⟨rfl, g⟩
end Pure
end Go.Proofs.Ytacglolggaobdaa.Qu
