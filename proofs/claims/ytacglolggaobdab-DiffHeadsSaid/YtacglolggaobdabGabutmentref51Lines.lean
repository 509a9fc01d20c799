/- The reference's Lines comes to the rows of two lists of at most 1000 lines each. -/
import Derived.Test.YtacglolggaobdabMLong
import Derived.Test.YtacglolggaobdabPAllx4
import Derived.Deep.RegionHeld3
section
namespace Go.Proofs.Ytacglolggaobdab.PAll
open Go.Proofs.Ytacglolggaobdab.MTable (lcs)
open Go.Proofs.Ytacglolggaobdab.MDiff (to33 long_comes)
open Go.RowKit Go.Proofs.YtacglolggaobdabW.PrintWords Go.Proofs.YtacglolggaobdabW.PrintLast Go.Proofs.YtacglolggaobdabW.PrintMore
set_option linter.unusedVariables false
set_option linter.unusedSimpArgs false

/-! ### abutmentref51_Lines: function 17 -/
def abutmentref51_Lines.f (l0 : List ByteArray) (l1 : List ByteArray) : Option (List S33) := if l0.length ≤ 1000 ∧ l1.length ≤ 1000 then some ((linesOf l0 l1).map to33) else none

/-- a[1:], a not empty -/
def cutA (bd : Addr) (c : Nat) : Option Addr := if c = 1 then some bd else some (bd.add 1)
theorem slice_cut (bd : Addr) (n c : Nat) (h : 0 < n) (hc : n ≤ c) : ∀ W : World, (Instr.slice 22 (.slice (some bd) n c) (some (.int .i64 1)) none none).run Try.prog W = .ok (.slice (cutA bd c) (n - 1) (c - 1)) W := by
  intro W
  obtain ⟨i0, hi, hz0, hz1, hz2⟩ := info_parts info9
  have h1 : (1 : Int) ≤ (n : Int) := by omega
  have h1n : 1 ≤ n := h
  have h1c : 1 ≤ c := by omega
  have h2 : n ≤ c := hc
  simp [Instr.slice, run_underlying Try.underlying22, Instr.sliceBounds, run_sliceBound, h1, h1n, h1c, h2, sizeOf, typeInfo, hi, hz1, cutA]
theorem C_cut {w : World} {bd : Addr} {c : Nat} {x : ByteArray} {xs : List ByteArray} (h : Kd.C Kd.string w (some bd) (x :: xs).length (x :: xs)) (hc : (x :: xs).length ≤ c) : Kd.C Kd.string w (cutA bd c) xs.length xs := by
  have := Kd.C_drop (m := 1) (c := c) h (by simp) hc
  unfold cutA
  exact this
theorem head_cell {w : World} {A : Option Addr} {x : ByteArray} {xs : List ByteArray} (h : Kd.C Kd.string w A (x :: xs).length (x :: xs)) : ∃ bd, A = some bd ∧ w.cell? bd = some (.string x) := by
  obtain ⟨bd, e, hy⟩ := Kd.at_string h 0 (by omega) (by simp only [List.length_cons]; omega)
  refine ⟨bd, e, ?_⟩
  have h0 : bd.add 0 = bd := by simp [Addr.add]
  have : (0 : Int).toNat = 0 := rfl
  rw [this, h0] at hy
  exact hy

set_option maxHeartbeats 4000000 in
set_option maxRecDepth 100000 in
theorem abutmentref51_Lines.calls (A0 : Option Addr) (c0 : Nat) (l0 : List ByteArray) (A1 : Option Addr) (c1 : Nat) (l1 : List ByteArray) (r : List (S33)) (w : World) (hr0 : Kd.C Kd.string w A0 l0.length l0) (hc0 : l0.length ≤ c0) (hr1 : Kd.C Kd.string w A1 l1.length l1) (hc1 : l1.length ≤ c1) (h : abutmentref51_Lines.f l0 l1 = some r) :
    Calls Try.prog 17 #[.slice A0 l0.length c0, .slice A1 l1.length c1] w fun e w' => ∃ v0_ : Value, e = .returned (v0_) ∧ Kd.R k33 33 w' w.heap.size (fun _ => True) v0_ r ∧ Below w.heap.size w w' := by
  unfold abutmentref51_Lines.f at h
  by_cases hb : l0.length ≤ 1000 ∧ l1.length ≤ 1000
  · rw [if_pos hb] at h
    obtain rfl := Option.some.inj h
    have HR0 := Aside0.mk hr0
    have HR1 := Aside0.mk hr1
    clear h hr0 hr1
    go_enter Try.func17, Try.ntmps17
    go_wp2
    go_loopg [0, 1, 5] (l0.length + l1.length) (fun kx v0 v1 v5 wr => ∃ (A : Option Addr) (c : Nat) (x : List ByteArray) (B : Option Addr) (d : Nat) (y : List ByteArray) (o : List S33), v0 = .slice A x.length c ∧ v1 = .slice B y.length d ∧ x.length + y.length ≤ kx ∧ x.length ≤ 1000 ∧ y.length ≤ 1000 ∧ x.length ≤ c ∧ y.length ≤ d ∧ o.length + x.length + y.length ≤ 2000 ∧ Aside0 (Kd.C Kd.string w A x.length x) ∧ Aside0 (Kd.C Kd.string w B y.length y) ∧ Aside0 (Kd.R k33 33 wr w.heap.size (fun _ => True) v5 o) ∧ Aside0 (Below w.heap.size w wr) ∧ Aside0 (o ++ (linesOf x y).map to33 = (linesOf l0 l1).map to33))
    case atStart => exact ⟨A0, c0, l0, A1, c1, l1, [], rfl, rfl, Nat.le_refl _, hb.1, hb.2, hc0, hc1, by have := hb.1; have := hb.2; simp; omega, HR0, HR1, ⟨⟨fun _ _ => trivial, [], ⟨rfl, .inr ⟨w.heap.size, 0, #[], rfl, Nat.le_refl _, heap_alloc_new w _, Nat.le_refl _, by decide, rfl, rfl⟩⟩, rfl, fun j p hj => by simp at hj⟩⟩, ⟨below_alloc (Below.refl _ _) _⟩, ⟨rfl⟩⟩
    case round =>
      obtain ⟨A, c, x, B, d, y, o, rfl, rfl, hk, hx, hy, hxc, hyd, hol, HX, HY, HO, HB, HE⟩ := hrel
      cases x with
      | nil =>
        cases y with
        | nil =>
          have hfin := HE.out
          rw [linesOf_nil, List.map_nil, List.append_nil] at hfin
          have HF := Aside0.mk hfin
          clear hfin
          go_wp2
          go_ret
          exact ⟨_, rfl, by rw [← HF.out]; exact HO.out, HB.out⟩
        | cons q ys =>
          obtain ⟨bd, rfl, hcl⟩ := head_cell (Kd.C_below HY.out HB.out)
          have hslb := slice_cut bd (q :: ys).length d (by simp) hyd
          have hcutb := C_cut HY.out hyd
          have HCb := Aside0.mk hcutb
          clear hcutb
          rw [List.length_cons] at hslb hyd hol hk hy
          have hlenb : (q :: ys).length = ys.length + 1 := rfl
          rw [hlenb]
          have hl1b : ¬ ((ys.length : Int) + 1 = 0) := by omega
          have hl2b : (((ys.length : Int) + 1) == 0) = false := beq_eq_false_iff_ne.2 hl1b
          have hl3b : (0 : Int) < (ys.length : Int) + 1 := by omega
          clear hlenb
          go_wp2_with fail
          go_quiet (fail)
          have HOn := Aside0.mk (Kd.R_drewN HO.out nq)
          have HBn := Aside0.mk (pw_below_drewN HB.out nq)
          have hcln : (wr.drewN nq).cell? bd = some (.string q) := hcl
          clear HO HB hcl
          generalize wr.drewN nq = wq at HOn HBn hcln ⊢
          have HO := HOn
          have HB := HBn
          have hcl := hcln
          clear HOn HBn nq hcln
          go_wp2_with fail
          go_quiet (fail)
          have HOn := Aside0.mk (Kd.R_drewN HO.out nq)
          have HBn := Aside0.mk (pw_below_drewN HB.out nq)
          have hcln : (wq.drewN nq).cell? bd = some (.string q) := hcl
          clear HO HB hcl
          generalize wq.drewN nq = wz at HOn HBn hcln ⊢
          have HO := HOn
          have HB := HBn
          have hcl := hcln
          clear HOn HBn nq hcln
          go_wp2_with (at_builtin; refine Kd.R_append k33 (w0 := w) w.heap.size rfl (.tmp 71) (.tmp 76) 28 33 (.agg #[(.int .i64 0), (.string ⟨#[]⟩)]) 24 rfl Try.underlying28 info33 rfl (by decide) (by omega) u5 o (⟨2, q⟩ : S33) [.int .i64 2, .string q] (fun _ => True) (fun _ => False) rfl rfl ?aP (fun _ hk => hk.elim) (fun _ _ => trivial) ?aO ?aB ?aS ?aL ?_; (case aP => exact k33_mkM _ _ _ (⟨2, q⟩ : S33)); (case aO => exact (by (with_reducible repeat (first | apply Kd.R_alloc | apply Kd.R_drewN | apply Kd.R_drew)); exact HO.out)); (case aB => exact (by repeat (first | (with_reducible first | exact HB.out | apply below_alloc | apply pw_below_drewN | apply below_drew1)))); (case aS => exact (below_size (by repeat (first | (with_reducible first | exact HB.out | apply below_alloc | apply pw_below_drewN | apply below_drew1))))); (case aL => omega); intro v1 w1 ho hb hg hat; have HO1 := Aside0.mk ho; have HB1 := Aside0.mk hb; clear ho hb hg hat)
          go_roundg (ys.length)
          case measure => omega
          case rel => exact ⟨A, c, [], cutA bd d, d - 1, ys, o ++ [⟨2, q⟩], rfl, rfl, by first | omega | (simp; done) | (simp; omega), by simp, by omega, by simp, by omega, by first | omega | (simp; done) | (simp; omega), HX, HCb, HO1, HB1, ⟨by rw [← HE.out, linesOf_right]; simp [to33]⟩⟩
      | cons p xs =>
        cases y with
        | nil =>
          obtain ⟨ad, rfl, hca⟩ := head_cell (Kd.C_below HX.out HB.out)
          have hsla := slice_cut ad (p :: xs).length c (by simp) hxc
          have hcuta := C_cut HX.out hxc
          have HCa := Aside0.mk hcuta
          clear hcuta
          rw [List.length_cons] at hsla hxc hol hk hx
          have hlena : (p :: xs).length = xs.length + 1 := rfl
          rw [hlena]
          have hl1a : ¬ ((xs.length : Int) + 1 = 0) := by omega
          have hl2a : (((xs.length : Int) + 1) == 0) = false := beq_eq_false_iff_ne.2 hl1a
          have hl3a : (0 : Int) < (xs.length : Int) + 1 := by omega
          clear hlena
          go_wp2_with fail
          go_quiet (fail)
          have HOn := Aside0.mk (Kd.R_drewN HO.out nq)
          have HBn := Aside0.mk (pw_below_drewN HB.out nq)
          have hcan : (wr.drewN nq).cell? ad = some (.string p) := hca
          clear HO HB hca
          generalize wr.drewN nq = wq at HOn HBn hcan ⊢
          have HO := HOn
          have HB := HBn
          have hca := hcan
          clear HOn HBn nq hcan
          go_wp2_with fail
          go_quiet (fail)
          have HOn := Aside0.mk (Kd.R_drewN HO.out nq)
          have HBn := Aside0.mk (pw_below_drewN HB.out nq)
          have hcan : (wq.drewN nq).cell? ad = some (.string p) := hca
          clear HO HB hca
          generalize wq.drewN nq = wz at HOn HBn hcan ⊢
          have HO := HOn
          have HB := HBn
          have hca := hcan
          clear HOn HBn nq hcan
          go_wp2_with (at_builtin; refine Kd.R_append k33 (w0 := w) w.heap.size rfl (.tmp 62) (.tmp 67) 28 33 (.agg #[(.int .i64 0), (.string ⟨#[]⟩)]) 24 rfl Try.underlying28 info33 rfl (by decide) (by omega) u5 o (⟨1, p⟩ : S33) [.int .i64 1, .string p] (fun _ => True) (fun _ => False) rfl rfl ?aP (fun _ hk => hk.elim) (fun _ _ => trivial) ?aO ?aB ?aS ?aL ?_; (case aP => exact k33_mkM _ _ _ (⟨1, p⟩ : S33)); (case aO => exact (by (with_reducible repeat (first | apply Kd.R_alloc | apply Kd.R_drewN | apply Kd.R_drew)); exact HO.out)); (case aB => exact (by repeat (first | (with_reducible first | exact HB.out | apply below_alloc | apply pw_below_drewN | apply below_drew1)))); (case aS => exact (below_size (by repeat (first | (with_reducible first | exact HB.out | apply below_alloc | apply pw_below_drewN | apply below_drew1))))); (case aL => omega); intro v1 w1 ho hb hg hat; have HO1 := Aside0.mk ho; have HB1 := Aside0.mk hb; clear ho hb hg hat)
          go_roundg (xs.length)
          case measure => omega
          case rel => exact ⟨cutA ad c, c - 1, xs, B, d, [], o ++ [⟨1, p⟩], rfl, rfl, by first | omega | (simp; done) | (simp; omega), by omega, by simp, by omega, by simp, by first | omega | (simp; done) | (simp; omega), HCa, HY, HO1, HB1, ⟨by rw [← HE.out, linesOf_left]; simp [to33]⟩⟩
        | cons q ys =>
          obtain ⟨ad, rfl, hca⟩ := head_cell (Kd.C_below HX.out HB.out)
          have hsla := slice_cut ad (p :: xs).length c (by simp) hxc
          have hcuta := C_cut HX.out hxc
          have HCa := Aside0.mk hcuta
          clear hcuta
          rw [List.length_cons] at hsla hxc hol hk hx
          have hlena : (p :: xs).length = xs.length + 1 := rfl
          rw [hlena]
          have hl1a : ¬ ((xs.length : Int) + 1 = 0) := by omega
          have hl2a : (((xs.length : Int) + 1) == 0) = false := beq_eq_false_iff_ne.2 hl1a
          have hl3a : (0 : Int) < (xs.length : Int) + 1 := by omega
          clear hlena
          obtain ⟨bd, rfl, hcl⟩ := head_cell (Kd.C_below HY.out HB.out)
          have hslb := slice_cut bd (q :: ys).length d (by simp) hyd
          have hcutb := C_cut HY.out hyd
          have HCb := Aside0.mk hcutb
          clear hcutb
          rw [List.length_cons] at hslb hyd hol hk hy
          have hlenb : (q :: ys).length = ys.length + 1 := rfl
          rw [hlenb]
          have hl1b : ¬ ((ys.length : Int) + 1 = 0) := by omega
          have hl2b : (((ys.length : Int) + 1) == 0) = false := beq_eq_false_iff_ne.2 hl1b
          have hl3b : (0 : Int) < (ys.length : Int) + 1 := by omega
          clear hlenb
          by_cases hpq : p.toList = q.toList
          · have hE := linesOf_eq p q xs ys hpq
            have hpqb : (p.toList == q.toList) = true := beq_iff_eq.2 hpq
            go_wp2_with fail
            go_quiet (fail)
            have HOn := Aside0.mk (Kd.R_drewN HO.out nq)
            have HBn := Aside0.mk (pw_below_drewN HB.out nq)
            have hcan : (wr.drewN nq).cell? ad = some (.string p) := hca
            have hcln : (wr.drewN nq).cell? bd = some (.string q) := hcl
            clear HO HB hca hcl
            generalize wr.drewN nq = wq at HOn HBn hcan hcln ⊢
            have HO := HOn
            have HB := HBn
            have hca := hcan
            have hcl := hcln
            clear HOn HBn nq hcan hcln
            go_wp2_with (at_builtin; refine Kd.R_append k33 (w0 := w) w.heap.size rfl (.tmp 32) (.tmp 37) 28 33 (.agg #[(.int .i64 0), (.string ⟨#[]⟩)]) 24 rfl Try.underlying28 info33 rfl (by decide) (by omega) u5 o (⟨0, p⟩ : S33) [.int .i64 0, .string p] (fun _ => True) (fun _ => False) rfl rfl ?aP (fun _ hk => hk.elim) (fun _ _ => trivial) ?aO ?aB ?aS ?aL ?_; (case aP => exact k33_mkM _ _ _ (⟨0, p⟩ : S33)); (case aO => exact (by (with_reducible repeat (first | apply Kd.R_alloc | apply Kd.R_drewN | apply Kd.R_drew)); exact HO.out)); (case aB => exact (by repeat (first | (with_reducible first | exact HB.out | apply below_alloc | apply pw_below_drewN | apply below_drew1)))); (case aS => exact (below_size (by repeat (first | (with_reducible first | exact HB.out | apply below_alloc | apply pw_below_drewN | apply below_drew1))))); (case aL => omega); intro v1 w1 ho hb hg hat; have HO1 := Aside0.mk ho; have HB1 := Aside0.mk hb; clear ho hb hg hat)
            go_roundg (xs.length + ys.length)
            case measure => omega
            case rel => exact ⟨cutA ad c, c - 1, xs, cutA bd d, d - 1, ys, o ++ [⟨0, p⟩], rfl, rfl, by omega, by omega, by omega, by omega, by omega, by first | omega | (simp; done) | (simp; omega), HCa, HCb, HO1, HB1, ⟨by rw [← HE.out, hE]; simp [to33]⟩⟩
          · have hpqb : (p.toList == q.toList) = false := beq_eq_false_iff_ne.2 hpq
            obtain ⟨k1, hk1⟩ := (long_comes xs (q :: ys) (by omega) (by first | omega | (simp; done) | (simp; omega))).rounds
            obtain ⟨k2, hk2⟩ := (long_comes (p :: xs) ys (by first | omega | (simp; done) | (simp; omega)) (by omega)).rounds
            have HK1 := Aside0.mk hk1
            have HK2 := Aside0.mk hk2
            obtain ⟨L1, hL1⟩ : ∃ L, L = lcs xs (q :: ys) := ⟨_, rfl⟩
            obtain ⟨L2, hL2⟩ : ∃ L, L = lcs (p :: xs) ys := ⟨_, rfl⟩
            have HL1 := Aside0.mk hL1
            have HL2 := Aside0.mk hL2
            rw [← hL1] at HK1
            rw [← hL2] at HK2
            clear hk1 hk2 hL1 hL2
            go_wp2_with fail
            go_quiet (fail)
            have HOn := Aside0.mk (Kd.R_drewN HO.out nq)
            have HBn := Aside0.mk (pw_below_drewN HB.out nq)
            have hcan : (wr.drewN nq).cell? ad = some (.string p) := hca
            have hcln : (wr.drewN nq).cell? bd = some (.string q) := hcl
            clear HO HB hca hcl
            generalize wr.drewN nq = wq at HOn HBn hcan hcln ⊢
            have HO := HOn
            have HB := HBn
            have hca := hcan
            have hcl := hcln
            clear HOn HBn nq hcan hcln
            go_wp2_with fail
            clear hca hcl
            by_cases hle : L2 ≤ L1
            · have hle1 : L1 ≥ L2 := hle
              have hle2 : decide (L1 ≥ L2) = true := decide_eq_true hle
              have hle3 : decide (L2 ≤ L1) = true := decide_eq_true hle
              have tok1 : Aside0 True := ⟨trivial⟩
              have tok2 : Aside0 True := ⟨trivial⟩
              go_region_held3 (fun w' => True) (first | trivial | assumption | go_keep)
                (first
                  | (go_at_call 54; have _t := tok1; refine (abutmentref51_Long.calls k1 (cutA ad c) (c - 1) xs (some bd) d (q :: ys) L1 _ (Kd.C_below HCa.out (by first | exact HB.out | exact below_drew1 HB.out | exact pw_below_drewN HB.out _)) (by omega) (Kd.C_below HY.out (by first | exact HB.out | exact below_drew1 HB.out | exact pw_below_drewN HB.out _)) (by rw [List.length_cons]; exact hyd) HK1.out).mono ?_; rintro e w1 ⟨rfl, b1⟩; have HB1 := Aside0.mk (below_step (by first | exact HB.out | exact below_drew1 HB.out | exact pw_below_drewN HB.out _) b1); have HO1 := Aside0.mk (Kd.R_below (by first | exact HO.out | exact Kd.R_drew HO.out | exact Kd.R_drewN HO.out _) b1); clear tok1 b1)
                  | (go_at_call 54; have _t := tok2; refine (abutmentref51_Long.calls k2 (some ad) c (p :: xs) (cutA bd d) (d - 1) ys L2 _ (Kd.C_below HX.out (by first | exact HB1.out | exact below_drew1 HB1.out | exact pw_below_drewN HB1.out _)) (by rw [List.length_cons]; exact hxc) (Kd.C_below HCb.out (by first | exact HB1.out | exact below_drew1 HB1.out | exact pw_below_drewN HB1.out _)) (by omega) HK2.out).mono ?_; rintro e w2 ⟨rfl, b2⟩; have HB2 := Aside0.mk (below_step HB1.out b2); have HO2 := Aside0.mk (Kd.R_below HO1.out b2); clear tok2 b2))
              have HB := HB2
              have HO := HO2
              clear HB1 HO1 HB2 HO2
              obtain ⟨z1, ez1, hca⟩ := head_cell (Kd.C_below HX.out HB.out)
              cases ez1
              obtain ⟨z2, ez2, hcl⟩ := head_cell (Kd.C_below HY.out HB.out)
              cases ez2
              go_wp2_with (at_builtin; refine Kd.R_append k33 (w0 := w) w.heap.size rfl (.tmp 62) (.tmp 67) 28 33 (.agg #[(.int .i64 0), (.string ⟨#[]⟩)]) 24 rfl Try.underlying28 info33 rfl (by decide) (by omega) u5 o (⟨1, p⟩ : S33) [.int .i64 1, .string p] (fun _ => True) (fun _ => False) rfl rfl ?aP (fun _ hk => hk.elim) (fun _ _ => trivial) ?aO ?aB ?aS ?aL ?_; (case aP => exact k33_mkM _ _ _ (⟨1, p⟩ : S33)); (case aO => exact (by (with_reducible repeat (first | apply Kd.R_alloc | apply Kd.R_drewN | apply Kd.R_drew)); exact HO.out)); (case aB => exact (by repeat (first | (with_reducible first | exact HB.out | apply below_alloc | apply pw_below_drewN | apply below_drew1)))); (case aS => exact (below_size (by repeat (first | (with_reducible first | exact HB.out | apply below_alloc | apply pw_below_drewN | apply below_drew1))))); (case aL => omega); intro v1 w1 ho hb hg hat; have HO1 := Aside0.mk ho; have HB1 := Aside0.mk hb; clear ho hb hg hat)
              go_roundg (xs.length + (ys.length + 1))
              case measure => omega
              case rel => exact ⟨cutA ad c, c - 1, xs, some bd, d, q :: ys, o ++ [⟨1, p⟩], rfl, rfl, by first | omega | (simp; done) | (simp; omega), by omega, by first | omega | (simp; done) | (simp; omega), by omega, by first | omega | (simp; done) | (simp; omega), by first | omega | (simp; done) | (simp; omega), HCa, HY, HO1, HB1, ⟨by rw [← HE.out, linesOf_gone p q xs ys hpq (by rw [← HL1.out, ← HL2.out]; exact hle)]; simp [to33]⟩⟩
            · have hle1 : ¬ L1 ≥ L2 := hle
              have hle2 : decide (L1 ≥ L2) = false := decide_eq_false hle
              have hle3 : decide (L2 ≤ L1) = false := decide_eq_false hle
              have tok1 : Aside0 True := ⟨trivial⟩
              have tok2 : Aside0 True := ⟨trivial⟩
              go_region_held3 (fun w' => True) (first | trivial | assumption | go_keep)
                (first
                  | (go_at_call 54; have _t := tok1; refine (abutmentref51_Long.calls k1 (cutA ad c) (c - 1) xs (some bd) d (q :: ys) L1 _ (Kd.C_below HCa.out (by first | exact HB.out | exact below_drew1 HB.out | exact pw_below_drewN HB.out _)) (by omega) (Kd.C_below HY.out (by first | exact HB.out | exact below_drew1 HB.out | exact pw_below_drewN HB.out _)) (by rw [List.length_cons]; exact hyd) HK1.out).mono ?_; rintro e w1 ⟨rfl, b1⟩; have HB1 := Aside0.mk (below_step (by first | exact HB.out | exact below_drew1 HB.out | exact pw_below_drewN HB.out _) b1); have HO1 := Aside0.mk (Kd.R_below (by first | exact HO.out | exact Kd.R_drew HO.out | exact Kd.R_drewN HO.out _) b1); clear tok1 b1)
                  | (go_at_call 54; have _t := tok2; refine (abutmentref51_Long.calls k2 (some ad) c (p :: xs) (cutA bd d) (d - 1) ys L2 _ (Kd.C_below HX.out (by first | exact HB1.out | exact below_drew1 HB1.out | exact pw_below_drewN HB1.out _)) (by rw [List.length_cons]; exact hxc) (Kd.C_below HCb.out (by first | exact HB1.out | exact below_drew1 HB1.out | exact pw_below_drewN HB1.out _)) (by omega) HK2.out).mono ?_; rintro e w2 ⟨rfl, b2⟩; have HB2 := Aside0.mk (below_step HB1.out b2); have HO2 := Aside0.mk (Kd.R_below HO1.out b2); clear tok2 b2))
              have HB := HB2
              have HO := HO2
              clear HB1 HO1 HB2 HO2
              obtain ⟨z1, ez1, hca⟩ := head_cell (Kd.C_below HX.out HB.out)
              cases ez1
              obtain ⟨z2, ez2, hcl⟩ := head_cell (Kd.C_below HY.out HB.out)
              cases ez2
              go_wp2_with (at_builtin; refine Kd.R_append k33 (w0 := w) w.heap.size rfl (.tmp 71) (.tmp 76) 28 33 (.agg #[(.int .i64 0), (.string ⟨#[]⟩)]) 24 rfl Try.underlying28 info33 rfl (by decide) (by omega) u5 o (⟨2, q⟩ : S33) [.int .i64 2, .string q] (fun _ => True) (fun _ => False) rfl rfl ?aP (fun _ hk => hk.elim) (fun _ _ => trivial) ?aO ?aB ?aS ?aL ?_; (case aP => exact k33_mkM _ _ _ (⟨2, q⟩ : S33)); (case aO => exact (by (with_reducible repeat (first | apply Kd.R_alloc | apply Kd.R_drewN | apply Kd.R_drew)); exact HO.out)); (case aB => exact (by repeat (first | (with_reducible first | exact HB.out | apply below_alloc | apply pw_below_drewN | apply below_drew1)))); (case aS => exact (below_size (by repeat (first | (with_reducible first | exact HB.out | apply below_alloc | apply pw_below_drewN | apply below_drew1))))); (case aL => omega); intro v1 w1 ho hb hg hat; have HO1 := Aside0.mk ho; have HB1 := Aside0.mk hb; clear ho hb hg hat)
              go_roundg (xs.length + 1 + ys.length)
              case measure => omega
              case rel => exact ⟨some ad, c, p :: xs, cutA bd d, d - 1, ys, o ++ [⟨2, q⟩], rfl, rfl, by first | omega | (simp; done) | (simp; omega), by first | omega | (simp; done) | (simp; omega), by omega, by first | omega | (simp; done) | (simp; omega), by omega, by first | omega | (simp; done) | (simp; omega), HX, HCb, HO1, HB1, ⟨by rw [← HE.out, linesOf_new p q xs ys hpq (by rw [← HL1.out, ← HL2.out]; omega)]; simp [to33]⟩⟩
  · rw [if_neg hb] at h
    cases h
end Go.Proofs.Ytacglolggaobdab.PAll
