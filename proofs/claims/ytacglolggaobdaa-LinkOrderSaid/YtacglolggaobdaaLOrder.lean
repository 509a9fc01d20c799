/- LinkOrder: the law returns true for every number and every list of calls. -/
import Derived.Test.YtacglolggaobdaaLPlays
namespace Go.Proofs.Ytacglolggaobdaa.Qu
open Go.RowKit Go.Proofs.YtacglolggaobdaaW.PrintWords Go.Proofs.YtacglolggaobdaaW.PrintLast Go.Proofs.YtacglolggaobdaaW.PrintMore Go.Proofs.Ytacglolggaobdaa.PQueue Go.Proofs.Ytacglolggaobdaa.HQ
attribute [local go_sem] max2_int min2_int max_two min_two max_three min_three max_four min_four
set_option linter.unusedVariables false
set_option linter.unusedSimpArgs false

theorem cut_suf (z y : ByteArray) (a b : List UInt8) (hz : z = st (a ++ b)) (hy : y = st b) : ∀ W, (Instr.slice 9 (.string z) (some (.int .i64 ((z.size : Int) - (y.size : Int)))) none none).run Try.prog W = .ok (.string y) W := fun W => by
  subst hz hy
  have h := cut_st (a ++ b) a.length (by rw [List.length_append]; omega) W
  rw [List.drop_left' rfl] at h
  rw [st_size, st_size, List.length_append, show (((a.length + b.length : Nat) : Int) - (b.length : Int)) = (a.length : Int) by omega]
  exact h
theorem InL.leftd {w0 w : World} {L : Lk} {v : LV} (h : InL w0 w L v) (z : ByteArray) (hz : z = st v.I) : Calls Try.prog 29 #[.pointer (some ⟨L.k, 0, none⟩)] w fun x w' => x = .returned (.string z) ∧ InL w0 w' L v ∧ ∃ nd, w' = w.drewN nd := by
  subst hz
  exact h.left.mono fun _ _ ⟨he, nd, hw⟩ => ⟨he, by rw [hw]; exact h.drewN nd, nd, hw⟩

set_option maxHeartbeats 16000000 in
set_option maxRecDepth 100000 in
theorem lorder_any (most : Int) (A : Option Addr) (c : Nat) (l : List S44) (w : World) (hr : Kd.C k44 w A l.length l) (hc : l.length ≤ c) (hwf : ∀ x ∈ l, -9223372036854775808 ≤ x.f1 ∧ x.f1 ≤ 9223372036854775807) :
    Calls Try.prog 6 #[.int .i64 most, .slice A l.length c] w fun e w' => e = .returned (.bool true) ∧ Below w.heap.size w w' := by
  have HR := Aside0.mk hr
  have HWF := Aside0.mk hwf
  have hee : ((⟨#[]⟩ : ByteArray) ++ ⟨#[]⟩) = ⟨#[]⟩ := rfl
  clear hr hwf
  go_enter Try.func6, Try.ntmps6
  go_wp2_with fail
  obtain ⟨W, hW⟩ : ∃ W, W = (w.alloc (.cells #[.pointer none, .pointer none, .string ⟨#[]⟩, .bool false, .bool false] 50)).alloc (.cells #[.pointer none, .pointer (some ⟨w.heap.size, 0, none⟩)] 40) := ⟨_, rfl⟩
  have hb : Below w.heap.size w W := by rw [hW]; exact ((Below.refl _ _).alloc (Nat.le_refl _) _).alloc (by simp [World.size_alloc]) _
  have hrow : W.heap[w.heap.size + 1]? = some (.cells #[.pointer none, .pointer (some ⟨w.heap.size, 0, none⟩)] 40 (0, 0)) := by
    rw [hW]
    have := heap_alloc_new (w.alloc (.cells #[.pointer none, .pointer none, .string ⟨#[]⟩, .bool false, .bool false] 50)) (.cells #[.pointer none, .pointer (some ⟨w.heap.size, 0, none⟩)] 40)
    simpa [World.size_alloc] using this
  have hz : W.heap[w.heap.size]? = some (.cells #[.pointer none, .pointer none, .string ⟨#[]⟩, .bool false, .bool false] 50 (0, 0)) := by
    rw [hW, Below.heap_alloc _ _ _ (by simp [World.size_alloc])]
    exact heap_alloc_new w _
  have hn0 : NoL W (.pointer none) := made_nil W
  have hn1 : NoL W (.pointer (some ⟨w.heap.size, 0, none⟩)) := made_zero W _ ((blk_cell hz 0).trans rfl)
  have hq0 : W.cell? ⟨w.heap.size + 1, 0, none⟩ = some (.pointer none) := (blk_cell hrow 0).trans rfl
  have hq1 : W.cell? ⟨w.heap.size + 1, 1, none⟩ = some (.pointer (some ⟨w.heap.size, 0, none⟩)) := (blk_cell hrow 1).trans rfl
  have HN0 := Aside0.mk hn0
  have HN1 := Aside0.mk hn1
  have HB := Aside0.mk hb
  have HFD := Aside0.mk (fewl_any A c l W (Kd.C_below HR.out hb) hc)
  rw [← hW]
  clear hW hb hrow hz hn0 hn1
  go_loop [22] (fun v22 => ∃ i : Nat, v22 = .int .i64 (i : Int) ∧ i ≤ 2) (fun v22 => 2 - (intOf v22).toNat)
  case atStart => exact ⟨0, rfl, by omega⟩
  case round =>
    obtain ⟨i, rfl, hi⟩ := hrel
    obtain rfl | rfl | rfl : i = 0 ∨ i = 1 ∨ i = 2 := by omega
    · go_wp2_with fail
      refine (HN0.out.end_).mono ?_
      rintro x w' ⟨rfl, rfl⟩
      go_wp2_with fail
      refine (HN0.out.use 1).mono ?_
      rintro x w' ⟨rfl, rfl⟩
      go_wp2_with fail
      refine (HN0.out.write ⟨#[97]⟩).mono ?_
      rintro x w' ⟨rfl, rfl⟩
      go_wp2_with fail
      refine (HN0.out.shut).mono ?_
      rintro x w' ⟨rfl, rfl⟩
      go_wp2_with fail
      refine (HN0.out.give ⟨#[97]⟩).mono ?_
      rintro x w' ⟨rfl, rfl⟩
      go_wp2_with fail
      refine (HN0.out.waits).mono ?_
      rintro x w' ⟨rfl, rfl⟩
      go_wp2_with fail
      refine (HN0.out.left).mono ?_
      rintro x w' ⟨rfl, rfl⟩
      go_wp2_with fail
      refine (HN0.out.take 5).mono ?_
      rintro x w' ⟨rfl, rfl⟩
      go_wp2_with fail
      refine (HN0.out.dry).mono ?_
      rintro x w' ⟨rfl, rfl⟩
      go_wp2_with fail
      refine (HN0.out.free).mono ?_
      rintro x w' ⟨rfl, rfl⟩
      go_wp2_with fail
      refine (HN0.out.over).mono ?_
      rintro x w' ⟨rfl, rfl⟩
      go_wp2_with fail
      refine (HN0.out.live).mono ?_
      rintro x w' ⟨rfl, rfl⟩
      go_wp2
      go_round
      case rel => exact ⟨1, rfl, by omega⟩
      case measure => simp [intOf]
    · go_wp2_with fail
      refine (HN1.out.end_).mono ?_
      rintro x w' ⟨rfl, rfl⟩
      go_wp2_with fail
      refine (HN1.out.use 1).mono ?_
      rintro x w' ⟨rfl, rfl⟩
      go_wp2_with fail
      refine (HN1.out.write ⟨#[97]⟩).mono ?_
      rintro x w' ⟨rfl, rfl⟩
      go_wp2_with fail
      refine (HN1.out.shut).mono ?_
      rintro x w' ⟨rfl, rfl⟩
      go_wp2_with fail
      refine (HN1.out.give ⟨#[97]⟩).mono ?_
      rintro x w' ⟨rfl, rfl⟩
      go_wp2_with fail
      refine (HN1.out.waits).mono ?_
      rintro x w' ⟨rfl, rfl⟩
      go_wp2_with fail
      refine (HN1.out.left).mono ?_
      rintro x w' ⟨rfl, rfl⟩
      go_wp2_with fail
      refine (HN1.out.take 5).mono ?_
      rintro x w' ⟨rfl, rfl⟩
      go_wp2_with fail
      refine (HN1.out.dry).mono ?_
      rintro x w' ⟨rfl, rfl⟩
      go_wp2_with fail
      refine (HN1.out.free).mono ?_
      rintro x w' ⟨rfl, rfl⟩
      go_wp2_with fail
      refine (HN1.out.over).mono ?_
      rintro x w' ⟨rfl, rfl⟩
      go_wp2_with fail
      refine (HN1.out.live).mono ?_
      rintro x w' ⟨rfl, rfl⟩
      go_wp2
      go_round
      case rel => exact ⟨2, rfl, by omega⟩
      case measure => simp [intOf]
    · skip
      by_cases h0 : most < 0
      · go_wp2_with (first | (go_at_call 27; refine (llives_any _).mono ?_; rintro e w1 ⟨rfl, hb1⟩; have HB1 := Aside0.mk hb1; clear hb1))
        go_ret
        exact ⟨rfl, below_step HB.out HB1.out⟩
      · by_cases h1 : most > 2000
        · go_wp2_with (first | (go_at_call 27; refine (llives_any _).mono ?_; rintro e w1 ⟨rfl, hb1⟩; have HB1 := Aside0.mk hb1; clear hb1))
          go_ret
          exact ⟨rfl, below_step HB.out HB1.out⟩
        · by_cases hf : fewL l
          · have hfd := HFD.out
            rw [decide_eq_true hf] at hfd
            obtain ⟨m, rfl⟩ := Int.eq_ofNat_of_zero_le (show 0 ≤ most by omega)
            have hm : m ≤ 2000 := by omega
            have HF := Aside0.mk hf.2
            have hlen := hf.1
            have HFD2 := Aside0.mk hfd
            clear hf hfd HFD
            go_wp2_with (first | (go_at_call 25; refine HFD2.out.mono ?_; rintro e w1 ⟨rfl, hb1⟩; have HB1 := Aside0.mk hb1; clear hb1) | (go_at_call 26; refine (lnew_ok _ m (by omega)).mono ?_; rintro e w2 ⟨L, rfl, hl⟩; have HQ := Aside0.mk (hl.lift (below_step HB.out HB1.out)); clear hl))
            obtain ⟨wo, hwo⟩ : ∃ wo : World, wo = W := ⟨_, rfl⟩
            go_loopw [9, 10, 11, 83] (fun v9 v10 v11 v83 wr => ∃ (i : Nat) (Wr Tk Out P I : List UInt8), v83 = .int .i64 (i : Int) ∧ v9 = .string (st Wr) ∧ v10 = .string (st Tk) ∧ v11 = .string (st (P ++ I)) ∧ Aside0 (i ≤ l.length ∧ InL w wr L ⟨m, I, Out, false, false⟩ ∧ Wr = Tk ++ Out ∧ Wr.length ≤ 300 * i ∧ (P ++ I).length ≤ 300 * i)) (fun _ _ _ v83 _ => l.length - (intOf v83).toNat)
            case atStart => exact ⟨0, [], [], [], [], [], rfl, rfl, rfl, rfl, ⟨by omega, HQ.out, rfl, by simp, by simp⟩⟩
            case round =>
              obtain ⟨i, Wr, Tk, Out, P, I, rfl, rfl, rfl, rfl, HA⟩ := hrel
              obtain ⟨hi, hil, hWr, hWl, hGl⟩ := HA.out
              have HW := Aside0.mk hil
              have hIl := hil.lenI
              simp only at hIl
              have hOl : Out.length ≤ Wr.length := by rw [hWr, List.length_append]; omega
              have hTl : Tk.length ≤ Wr.length := by rw [hWr, List.length_append]; omega
              have hGs : (P ++ I).length = P.length + I.length := List.length_append
              clear HA hil
              by_cases hlt : i < l.length
              · obtain ⟨ad, e, hx0, hx1, hx2⟩ := at_T44 (Kd.C_below HR.out HW.out.bel) (i : Int) (by omega) (by omega)
                cases e
                rw [rd44 l i hlt, Int.toNat_natCast] at hx0 hx1 hx2
                obtain ⟨x, hxe⟩ : ∃ x, x = l[i] := ⟨_, rfl⟩
                have hxs : x.f2.size ≤ 300 := HF.out x (by rw [hxe]; exact List.getElem_mem _)
                have hxw := HWF.out x (by rw [hxe]; exact List.getElem_mem _)
                rw [← hxe] at hx0 hx1 hx2
                clear hxe
                obtain ⟨d, n, t⟩ := x
                simp only at hxs hx0 hx1 hx2 hxw
                have hal : ∀ d : Int, InL w (wr.alloc (.cells #[.int .i64 d, .int .i64 n, .string t] 44)) L ⟨m, I, Out, false, false⟩ ∧ Bx (wr.alloc (.cells #[.int .i64 d, .int .i64 n, .string t] 44)) wr.heap.size d n t := fun d => ⟨HW.out.only ((Only.refl wr (fun _ => False)).alloc _) (fun _ _ h => h) (fun _ h => h.elim), heap_alloc_new wr _⟩
                have HAL := Aside0.mk hal
                have HNE := Aside0.mk (show ∀ x, L.S x → ¬ wr.heap.size = x from fun x e e' => by have := HW.out.lt x e; omega)
                clear hal
                by_cases hd1 : d = 1
                · subst hd1
                  obtain ⟨V, hVe⟩ : ∃ V, V = wr.alloc (.cells #[.int .i64 1, .int .i64 n, .string t] 44) := ⟨_, rfl⟩
                  have hV := HAL.out 1
                  rw [← hVe] at hV
                  have HVB := Aside0.mk hV.1
                  have HVK := Aside0.mk hV.2
                  have hc1 := hV.2.c1
                  have hc2 := hV.2.c2
                  clear hV
                  obtain ⟨k, hk⟩ : ∃ k, k = min t.size (m - I.length) := ⟨_, rfl⟩
                  have hgv : LV.give ⟨m, I, Out, false, false⟩ t = k := by rw [hk]; rfl
                  obtain ⟨T, hT⟩ : ∃ T, T = t.data.toList.take k := ⟨_, rfl⟩
                  have hTl2 : T.length = k := by rw [hT, List.length_take, data_length]; omega
                  have hgive : Calls Try.prog 39 #[.pointer (some ⟨L.k, 0, none⟩), .string t] V.drew fun x w' => x = .returned (.int .i64 (k : Int)) ∧ InL w w' L ⟨m, I ++ T, Out, false, false⟩ ∧ Only V.drew w' L.S := (HVB.out.drewN 1).give_as t k _ (by omega) (by rw [hgv]) (by rw [hgv, hT])
                  have HG := Aside0.mk hgive
                  obtain ⟨e1, he1⟩ : ∃ e, e = st T := ⟨_, rfl⟩
                  have hcutA : ∀ W, (Instr.slice 9 (.string t) none (some (.int .i64 (k : Int))) none).run Try.prog W = .ok (.string e1) W := fun W => by
                    rw [run_slice_string_h W 9 t Try.underlying9 .i64 _ (by omega) (by omega), Int.toNat_natCast, st_take, he1, hT]
                  have hI2l : (I ++ T).length = I.length + k := by rw [List.length_append, hTl2]
                  obtain ⟨zG2, hzG2⟩ : ∃ z, z = st (P ++ (I ++ T)) := ⟨_, rfl⟩
                  obtain ⟨zI2, hzI2⟩ : ∃ z, z = st (I ++ T) := ⟨_, rfl⟩
                  have hcutG := cut_suf zG2 zI2 (P) (I ++ T) hzG2 hzI2
                  have sG2 : zG2.size = (P).length + (I ++ T).length := by rw [hzG2, st_size, List.length_append]
                  have sI2 : zI2.size = (I ++ T).length := by rw [hzI2, st_size]
                  have hle : ¬ zG2.size < zI2.size := by omega
                  have hle2 : (zI2.size : Int) ≤ (zG2.size : Int) := by omega
                  have hGb : (zG2.size : Int) ≤ 100000 := by omega
                  have hmo : ¬ m < zI2.size := by omega
                  have HZI := Aside0.mk hzI2
                  have HZG := Aside0.mk hzG2
                  obtain ⟨zG, hzG⟩ : ∃ z, z = st (P ++ I) := ⟨_, rfl⟩
                  have sG : zG.size = P.length + I.length := by rw [hzG, st_size, List.length_append]
                  have se1 : e1.size = k := by rw [he1, st_size, hTl2]
                  have hcat : ∀ W, (Op.stringOp .add zG e1).run Try.prog W = .ok (.string zG2) W := fun W => by
                    rw [run_string_add_sum W zG e1 (by omega), hzG, he1, st_append, hzG2, List.append_assoc]
                  have hkt : ¬ t.size < k := by omega
                  have hmx : (if 0 < k then (k : Int) else 0) = (k : Int) := by split <;> omega
                  have hmx2 : (if (0 : Int) < (k : Int) then (k : Int) else 0) = (k : Int) := by split <;> omega
                  have HHs := Aside0.mk (And.intro hWr (And.intro (show Wr.length ≤ 300 * (i + 1) by omega) (show (P ++ (I ++ T)).length ≤ 300 * (i + 1) by rw [List.length_append, hI2l]; omega)))
                  rw [← hzG]
                  clear hk hgv hgive hT hTl2 he1 hI2l sG2 sI2 sG se1 hzG hzG2 hzI2 hWr hWl hGl hIl hOl hTl hGs
                  go_wp2_with fail
                  rw [← hVe]
                  clear hVe
                  go_region_held3 (fun w' => w'.cell? ⟨wr.heap.size, 2, none⟩ = some (.string t)) (first | assumption | go_keep)
                    (first | (go_at_call 39; go_loud (refine HG.out.mono ?_); rintro e w3 ⟨rfl, hq3, ho3⟩; have hk3 : Bx w3 wr.heap.size 1 n t := ho3.blk (show V.drew.heap[wr.heap.size]? = _ from HVK.out) (fun e => HNE.out _ e rfl); have hc23 := hk3.c2; have H3 := Aside0.mk hq3; clear hq3 ho3 hk3))
                  go_wp2_with fail
                  refine (H3.out.leftd zI2 HZI.out).mono ?_
                  rintro x w8 ⟨rfl, hl8, hd8⟩
                  have H8 := Aside0.mk hl8
                  clear hl8 hd8
                  go_wp2
                  go_roundw
                  case rel => exact ⟨i + 1, Wr, Tk, Out, P, I ++ T, by go_num, rfl, rfl, by rw [HZG.out], ⟨by omega, H8.out, HHs.out.1, HHs.out.2.1, HHs.out.2.2⟩⟩
                  case measure => simp [intOf]; omega
                · by_cases hd3 : d = 3
                  · subst hd3
                    obtain ⟨V, hVe⟩ : ∃ V, V = wr.alloc (.cells #[.int .i64 3, .int .i64 n, .string t] 44) := ⟨_, rfl⟩
                    have hV := HAL.out 3
                    rw [← hVe] at hV
                    have HVB := Aside0.mk hV.1
                    have HVK := Aside0.mk hV.2
                    have hc1 := hV.2.c1
                    have hc2 := hV.2.c2
                    clear hV
                    obtain ⟨zI, hzI⟩ : ∃ z, z = st I := ⟨_, rfl⟩
                    obtain ⟨zG, hzG⟩ : ∃ z, z = st (P ++ I) := ⟨_, rfl⟩
                    obtain ⟨J, hJ⟩ : ∃ J, J = I.take n.toNat := ⟨_, rfl⟩
                    obtain ⟨I2, hI2⟩ : ∃ I2, I2 = I.drop n.toNat := ⟨_, rfl⟩
                    have hIJ : I = J ++ I2 := by rw [hJ, hI2, List.take_append_drop]
                    have hIJl : I.length = J.length + I2.length := by rw [← List.length_append, ← hIJ]
                    have hPJ : P ++ I = (P ++ J) ++ I2 := by rw [hIJ, List.append_assoc]
                    have hPJl : (P ++ J).length = P.length + J.length := List.length_append
                    obtain ⟨zG2, hzG2⟩ : ∃ z, z = st (P ++ J ++ I2) := ⟨_, rfl⟩
                    obtain ⟨zI2, hzI2⟩ : ∃ z, z = st (I2) := ⟨_, rfl⟩
                    have hcutG := cut_suf zG2 zI2 (P ++ J) (I2) hzG2 hzI2
                    have sG2 : zG2.size = (P ++ J).length + (I2).length := by rw [hzG2, st_size, List.length_append]
                    have sI2 : zI2.size = (I2).length := by rw [hzI2, st_size]
                    have hle : ¬ zG2.size < zI2.size := by omega
                    have hle2 : (zI2.size : Int) ≤ (zG2.size : Int) := by omega
                    have hGb : (zG2.size : Int) ≤ 100000 := by omega
                    have hmo : ¬ m < zI2.size := by omega
                    have HZI := Aside0.mk hzI2
                    have HZG := Aside0.mk hzG2
                    have hGG : zG = zG2 := by rw [hzG, hzG2, hPJ]
                    have hcutI := cut_suf zI zI2 J I2 (by rw [hzI, hIJ]) hzI2
                    have sI : zI.size = I.length := by rw [hzI, st_size]
                    have hle3 : ¬ zI.size < zI2.size := by omega
                    have hle4 : (zI2.size : Int) ≤ (zI.size : Int) := by omega
                    have hIb : (zI.size : Int) ≤ 100000 := by omega
                    have huse : ∀ {w' : World}, InL w w' L ⟨m, I, Out, false, false⟩ → Calls Try.prog 36 #[.pointer (some ⟨L.k, 0, none⟩), .int .i64 n] w' fun x w'' => x = .returned (.tuple #[]) ∧ InL w w'' L ⟨m, I2, Out, false, false⟩ ∧ Only w' w'' L.S := fun h => by
                      have := h.use n
                      rw [hI2]
                      exact this
                    have HU := Aside0.mk @huse
                    have HZ0 := Aside0.mk hzI
                    have HHs := Aside0.mk (And.intro hWr (And.intro (show Wr.length ≤ 300 * (i + 1) by omega) (show ((P ++ J) ++ I2).length ≤ 300 * (i + 1) by rw [List.length_append]; omega)))
                    rw [← hzG, hGG]
                    clear huse hJ hI2 hIJ hIJl hPJ hPJl sG2 sI2 sI hzI hzG hzG2 hzI2 hGG hWr hWl hGl hIl hOl hTl hGs
                    go_wp2_with fail
                    rw [← hVe]
                    clear hVe
                    refine (HVB.out.leftd zI HZ0.out).mono ?_
                    rintro x w4 ⟨rfl, hl4, nd, hw4⟩
                    have hk4 : Bx w4 wr.heap.size 3 n t := by rw [hw4]; exact HVK.out
                    have hc14 := hk4.c1
                    have H4 := Aside0.mk hl4
                    clear hl4 hw4 hk4
                    go_wp2_with fail
                    refine (HU.out H4.out).mono ?_
                    rintro x w5 ⟨rfl, hl5, ho5⟩
                    have H5 := Aside0.mk hl5
                    clear hl5 ho5
                    go_wp2_with fail
                    refine (H5.out.leftd zI2 HZI.out).mono ?_
                    rintro x w3 ⟨rfl, hl3, nd3, hw3⟩
                    have H3 := Aside0.mk hl3
                    clear hl3 hw3
                    go_wp2_with fail
                    refine (H3.out.leftd zI2 HZI.out).mono ?_
                    rintro x w8 ⟨rfl, hl8, hd8⟩
                    have H8 := Aside0.mk hl8
                    clear hl8 hd8
                    go_wp2
                    go_roundw
                    case rel => exact ⟨i + 1, Wr, Tk, Out, P ++ J, I2, by go_num, rfl, rfl, by rw [HZG.out], ⟨by omega, H8.out, HHs.out.1, HHs.out.2.1, HHs.out.2.2⟩⟩
                    case measure => simp [intOf]; omega
                  · by_cases hd4 : d = 4
                    · subst hd4
                      obtain ⟨V, hVe⟩ : ∃ V, V = wr.alloc (.cells #[.int .i64 4, .int .i64 n, .string t] 44) := ⟨_, rfl⟩
                      have hV := HAL.out 4
                      rw [← hVe] at hV
                      have HVB := Aside0.mk hV.1
                      have HVK := Aside0.mk hV.2
                      have hc1 := hV.2.c1
                      have hc2 := hV.2.c2
                      clear hV
                      obtain ⟨zW, hzW⟩ : ∃ z, z = st Wr := ⟨_, rfl⟩
                      obtain ⟨zW2, hzW2⟩ : ∃ z, z = st (Wr ++ t.data.toList) := ⟨_, rfl⟩
                      have hcatW : zW ++ t = zW2 := by rw [hzW, hzW2, ← st_append, st_data]
                      have sW : zW.size = Wr.length := by rw [hzW, st_size]
                      have hzs : zW.size + t.size ≤ 100000 := by omega
                      obtain ⟨zG2, hzG2⟩ : ∃ z, z = st (P ++ I) := ⟨_, rfl⟩
                      obtain ⟨zI2, hzI2⟩ : ∃ z, z = st (I) := ⟨_, rfl⟩
                      have hcutG := cut_suf zG2 zI2 (P) (I) hzG2 hzI2
                      have sG2 : zG2.size = (P).length + (I).length := by rw [hzG2, st_size, List.length_append]
                      have sI2 : zI2.size = (I).length := by rw [hzI2, st_size]
                      have hle : ¬ zG2.size < zI2.size := by omega
                      have hle2 : (zI2.size : Int) ≤ (zG2.size : Int) := by omega
                      have hGb : (zG2.size : Int) ≤ 100000 := by omega
                      have hmo : ¬ m < zI2.size := by omega
                      have HZI := Aside0.mk hzI2
                      have HZG := Aside0.mk hzG2
                      have hwrt : ∀ {w' : World}, InL w w' L ⟨m, I, Out, false, false⟩ → Calls Try.prog 37 #[.pointer (some ⟨L.k, 0, none⟩), .string t] w' fun x w'' => x = .returned (.tuple #[]) ∧ InL w w'' L ⟨m, I, Out ++ t.data.toList, false, false⟩ ∧ Only w' w'' L.S := fun h => h.write_as t _ (by show Out.length + t.size ≤ 1000000; omega) rfl
                      have HU := Aside0.mk @hwrt
                      have HZ0 := Aside0.mk hzW2
                      have HHs := Aside0.mk (And.intro (show Wr ++ t.data.toList = Tk ++ (Out ++ t.data.toList) by rw [hWr, List.append_assoc]) (And.intro (show (Wr ++ t.data.toList).length ≤ 300 * (i + 1) by rw [List.length_append, data_length]; omega) (show (P ++ I).length ≤ 300 * (i + 1) by omega)))
                      rw [← hzW, ← hzG2]
                      clear hwrt hzW hzW2 sW sG2 sI2 hzG2 hzI2 hWr hWl hGl hIl hOl hTl hGs
                      go_wp2_with fail
                      rw [← hVe]
                      clear hVe
                      refine (HU.out HVB.out).mono ?_
                      rintro x w3 ⟨rfl, hl3, ho3⟩
                      have hk3 : Bx w3 wr.heap.size 4 n t := ho3.blk HVK.out (fun e => HNE.out _ e rfl)
                      have hc23 := hk3.c2
                      have H3 := Aside0.mk hl3
                      clear hl3 ho3 hk3
                      go_wp2_with fail
                      refine (H3.out.leftd zI2 HZI.out).mono ?_
                      rintro x w8 ⟨rfl, hl8, hd8⟩
                      have H8 := Aside0.mk hl8
                      clear hl8 hd8
                      go_wp2
                      go_roundw
                      case rel => exact ⟨i + 1, Wr ++ t.data.toList, Tk, Out ++ t.data.toList, P, I, by go_num, by rw [HZ0.out], rfl, by rw [HZG.out], ⟨by omega, H8.out, HHs.out.1, HHs.out.2.1, HHs.out.2.2⟩⟩
                      case measure => simp [intOf]; omega
                    · have hb1 : (d == 1) = false := beq_eq_false_iff_ne.2 hd1
                      have hb3 : (d == 3) = false := beq_eq_false_iff_ne.2 hd3
                      have hb4 : (d == 4) = false := beq_eq_false_iff_ne.2 hd4
                      obtain ⟨V, hVe⟩ : ∃ V, V = wr.alloc (.cells #[.int .i64 d, .int .i64 n, .string t] 44) := ⟨_, rfl⟩
                      have hV := HAL.out d
                      rw [← hVe] at hV
                      have HVB := Aside0.mk hV.1
                      have HVK := Aside0.mk hV.2
                      have hc1 := hV.2.c1
                      have hc2 := hV.2.c2
                      clear hV
                      obtain ⟨J, hJ⟩ : ∃ J, J = Out.take n.toNat := ⟨_, rfl⟩
                      obtain ⟨O2, hO2⟩ : ∃ O2, O2 = Out.drop n.toNat := ⟨_, rfl⟩
                      have hOJ : Out = J ++ O2 := by rw [hJ, hO2, List.take_append_drop]
                      have hOJl : Out.length = J.length + O2.length := by rw [← List.length_append, ← hOJ]
                      obtain ⟨zJ, hzJ⟩ : ∃ z, z = st J := ⟨_, rfl⟩
                      obtain ⟨zT, hzT⟩ : ∃ z, z = st Tk := ⟨_, rfl⟩
                      obtain ⟨zT2, hzT2⟩ : ∃ z, z = st (Tk ++ J) := ⟨_, rfl⟩
                      have hcatT : zT ++ zJ = zT2 := by rw [hzT, hzJ, hzT2, st_append]
                      have sT : zT.size = Tk.length := by rw [hzT, st_size]
                      have sJ : zJ.size = J.length := by rw [hzJ, st_size]
                      have hzs : zT.size + zJ.size ≤ 100000 := by omega
                      obtain ⟨zG2, hzG2⟩ : ∃ z, z = st (P ++ I) := ⟨_, rfl⟩
                      obtain ⟨zI2, hzI2⟩ : ∃ z, z = st (I) := ⟨_, rfl⟩
                      have hcutG := cut_suf zG2 zI2 (P) (I) hzG2 hzI2
                      have sG2 : zG2.size = (P).length + (I).length := by rw [hzG2, st_size, List.length_append]
                      have sI2 : zI2.size = (I).length := by rw [hzI2, st_size]
                      have hle : ¬ zG2.size < zI2.size := by omega
                      have hle2 : (zI2.size : Int) ≤ (zG2.size : Int) := by omega
                      have hGb : (zG2.size : Int) ≤ 100000 := by omega
                      have hmo : ¬ m < zI2.size := by omega
                      have HZI := Aside0.mk hzI2
                      have HZG := Aside0.mk hzG2
                      have htak : ∀ {w' : World}, InL w w' L ⟨m, I, Out, false, false⟩ → Calls Try.prog 40 #[.pointer (some ⟨L.k, 0, none⟩), .int .i64 n] w' fun x w'' => x = .returned (.string zJ) ∧ InL w w'' L ⟨m, I, O2, false, false⟩ ∧ Only w' w'' L.S := fun h => h.take_as n zJ _ hxw.1 hxw.2 (by show Out.length ≤ 1000000; omega) (by rw [hzJ, hJ]) (by rw [hO2])
                      have HU := Aside0.mk @htak
                      have HZ0 := Aside0.mk hzT2
                      have HHs := Aside0.mk (And.intro (show Wr = (Tk ++ J) ++ O2 by rw [hWr, hOJ, List.append_assoc]) (And.intro (show Wr.length ≤ 300 * (i + 1) by omega) (show (P ++ I).length ≤ 300 * (i + 1) by omega)))
                      rw [← hzT, ← hzG2]
                      clear htak hJ hO2 hOJ hOJl hzJ hzT hzT2 sT sJ sG2 sI2 hzG2 hzI2 hWr hWl hGl hIl hOl hTl hGs
                      go_wp2_with fail
                      rw [← hVe]
                      clear hVe
                      refine (HU.out HVB.out).mono ?_
                      rintro x w3 ⟨rfl, hl3, ho3⟩
                      have H3 := Aside0.mk hl3
                      clear hl3 ho3
                      go_wp2_with fail
                      refine (H3.out.leftd zI2 HZI.out).mono ?_
                      rintro x w8 ⟨rfl, hl8, hd8⟩
                      have H8 := Aside0.mk hl8
                      clear hl8 hd8
                      go_wp2
                      go_roundw
                      case rel => exact ⟨i + 1, Wr, Tk ++ J, O2, P, I, by go_num, rfl, by rw [HZ0.out], by rw [HZG.out], ⟨by omega, H8.out, HHs.out.1, HHs.out.2.1, HHs.out.2.2⟩⟩
                      case measure => simp [intOf]; omega
              · have hTO : st Tk ++ st Out = st Wr := by rw [st_append, hWr]
                have hOs : (Out.take Wr.length) = Out := List.take_of_length_le (by omega)
                have hOd : (Out.drop Wr.length) = [] := List.drop_eq_nil_of_le (by omega)
                have hWs := st_size Wr
                have hTs := st_size Tk
                have hOs2 := st_size Out
                have htk := HW.out.take_as (Wr.length : Int) (st Out) ⟨m, I, [], false, false⟩ (by omega) (by omega) (by show Out.length ≤ 1000000; omega) (by rw [Int.toNat_natCast]; show st (Out.take Wr.length) = _; rw [hOs]) (by rw [Int.toNat_natCast]; show LV.mk m I (Out.drop Wr.length) false false = _; rw [hOd])
                obtain ⟨zW, hzW⟩ : ∃ z, z = st Wr := ⟨_, rfl⟩
                obtain ⟨zT, hzT⟩ : ∃ z, z = st Tk := ⟨_, rfl⟩
                obtain ⟨zO, hzO⟩ : ∃ z, z = st Out := ⟨_, rfl⟩
                rw [← hzW] at hTO hWs
                rw [← hzT] at hTO hTs
                rw [← hzO] at hTO hOs2 htk
                have hzz : zT.size + zO.size ≤ 1000000 := by omega
                rw [← hzW, ← hzT]
                have HTK := Aside0.mk htk
                clear htk hOs hOd hTs hOs2 hzW hzT hzO hWr
                go_wp2_with fail
                refine HTK.out.mono ?_
                rintro x w3 ⟨rfl, hl3, ho3⟩
                have HL3 := Aside0.mk hl3
                clear hl3 ho3
                go_wp2_with fail
                refine (HL3.out.waits_as 0 (show (0 : Nat) ≤ 1000000 by decide) rfl).mono ?_
                rintro x w4 ⟨rfl, nd, rfl⟩
                go_wp2_with fail
                refine (llives_any _).mono ?_
                rintro x w5 ⟨rfl, hb5⟩
                have HB5 := Aside0.mk hb5
                clear hb5
                go_wp2
                go_ret
                exact ⟨rfl, below_step (HL3.out.drewN nd).bel HB5.out⟩
          · have hfd := HFD.out
            rw [decide_eq_false hf] at hfd
            have HF := Aside0.mk hfd
            clear hf hfd HFD
            go_wp2_with (first | (go_at_call 25; refine HF.out.mono ?_; rintro e w1 ⟨rfl, hb1⟩; have HB1 := Aside0.mk hb1; clear hb1) | (go_at_call 27; refine (llives_any _).mono ?_; rintro e w2 ⟨rfl, hb2⟩; have HB2 := Aside0.mk hb2; clear hb2))
            go_ret
            exact ⟨rfl, below_step (below_step HB.out HB1.out) HB2.out⟩

theorem abutmentlaw38_LinkOrder.calls (a0 : Int) (A1 : Option Addr) (c1 : Nat) (l1 : List S44) (r : Bool) (w : World) (hr1 : Kd.C k44 w A1 l1.length l1) (hc1 : l1.length ≤ c1) (h : r = true ∧ ∀ x ∈ l1, (Lit.int .i64 x.f0).wf = true ∧ (Lit.int .i64 x.f1).wf = true ∧ x.f2.size ≤ maxLen) :
    Calls Try.prog 6 #[.int .i64 a0, .slice A1 l1.length c1] w fun e w' => e = .returned (.bool r) ∧ Below w.heap.size w w' := by
  obtain ⟨rfl, hwf⟩ := h
  exact lorder_any a0 A1 c1 l1 w hr1 hc1 (fun x hx => i64_range (hwf x hx).2.1)
namespace Pure
theorem LinkOrder (a0 : Int) (l1 : List S44) (g : ∀ x ∈ l1, (Lit.int .i64 x.f0).wf = true ∧ (Lit.int .i64 x.f1).wf = true ∧ x.f2.size ≤ maxLen) : true = true ∧ ∀ x ∈ l1, (Lit.int .i64 x.f0).wf = true ∧ (Lit.int .i64 x.f1).wf = true ∧ x.f2.size ≤ maxLen := ⟨rfl, g⟩
end Pure
end Go.Proofs.Ytacglolggaobdaa.Qu
