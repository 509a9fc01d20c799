/- QueueOrder: the law returns true for every number and every list of calls. -/
import Derived.Test.YtacglolggaobdaaQPlays
namespace Go.Proofs.Ytacglolggaobdaa.Qu
open Go.RowKit Go.Proofs.YtacglolggaobdaaW.PrintWords Go.Proofs.YtacglolggaobdaaW.PrintLast Go.Proofs.YtacglolggaobdaaW.PrintMore Go.Proofs.Ytacglolggaobdaa.PQueue
attribute [local go_sem] max2_int min2_int max_two min_two max_three min_three max_four min_four
set_option linter.unusedVariables false
set_option linter.unusedSimpArgs false

/-- a queue that is none, or that nobody made -/
def NoQ (w : World) (v : Value) : Prop := v = .pointer none ∨ ∃ g, v = .pointer (some ⟨g, 0, none⟩) ∧ Hdr w g none 0 0 0
theorem NoQ.len {w : World} {v : Value} (h : NoQ w v) : Calls Try.prog 22 #[v] w fun e w' => e = .returned (.int .i64 0) ∧ w = w' := by
  rcases h with rfl | ⟨g, rfl, h⟩
  · exact len_nil w
  · exact len_any w g none 0 0 0 h
theorem NoQ.most {w : World} {v : Value} (h : NoQ w v) : Calls Try.prog 24 #[v] w fun e w' => e = .returned (.int .i64 0) ∧ w = w' := by
  rcases h with rfl | ⟨g, rfl, h⟩
  · exact most_nil w
  · exact most_any w g none 0 0 0 h
theorem NoQ.room {w : World} {v : Value} (h : NoQ w v) : Calls Try.prog 23 #[v] w fun e w' => e = .returned (.int .i64 0) ∧ w = w' := by
  rcases h with rfl | ⟨g, rfl, h⟩
  · exact room_nil w
  · exact room_any w g none 0 0 0 h (by omega) (by omega)
theorem NoQ.put {w : World} {v : Value} (h : NoQ w v) (s : ByteArray) (hs : s.size ≤ 9223372036854775807) : Calls Try.prog 16 #[v, .string s] w fun e w' => e = .returned (.int .i64 0) ∧ w = w' :=
  put_none w v s hs 0 (by omega) (by omega) (Or.inr rfl) (fun W hW => by subst hW; exact h.room)
theorem NoQ.peek {w : World} {v : Value} (h : NoQ w v) (n : Int) : Calls Try.prog 20 #[v, .int .i64 n] w fun e w' => e = .returned (.string ⟨#[]⟩) ∧ w = w' :=
  peek_none w v n 0 (Or.inr rfl) (by omega) (fun W hW => by subst hW; exact h.len)
theorem NoQ.take {w : World} {v : Value} (h : NoQ w v) (n : Int) : Calls Try.prog 18 #[v, .int .i64 n] w fun e w' => e = .returned (.string ⟨#[]⟩) ∧ w = w' := by
  have HP := Aside0.mk (h.peek n)
  clear h
  go_enter Try.func18, Try.ntmps18
  go_wp2_with (go_at_call 20; refine HP.out.mono ?_; rintro e w' ⟨rfl, rfl⟩)
  go_ret
  exact ⟨rfl, rfl⟩

def st (l : List UInt8) : ByteArray := ⟨l.toArray⟩
theorem st_size (l : List UInt8) : (st l).size = l.length := str_size l
theorem st_append (a b : List UInt8) : st a ++ st b = st (a ++ b) := ByteArray.ext (by rw [ByteArray.data_append]; simp [st])
theorem st_data (t : ByteArray) : st t.data.toList = t := by simp [st]
theorem st_take (t : ByteArray) (k : Nat) : t.extract 0 k = st (t.data.toList.take k) := by
  have h := ext_take t.data.toList k
  rw [show (⟨t.data.toList.toArray⟩ : ByteArray) = t from st_data t] at h
  exact h
theorem cut_pre (z y : ByteArray) (a b : List UInt8) (hz : z = st (a ++ b)) (hy : y = st a) : ∀ W, (Instr.slice 9 (.string z) none (some (.int .i64 (y.size : Int))) none).run Try.prog W = .ok (.string y) W := fun W => by
  subst hz hy
  rw [run_slice_string_h W 9 _ Try.underlying9 .i64 _ (by omega) (by rw [st_size, st_size, List.length_append]; omega), Int.toNat_natCast, st_size]
  congr 2
  rw [show st (a ++ b) = ⟨(a ++ b).toArray⟩ from rfl, ext_take, List.take_left' rfl]
  rfl

set_option maxHeartbeats 16000000 in
set_option maxRecDepth 100000 in
theorem order_any (most : Int) (A : Option Addr) (c : Nat) (l : List S30) (w : World) (hr : Kd.C k30 w A l.length l) (hc : l.length ≤ c) :
    Calls Try.prog 4 #[.int .i64 most, .slice A l.length c] w fun e w' => e = .returned (.bool true) ∧ Below w.heap.size w w' := by
  obtain ⟨W, hW⟩ : ∃ W, W = w.alloc (.cells #[.slice none 0 0, .int .i64 0, .int .i64 0] 37) := ⟨_, rfl⟩
  have hb : Below w.heap.size w W := by rw [hW]; exact (Below.refl _ _).alloc (Nat.le_refl _) _
  have hn : NoQ W (.pointer (some ⟨w.heap.size, 0, none⟩)) := Or.inr ⟨_, rfl, by rw [hW]; exact heap_alloc_new w _⟩
  have hn0 : NoQ W (.pointer none) := Or.inl rfl
  have HN := Aside0.mk hn
  have HN0 := Aside0.mk hn0
  have HB := Aside0.mk hb
  have HR := Aside0.mk hr
  have HFD := Aside0.mk (few_any A c l W (Kd.C_below hr hb) hc)
  have hee : ((⟨#[]⟩ : ByteArray) ++ ⟨#[]⟩) = ⟨#[]⟩ := rfl
  clear hn hn0 hb hr
  go_enter Try.func4, Try.ntmps4
  go_wp2_with fail
  rw [← hW]
  clear hW
  go_wp2_with fail
  refine (HN0.out.put ⟨#[97]⟩ (by decide)).mono ?_
  rintro e w' ⟨rfl, rfl⟩
  go_wp2_with fail
  refine (HN.out.put ⟨#[97]⟩ (by decide)).mono ?_
  rintro e w' ⟨rfl, rfl⟩
  go_wp2_with fail
  refine (HN0.out.len).mono ?_
  rintro e w' ⟨rfl, rfl⟩
  go_wp2_with fail
  refine (HN.out.len).mono ?_
  rintro e w' ⟨rfl, rfl⟩
  go_wp2_with fail
  refine (HN0.out.room).mono ?_
  rintro e w' ⟨rfl, rfl⟩
  go_wp2_with fail
  refine (HN.out.room).mono ?_
  rintro e w' ⟨rfl, rfl⟩
  go_wp2_with fail
  refine (HN0.out.most).mono ?_
  rintro e w' ⟨rfl, rfl⟩
  go_wp2_with fail
  refine (HN.out.most).mono ?_
  rintro e w' ⟨rfl, rfl⟩
  go_wp2_with fail
  refine (HN0.out.take 5).mono ?_
  rintro e w' ⟨rfl, rfl⟩
  go_wp2_with fail
  refine (HN.out.take 5).mono ?_
  rintro e w' ⟨rfl, rfl⟩
  go_wp2_with fail
  refine (HN0.out.peek 5).mono ?_
  rintro e w' ⟨rfl, rfl⟩
  go_wp2_with fail
  refine (HN.out.peek 5).mono ?_
  rintro e w' ⟨rfl, rfl⟩
  by_cases h0 : most < 0
  · go_wp2_with (first | (go_at_call 15; refine (lives_any _).mono ?_; rintro e w1 ⟨rfl, hb1⟩; have HB1 := Aside0.mk hb1; clear hb1))
    go_ret
    exact ⟨rfl, below_step HB.out HB1.out⟩
  · by_cases h1 : most > 2000
    · go_wp2_with (first | (go_at_call 15; refine (lives_any _).mono ?_; rintro e w1 ⟨rfl, hb1⟩; have HB1 := Aside0.mk hb1; clear hb1))
      go_ret
      exact ⟨rfl, below_step HB.out HB1.out⟩
    · by_cases hf : fewA l
      · have hfd := HFD.out
        rw [decide_eq_true hf] at hfd
        obtain ⟨m, rfl⟩ := Int.eq_ofNat_of_zero_le (show 0 ≤ most by omega)
        have hm : m ≤ 2000 := by omega
        have HF := Aside0.mk hf.2
        have hlen := hf.1
        have HFD2 := Aside0.mk hfd
        clear hf hfd HFD
        go_wp2_with (first | (go_at_call 13; refine HFD2.out.mono ?_; rintro e w1 ⟨rfl, hb1⟩; have HB1 := Aside0.mk hb1; clear hb1) | (go_at_call 14; refine (new_ok _ m (by omega)).mono ?_; rintro e w2 ⟨g, r, rfl, hg, hr, hq, hb2⟩; have HQ := Aside0.mk ((InQ.mk hq hb2 hg hr).lift (below_step HB.out HB1.out)); clear hq hb2 hg hr))
        go_loopw [8, 9, 72] (fun v8 v9 v72 wr => ∃ (i : Nat) (T q : List UInt8), v72 = .int .i64 (i : Int) ∧ v8 = .string (st (T ++ q)) ∧ v9 = .string (st T) ∧ Aside0 (i ≤ l.length ∧ InQ w wr g r m q ∧ (T ++ q).length ≤ 300 * i)) (fun _ _ v72 _ => l.length - (intOf v72).toNat)
        case atStart => exact ⟨0, [], [], rfl, rfl, rfl, ⟨by omega, HQ.out, by simp⟩⟩
        case round =>
          obtain ⟨i, T, q, rfl, rfl, rfl, HA⟩ := hrel
          obtain ⟨hi, hiq, hPl⟩ := HA.out
          have HW := Aside0.mk hiq
          have HPL := Aside0.mk hPl
          have hql := hiq.q.len_le
          clear HA hiq
          by_cases hlt : i < l.length
          · obtain ⟨ad, e, hx0, hx1, hx2⟩ := at_T30 (Kd.C_below HR.out HW.out.bel) (i : Int) (by omega) (by omega)
            cases e
            rw [rd30 l i hlt, Int.toNat_natCast] at hx0 hx1 hx2
            obtain ⟨x, hxe⟩ : ∃ x, x = l[i] := ⟨_, rfl⟩
            have hxs : x.f2.size ≤ 300 := HF.out x (by rw [hxe]; exact List.getElem_mem _)
            rw [← hxe] at hx0 hx1 hx2
            clear hxe
            obtain ⟨d, n, t⟩ := x
            simp only at hxs hx0 hx1 hx2
            have hTq : (T ++ q).length = T.length + q.length := List.length_append
            have hal : ∀ d : Int, InQ w (wr.alloc (.cells #[.int .i64 d, .int .i64 n, .string t] 30)) g r m q ∧ (wr.alloc (.cells #[.int .i64 d, .int .i64 n, .string t] 30)).heap[wr.heap.size]? = some (.cells #[.int .i64 d, .int .i64 n, .string t] 30 (0, 0)) := fun d => ⟨HW.out.below ((Below.refl _ _).alloc (Nat.le_refl _) _), heap_alloc_new wr _⟩
            have HAL := Aside0.mk hal
            have hglt := HW.out.q.glt
            have HNE := Aside0.mk (show wr.heap.size ≠ g ∧ wr.heap.size ≠ r by omega)
            clear hal hglt
            by_cases hd1 : d = 1
            · subst hd1
              obtain ⟨V, hVe⟩ : ∃ V, V = wr.alloc (.cells #[.int .i64 1, .int .i64 n, .string t] 30) := ⟨_, rfl⟩
              have hV := HAL.out 1
              rw [← hVe] at hV
              have HVB := Aside0.mk hV.1
              have HVK := Aside0.mk hV.2
              obtain ⟨k, hk⟩ : ∃ k, k = min t.size (m - q.length) := ⟨_, rfl⟩
              have hput := hV.1.q.put t (by omega)
              rw [← hk] at hput
              have HPUT := Aside0.mk hput
              have hkt : k ≤ t.size := by omega
              obtain ⟨e1, he1⟩ : ∃ e, e = st (t.data.toList.take k) := ⟨_, rfl⟩
              have hcutA : ∀ W, (Instr.slice 9 (.string t) none (some (.int .i64 (k : Int))) none).run Try.prog W = .ok (.string e1) W := fun W => by
                rw [run_slice_string_h W 9 t Try.underlying9 .i64 _ (by omega) (by omega), Int.toNat_natCast, st_take, he1]
              have htl : (t.data.toList.take k).length = k := by rw [List.length_take, data_length]; omega
              obtain ⟨q2, hq2e⟩ : ∃ q2, q2 = q ++ t.data.toList.take k := ⟨_, rfl⟩
              obtain ⟨zT, hzT⟩ : ∃ z, z = st T := ⟨_, rfl⟩
              obtain ⟨zP, hzP⟩ : ∃ z, z = st (T ++ q) := ⟨_, rfl⟩
              obtain ⟨zP2, hzP2⟩ : ∃ z, z = st (T ++ q2) := ⟨_, rfl⟩
              have hcat : zP ++ e1 = zP2 := by rw [hzP, he1, hzP2, st_append, hq2e, List.append_assoc]
              have hcutB := cut_pre zP2 zT T q2 hzP2 hzT
              have hq2l : q2.length = q.length + k := by rw [hq2e, List.length_append, htl]
              have s0 : zT.size = T.length := by rw [hzT, st_size]
              have s1 : zP2.size = T.length + q2.length := by rw [hzP2, st_size, List.length_append]
              have s2 : zP.size = T.length + q.length := by rw [hzP, st_size, List.length_append]
              have s3 : e1.size = k := by rw [he1, st_size, htl]
              have hz1 : zP.size + e1.size ≤ 100000 := by omega
              have hz2 : ¬ zP2.size < zT.size := by omega
              obtain ⟨n2, hn2⟩ : ∃ n2, n2 = q2.length := ⟨_, rfl⟩
              have hsub : (zP2.size : Int) - (zT.size : Int) = (n2 : Int) := by omega
              have hz3 : (zP2.size : Int) ≤ 100000 := by omega
              have hn2m : n2 ≤ m := by omega
              have hne2 : ((n2 : Int) + ((m : Int) - (n2 : Int)) != (m : Int)) = false := by rw [show (n2 : Int) + ((m : Int) - (n2 : Int)) = (m : Int) by omega]; simp
              rw [← hzP, ← hzT]
              rw [← hq2e] at HPUT
              have hP2l : (T ++ q2).length ≤ 300 * (i + 1) := by rw [List.length_append]; omega
              have HZ := Aside0.mk (And.intro hzP2 (And.intro hzT hn2))
              clear hV hk hput he1 htl hq2e hzT hzP hzP2 hq2l s0 s1 s2 s3 hTq hPl hql hn2
              go_wp2_with (first | (go_at_call 16; rw [← hVe]; refine HPUT.out.mono ?_; rintro e w3 ⟨rfl, hq3, ho3⟩; have h3 := HVB.out.step hq3 ho3; have hk3 := ho3.blk HVK.out (fun e => e.elim HNE.out.1 HNE.out.2); have hc32 : w3.cell? ⟨wr.heap.size, 2, none⟩ = some (.string t) := (blk_cell hk3 2).trans rfl; have hlen3 := h3.q.len; rw [← HZ.out.2.2] at hlen3; have hroom3 := h3.q.room; rw [← HZ.out.2.2] at hroom3; have HL3 := Aside0.mk hlen3; have HR3 := Aside0.mk hroom3; have H3 := Aside0.mk h3; clear hq3 ho3 h3 hk3 hlen3 hroom3) | (go_at_call 22; refine HL3.out.mono ?_; rintro e w' ⟨rfl, rfl⟩) | (go_at_call 23; refine HR3.out.mono ?_; rintro e w' ⟨rfl, rfl⟩))
              go_roundw
              case rel => exact ⟨i + 1, T, q2, by go_num, by rw [HZ.out.1], by rw [HZ.out.2.1], ⟨by omega, H3.out, hP2l⟩⟩
              case measure => simp [intOf]; omega
            · have hb1 : (d == 1) = false := beq_eq_false_iff_ne.2 hd1
              obtain ⟨V, hVe⟩ : ∃ V, V = wr.alloc (.cells #[.int .i64 d, .int .i64 n, .string t] 30) := ⟨_, rfl⟩
              have hV := HAL.out d
              rw [← hVe] at hV
              have HVB := Aside0.mk hV.1
              have HVK := Aside0.mk hV.2
              obtain ⟨p, hp⟩ : ∃ p, p = q.take n.toNat := ⟨_, rfl⟩
              obtain ⟨q2, hq2e⟩ : ∃ q2, q2 = q.drop n.toNat := ⟨_, rfl⟩
              have hpq : q = p ++ q2 := by rw [hp, hq2e, List.take_append_drop]
              have hpl : p.length ≤ n.toNat := by rw [hp, List.length_take]; omega
              have hpk := hV.1.q.peek n
              obtain ⟨zp, hzp⟩ : ∃ z, z = st p := ⟨_, rfl⟩
              rw [← hp, show (⟨p.toArray⟩ : ByteArray) = zp from hzp.symm] at hpk
              have HPK := Aside0.mk hpk
              have htk : ∀ {w : World}, IsQ w g r m q → Calls Try.prog 18 #[.pointer (some ⟨g, 0, none⟩), .int .i64 n] w fun e w' => e = .returned (.string zp) ∧ IsQ w' g r m q2 ∧ Only w w' (fun b => b = g) := fun h => h.take_as n zp q2 (by rw [← hp, hzp]; rfl) hq2e.symm
              have HTK := Aside0.mk @htk
              obtain ⟨zT, hzT⟩ : ∃ z, z = st T := ⟨_, rfl⟩
              obtain ⟨zT2, hzT2⟩ : ∃ z, z = st (T ++ p) := ⟨_, rfl⟩
              obtain ⟨zP, hzP⟩ : ∃ z, z = st (T ++ q) := ⟨_, rfl⟩
              have hcat : zT ++ zp = zT2 := by rw [hzT, hzp, hzT2, st_append]
              have hP2 : zP = st ((T ++ p) ++ q2) := by rw [hzP, hpq, List.append_assoc]
              have hcutB := cut_pre zP zT2 (T ++ p) q2 hP2 hzT2
              have hql2 : q.length = p.length + q2.length := by rw [hpq, List.length_append]
              have s0 : zT.size = T.length := by rw [hzT, st_size]
              have s1 : zT2.size = T.length + p.length := by rw [hzT2, st_size, List.length_append]
              have s2 : zP.size = T.length + q.length := by rw [hzP, st_size, List.length_append]
              have s3 : zp.size = p.length := by rw [hzp, st_size]
              have hz1 : zT.size + zp.size ≤ 100000 := by omega
              have hz2 : ¬ zP.size < zT2.size := by omega
              obtain ⟨n2, hn2⟩ : ∃ n2, n2 = q2.length := ⟨_, rfl⟩
              have hsub : (zP.size : Int) - (zT2.size : Int) = (n2 : Int) := by omega
              have hz3 : (zP.size : Int) ≤ 100000 := by omega
              have hz4 : (zp.size : Int) ≤ 100000 := by omega
              have hmx : ¬ (if n < 0 then 0 else n) < (zp.size : Int) := by split <;> omega
              have hmx0 : n < 0 → ¬ (0 : Int) < (zp.size : Int) := by intro _; omega
              have hmx1 : ¬ n < 0 → ¬ n < (zp.size : Int) := by intro _; omega
              have hn2m : n2 ≤ m := by omega
              have hne2 : ((n2 : Int) + ((m : Int) - (n2 : Int)) != (m : Int)) = false := by rw [show (n2 : Int) + ((m : Int) - (n2 : Int)) = (m : Int) by omega]; simp
              rw [← hzP, ← hzT]
              have hP2l : ((T ++ p) ++ q2).length ≤ 300 * (i + 1) := by rw [List.length_append, List.length_append]; omega
              have HZ := Aside0.mk (And.intro hP2 (And.intro hzT2 hn2))
              clear hV hpk htk hp hq2e hpl hzT hzT2 hzP hzp hP2 hql2 s0 s1 s2 s3 hTq hPl hql hn2 hpq
              by_cases hn0 : n < 0
              · have hm2 := hmx0 hn0
                clear hmx0 hmx1 hmx
                go_wp2_with (first | (go_at_call 20; rw [← hVe]; refine HPK.out.mono ?_; rintro e w3 ⟨rfl, nd, hw3⟩; have h3 : InQ w w3 g r m q := (by rw [hw3]; exact ⟨HVB.out.q.same rfl, HVB.out.bel.trans (pw_below_drewN (Below.refl _ _) nd), HVB.out.g0, HVB.out.r0⟩); have hk3 : w3.heap[wr.heap.size]? = some (.cells #[.int .i64 d, .int .i64 n, .string t] 30 (0, 0)) := (by rw [hw3]; exact HVK.out); have hc31 : w3.cell? ⟨wr.heap.size, 1, none⟩ = some (.int .i64 n) := (blk_cell hk3 1).trans rfl; have H3 := Aside0.mk h3; have HK3 := Aside0.mk hk3; clear h3 hk3 hw3) | (go_at_call 18; refine (HTK.out H3.out.q).mono ?_; rintro e w4 ⟨rfl, hq4, ho4⟩; have h4 := H3.out.step1 hq4 ho4; have hk4 := ho4.blk HK3.out HNE.out.1; have hc41 : w4.cell? ⟨wr.heap.size, 1, none⟩ = some (.int .i64 n) := (blk_cell hk4 1).trans rfl; have hlen4 := h4.q.len; rw [← HZ.out.2.2] at hlen4; have hroom4 := h4.q.room; rw [← HZ.out.2.2] at hroom4; have HL4 := Aside0.mk hlen4; have HR4 := Aside0.mk hroom4; have H4 := Aside0.mk h4; clear hq4 ho4 h4 hk4 hlen4 hroom4) | (go_at_call 22; refine HL4.out.mono ?_; rintro e w' ⟨rfl, rfl⟩) | (go_at_call 23; refine HR4.out.mono ?_; rintro e w' ⟨rfl, rfl⟩))
                go_roundw
                case rel => exact ⟨i + 1, T ++ p, q2, by go_num, by rw [HZ.out.1], by rw [HZ.out.2.1], ⟨by omega, H4.out, hP2l⟩⟩
                case measure => simp [intOf]; omega
              · have hm2 := hmx1 hn0
                clear hmx0 hmx1 hmx
                go_wp2_with (first | (go_at_call 20; rw [← hVe]; refine HPK.out.mono ?_; rintro e w3 ⟨rfl, nd, hw3⟩; have h3 : InQ w w3 g r m q := (by rw [hw3]; exact ⟨HVB.out.q.same rfl, HVB.out.bel.trans (pw_below_drewN (Below.refl _ _) nd), HVB.out.g0, HVB.out.r0⟩); have hk3 : w3.heap[wr.heap.size]? = some (.cells #[.int .i64 d, .int .i64 n, .string t] 30 (0, 0)) := (by rw [hw3]; exact HVK.out); have hc31 : w3.cell? ⟨wr.heap.size, 1, none⟩ = some (.int .i64 n) := (blk_cell hk3 1).trans rfl; have H3 := Aside0.mk h3; have HK3 := Aside0.mk hk3; clear h3 hk3 hw3) | (go_at_call 18; refine (HTK.out H3.out.q).mono ?_; rintro e w4 ⟨rfl, hq4, ho4⟩; have h4 := H3.out.step1 hq4 ho4; have hk4 := ho4.blk HK3.out HNE.out.1; have hc41 : w4.cell? ⟨wr.heap.size, 1, none⟩ = some (.int .i64 n) := (blk_cell hk4 1).trans rfl; have hlen4 := h4.q.len; rw [← HZ.out.2.2] at hlen4; have hroom4 := h4.q.room; rw [← HZ.out.2.2] at hroom4; have HL4 := Aside0.mk hlen4; have HR4 := Aside0.mk hroom4; have H4 := Aside0.mk h4; clear hq4 ho4 h4 hk4 hlen4 hroom4) | (go_at_call 22; refine HL4.out.mono ?_; rintro e w' ⟨rfl, rfl⟩) | (go_at_call 23; refine HR4.out.mono ?_; rintro e w' ⟨rfl, rfl⟩))
                go_roundw
                case rel => exact ⟨i + 1, T ++ p, q2, by go_num, by rw [HZ.out.1], by rw [HZ.out.2.1], ⟨by omega, H4.out, hP2l⟩⟩
                case measure => simp [intOf]; omega
          · have htk : st T ++ st (q.take m) = st (T ++ q) := by rw [st_append, List.take_of_length_le hql]
            have hts := HW.out.q.take_as (m : Int) (st (q.take m)) [] (by rw [Int.toNat_natCast]; rfl) (by rw [Int.toNat_natCast]; exact List.drop_eq_nil_of_le hql)
            have hsz : (st T).size + (st (q.take m)).size ≤ 100000 := by
              rw [st_size, st_size, List.length_take]
              rw [List.length_append] at hPl
              omega
            obtain ⟨zT, hzT⟩ : ∃ z, z = st T := ⟨_, rfl⟩
            obtain ⟨zE, hzE⟩ : ∃ z, z = st (q.take m) := ⟨_, rfl⟩
            obtain ⟨zP, hzP⟩ : ∃ z, z = st (T ++ q) := ⟨_, rfl⟩
            rw [← hzT, ← hzE] at hsz htk
            rw [← hzP] at htk ⊢
            rw [← hzT]
            rw [← hzE] at hts
            have HTS := Aside0.mk hts
            clear hzT hzE hzP hPl hts hql
            go_wp2_with (first | (go_at_call 18; refine HTS.out.mono ?_; rintro e w3 ⟨rfl, hq3, ho3⟩; have H3 := Aside0.mk (HW.out.step1 hq3 ho3); clear hq3 ho3) | (go_at_call 15; refine (lives_any _).mono ?_; rintro e w4 ⟨rfl, hb4⟩; have HB4 := Aside0.mk hb4; clear hb4))
            go_ret
            exact ⟨rfl, below_step H3.out.bel HB4.out⟩
      · have hfd := HFD.out
        rw [decide_eq_false hf] at hfd
        have HF := Aside0.mk hfd
        clear hf hfd HFD
        go_wp2_with (first | (go_at_call 13; refine HF.out.mono ?_; rintro e w1 ⟨rfl, hb1⟩; have HB1 := Aside0.mk hb1; clear hb1) | (go_at_call 15; refine (lives_any _).mono ?_; rintro e w2 ⟨rfl, hb2⟩; have HB2 := Aside0.mk hb2; clear hb2))
        go_ret
        exact ⟨rfl, below_step (below_step HB.out HB1.out) HB2.out⟩

theorem abutmentlaw03_QueueOrder.calls (a0 : Int) (A1 : Option Addr) (c1 : Nat) (l1 : List S30) (r : Bool) (w : World) (hr1 : Kd.C k30 w A1 l1.length l1) (hc1 : l1.length ≤ c1) (h : r = true) :
    Calls Try.prog 4 #[.int .i64 a0, .slice A1 l1.length c1] w fun e w' => e = .returned (.bool r) ∧ Below w.heap.size w w' := by
  subst h
  exact order_any a0 A1 c1 l1 w hr1 hc1
namespace Pure
theorem QueueOrder (a0 : Int) (l1 : List S30) : true = true := rfl
end Pure
end Go.Proofs.Ytacglolggaobdaa.Qu
