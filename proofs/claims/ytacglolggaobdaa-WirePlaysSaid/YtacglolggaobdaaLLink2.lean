/- The contracts of the link's methods, of a link that New made: what writes. -/
import Derived.Test.YtacglolggaobdaaLLink
namespace Go.Proofs.Ytacglolggaobdaa.Qu
open Go.RowKit Go.Proofs.YtacglolggaobdaaW.PrintWords Go.Proofs.YtacglolggaobdaaW.PrintLast Go.Proofs.YtacglolggaobdaaW.PrintMore
attribute [local go_sem] max2_int min2_int max_two min_two max_three min_three max_four min_four
set_option linter.unusedVariables false
set_option linter.unusedSimpArgs false

theorem cut_st (M : List UInt8) (k : Nat) (hk : k ≤ M.length) : ∀ W, (Instr.slice 9 (.string (st M)) (some (.int .i64 (k : Int))) none none).run Try.prog W = .ok (.string (st (M.drop k))) W := fun W => by
  rw [run_slice_string_l W 9 _ Try.underlying9 .i64 _ (by omega) (by rw [st_size]; omega), Int.toNat_natCast]
  congr 2
  exact ext_drop M k _ (by rw [st_size]; exact Nat.le_refl _)
theorem cut_st0 (M : List UInt8) (k : Nat) (hk : k ≤ M.length) : ∀ W, (Instr.slice 9 (.string (st M)) none (some (.int .i64 (k : Int))) none).run Try.prog W = .ok (.string (st (M.take k))) W := fun W => by
  rw [run_slice_string_h W 9 _ Try.underlying9 .i64 _ (by omega) (by rw [st_size]; omega), Int.toNat_natCast]
  congr 2
  exact ext_take M k

def FillP (w : World) (L : Lk) (m : Nat) (I O M : List UInt8) (e s : Bool) (x : Ending) (w' : World) : Prop :=
  x = .returned (.tuple #[]) ∧ LS w' L m I (O ++ M.take (min M.length (m - O.length))) (M.drop (min M.length (m - O.length))) e s ∧ Only w w' L.S
set_option maxHeartbeats 4000000 in
set_option maxRecDepth 100000 in
theorem LS.fill {w : World} {L : Lk} {m : Nat} {I O M : List UInt8} {e s : Bool} (h : LS w L m I O M e s) (hM : M.length ≤ 1000000) :
    Calls Try.prog 78 #[.pointer (some ⟨L.k, 0, none⟩)] w (FillP w L m I O M e s) := by
  have h' := h.drewN 1
  have c1 := h.hdr.c1
  have c2 := h.hdr.c2
  have f2 := blk_frozen h.hdr 2
  obtain ⟨kk, hkk⟩ : ∃ kk, kk = min M.length (m - O.length) := ⟨_, rfl⟩
  have hput := IsQ.put (w := w.drew) (h.qo.same rfl) (st M) (by rw [st_size]; omega)
  rw [st_size, data_st, ← hkk] at hput
  have HP := Aside0.mk hput
  have hcut := cut_st M kk (by omega)
  obtain ⟨z, hz⟩ : ∃ z, z = st M := ⟨_, rfl⟩
  obtain ⟨z2, hz2⟩ : ∃ z, z = st (M.drop kk) := ⟨_, rfl⟩
  rw [← hz] at c2 hcut HP
  rw [← hz2] at hcut
  have H := Aside0.mk h
  have HZ2 := Aside0.mk hz2
  have HZ := Aside0.mk hz
  have HK := Aside0.mk hkk
  clear h h' hput hkk hz hz2
  go_enter Try.func78, Try.ntmps78
  -- region fill
  refine start_ (n := 18) (S := fun w' => w'.cell? ⟨L.k, 1, none⟩ = some (.pointer (some ⟨L.go, 0, none⟩)) ∧ w'.cell? ⟨L.k, 2, none⟩ = some (.string z)) (ds := [17]) #[false, false, false, false, false, false, false, false, false, false, false, false, false, false, false, false, false, false] (by kernel_rfl) rfl rfl ⟨c1, c2⟩ (fun hHeld => ?_)
  refine pure_ (i := 0) (N := (some 2)) (v := ?_) (a' := ?_) #[true, false, false, false, false, false, false, false, false, false, false, false, false, false, false, false, false, false] rfl rfl (by kernel_rfl) (fun _ _ _ h => h) (Or.inl ⟨by rfl, ?_⟩) ?_ ?_
  rotate_left
  · intro w'
    go_simp
    with_reducible rfl
  rotate_left
  · simp only [Act.put, List.setIfInBounds_toArray, List.set_cons_zero, List.set_cons_succ, i64_w, i32_w]
    rfl
  refine pure_ (i := 1) (N := (some 3)) (v := ?_) (a' := ?_) #[true, true, false, false, false, false, false, false, false, false, false, false, false, false, false, false, false, false] rfl rfl (by kernel_rfl) (fun _ _ _ h => h) (Or.inl ⟨by rfl, ?_⟩) ?_ ?_
  rotate_left
  · intro w'
    go_simp
    with_reducible rfl
  rotate_left
  · simp only [Act.put, List.setIfInBounds_toArray, List.set_cons_zero, List.set_cons_succ, i64_w, i32_w]
    rfl
  refine pure_ (i := 2) (N := (some 4)) (v := ?_) (a' := ?_) #[true, true, true, false, false, false, false, false, false, false, false, false, false, false, false, false, false, false] rfl rfl (by kernel_rfl) (fun _ _ _ h => h) (Or.inl ⟨by rfl, ?_⟩) ?_ ?_
  rotate_left
  · intro w'
    go_simp
    with_reducible rfl
  rotate_left
  · simp only [Act.put, List.setIfInBounds_toArray, List.set_cons_zero, List.set_cons_succ, i64_w, i32_w]
    rfl
  refine pure_ (i := 3) (N := (some 5)) (v := ?_) (a' := ?_) #[true, true, true, true, false, false, false, false, false, false, false, false, false, false, false, false, false, false] rfl rfl (by kernel_rfl) (fun _ _ _ h => h) (Or.inl ⟨by rfl, ?_⟩) ?_ ?_
  rotate_left
  · intro w'
    go_simp
    with_reducible rfl
  rotate_left
  · simp only [Act.put, List.setIfInBounds_toArray, List.set_cons_zero, List.set_cons_succ, i64_w, i32_w]
    rfl
  refine take_ (i := 4) (N := (some 6)) (v := ?_) (a' := ?_) #[true, true, true, true, true, false, false, false, false, false, false, false, false, false, false, false, false, false] rfl rfl (by kernel_rfl) (fun _ _ _ h => h) (Or.inl ⟨by rfl, ?_⟩) hHeld ?_ ?_
  rotate_left
  · rintro w' ⟨s1, s2⟩
    go_simp
    with_reducible rfl
  rotate_left
  · simp only [Act.put, List.setIfInBounds_toArray, List.set_cons_zero, List.set_cons_succ, i64_w, i32_w]
    rfl
  refine pure_ (i := 5) (N := (some 7)) (v := ?_) (a' := ?_) #[true, true, true, true, true, true, false, false, false, false, false, false, false, false, false, false, false, false] rfl rfl (by kernel_rfl) (fun _ _ _ h => h) (Or.inl ⟨by rfl, ?_⟩) ?_ ?_
  rotate_left
  · intro w'
    go_simp
    with_reducible rfl
  rotate_left
  · simp only [Act.put, List.setIfInBounds_toArray, List.set_cons_zero, List.set_cons_succ, i64_w, i32_w]
    rfl
  refine pure_ (i := 6) (N := (some 8)) (v := ?_) (a' := ?_) #[true, true, true, true, true, true, true, false, false, false, false, false, false, false, false, false, false, false] rfl rfl (by kernel_rfl) (fun _ _ _ h => h) (Or.inl ⟨by rfl, ?_⟩) ?_ ?_
  rotate_left
  · intro w'
    go_simp
    with_reducible rfl
  rotate_left
  · simp only [Act.put, List.setIfInBounds_toArray, List.set_cons_zero, List.set_cons_succ, i64_w, i32_w]
    rfl
  refine pure_ (i := 7) (N := (some 9)) (v := ?_) (a' := ?_) #[true, true, true, true, true, true, true, true, false, false, false, false, false, false, false, false, false, false] rfl rfl (by kernel_rfl) (fun _ _ _ h => h) (Or.inl ⟨by rfl, ?_⟩) ?_ ?_
  rotate_left
  · intro w'
    go_simp
    with_reducible rfl
  rotate_left
  · simp only [Act.put, List.setIfInBounds_toArray, List.set_cons_zero, List.set_cons_succ, i64_w, i32_w]
    rfl
  refine take_ (i := 8) (N := (some 10)) (v := ?_) (a' := ?_) #[true, true, true, true, true, true, true, true, true, false, false, false, false, false, false, false, false, false] rfl rfl (by kernel_rfl) (fun _ _ _ h => h) (Or.inl ⟨by rfl, ?_⟩) hHeld ?_ ?_
  rotate_left
  · rintro w' ⟨s1, s2⟩
    go_simp
    with_reducible rfl
  rotate_left
  · simp only [Act.put, List.setIfInBounds_toArray, List.set_cons_zero, List.set_cons_succ, i64_w, i32_w]
    rfl
  refine pure_ (i := 9) (N := (some 11)) (v := ?_) (a' := ?_) #[true, true, true, true, true, true, true, true, true, true, false, false, false, false, false, false, false, false] rfl rfl (by kernel_rfl) (fun _ _ _ h => h) (Or.inl ⟨by rfl, ?_⟩) ?_ ?_
  rotate_left
  · intro w'
    go_simp
    with_reducible rfl
  rotate_left
  · simp only [Act.put, List.setIfInBounds_toArray, List.set_cons_zero, List.set_cons_succ, i64_w, i32_w]
    rfl
  refine pure_ (i := 10) (N := (some 12)) (v := ?_) (a' := ?_) #[true, true, true, true, true, true, true, true, true, true, true, false, false, false, false, false, false, false] rfl rfl (by kernel_rfl) (fun _ _ _ h => h) (Or.inl ⟨by rfl, ?_⟩) ?_ ?_
  rotate_left
  · intro w'
    go_simp
    with_reducible rfl
  rotate_left
  · simp only [Act.put, List.setIfInBounds_toArray, List.set_cons_zero, List.set_cons_succ, i64_w, i32_w]
    rfl
  refine pure_ (i := 11) (N := (some 13)) (v := ?_) (a' := ?_) #[true, true, true, true, true, true, true, true, true, true, true, true, false, false, false, false, false, false] rfl rfl (by kernel_rfl) (fun _ _ _ h => h) (Or.inl ⟨by rfl, ?_⟩) ?_ ?_
  rotate_left
  · intro w'
    go_simp
    with_reducible rfl
  rotate_left
  · simp only [Act.put, List.setIfInBounds_toArray, List.set_cons_zero, List.set_cons_succ, i64_w, i32_w]
    rfl
  refine take_ (i := 12) (N := (some 14)) (v := ?_) (a' := ?_) #[true, true, true, true, true, true, true, true, true, true, true, true, true, false, false, false, false, false] rfl rfl (by kernel_rfl) (fun _ _ _ h => h) (Or.inl ⟨by rfl, ?_⟩) hHeld ?_ ?_
  rotate_left
  · rintro w' ⟨s1, s2⟩
    go_simp
    with_reducible rfl
  rotate_left
  · simp only [Act.put, List.setIfInBounds_toArray, List.set_cons_zero, List.set_cons_succ, i64_w, i32_w]
    rfl
  refine one_ (i := 13) (N := (some 15)) #[true, true, true, true, true, true, true, true, true, true, true, true, true, true, false, false, false, false] rfl rfl (by kernel_rfl) (by decide) (fun K hK => ?_)
  refine goes_ Try.func16 (by kernel_rfl) rfl #[.pointer (some ⟨L.go, 0, none⟩), .string z] (by rfl) rfl rfl (by (try simp only [List.map_toArray, List.map_cons, List.map_nil]); first | done | rfl) ?_
  refine HP.out.mono ?_
  rintro e w2 ⟨rfl, hq2, ho2⟩
  have hh2 : LH w2 L.k L.gi L.go M _ _ := ho2.blk (show w.drew.heap[L.k]? = _ from H.out.hdr) (fun e => e.elim H.out.ne.2.2.1 H.out.ne.2.2.2.1)
  have hc1 := hh2.c1
  have hc2 : w2.cell? ⟨L.k, 2, none⟩ = some (.string z) := by rw [HZ.out]; exact hh2.c2
  have hf2 := blk_frozen hh2 2
  have HH2 := Aside0.mk hh2
  have HQ2 := Aside0.mk hq2
  have HO2 := Aside0.mk ho2
  clear hq2 ho2 hh2
  refine ⟨_, rfl, ?_⟩
  refine hK.out _ _ ⟨hc1, hc2⟩ (fun hHeld => ?_)
  clear hK K
  refine norm_ (a' := ?_) ?_ ?_
  rotate_left
  · show Act.put _ (some 15) _ = _
    simp only [Act.put, List.setIfInBounds_toArray, List.set_cons_zero, List.set_cons_succ, i64_w, i32_w]
    rfl
  refine pure_ (i := 14) (N := (some 16)) (v := ?_) (a' := ?_) #[true, true, true, true, true, true, true, true, true, true, true, true, true, true, true, false, false, false] rfl rfl (by kernel_rfl) (fun _ _ _ h => h) (Or.inl ⟨by rfl, ?_⟩) ?_ ?_
  rotate_left
  · intro w'
    go_simp
    with_reducible rfl
  rotate_left
  · simp only [Act.put, List.setIfInBounds_toArray, List.set_cons_zero, List.set_cons_succ, i64_w, i32_w]
    rfl
  refine pure_ (i := 15) (N := (some 17)) (v := ?_) (a' := ?_) #[true, true, true, true, true, true, true, true, true, true, true, true, true, true, true, true, false, false] rfl rfl (by kernel_rfl) (fun _ _ _ h => h) (Or.inl ⟨by rfl, ?_⟩) ?_ ?_
  rotate_left
  · intro w'
    go_simp
    with_reducible rfl
  rotate_left
  · simp only [Act.put, List.setIfInBounds_toArray, List.set_cons_zero, List.set_cons_succ, i64_w, i32_w]
    rfl
  refine pure_ (i := 16) (N := (some 18)) (v := ?_) (a' := ?_) #[true, true, true, true, true, true, true, true, true, true, true, true, true, true, true, true, true, false] rfl rfl (by kernel_rfl) (fun _ _ _ h => h) (Or.inl ⟨by rfl, ?_⟩) ?_ ?_
  rotate_left
  · intro w'
    go_simp
    with_reducible rfl
  rotate_left
  · simp only [Act.put, List.setIfInBounds_toArray, List.set_cons_zero, List.set_cons_succ, i64_w, i32_w]
    rfl
  refine last_ (i := 17) (N := none) #[true, true, true, true, true, true, true, true, true, true, true, true, true, true, true, true, true, true] rfl rfl (by kernel_rfl) (by decide) (fun K hK => ?_)
  refine skip_ (w1 := ?_) (by rfl) rfl ?_ ?_
  rotate_left
  · go_simp
    rfl
  refine hK.out _ _ ?_
  clear hK K
  refine done_ (by kernel_rfl) ?_
  -- end fill
  go_wp2
  go_end0
  have hn := H.out.ne
  have ho : Only w2 (w2.setCell ⟨L.k, 2, none⟩ (.string z2)) (fun b => b = L.k) := Only.setCell (S := fun b => b = L.k) (Only.refl w2 _) (p := ⟨L.k, 2, none⟩) rfl _
  have h0 : Only w w2 (fun b => b = L.go ∨ b = L.ro) := ((Only.refl w _).drew).trans HO2.out
  refine ⟨rfl, ?_, ?_⟩
  · rw [← HK.out]
    refine ⟨by rw [HZ2.out]; exact HH2.out.setM _, ?_, HQ2.out.only ho (fun e => hn.2.2.1 e.symm) (fun e => hn.2.2.2.1 e.symm), H.out.gg, H.out.rr⟩
    refine (H.out.qi.only h0 ?_ ?_).only ho (fun e => hn.1 e.symm) (fun e => hn.2.1 e.symm)
    · rintro (e | e); exact hn.2.2.2.2.2.1 e; exact hn.2.2.2.2.2.2.1 e
    · rintro (e | e); exact hn.2.2.2.2.2.2.2.1 e; exact hn.2.2.2.2.2.2.2.2.1 e
  · refine (h0.mono ?_).trans (ho.mono ?_)
    · rintro b _ (e | e); exact Or.inr (Or.inr (Or.inr (Or.inl e))); exact Or.inr (Or.inr (Or.inr (Or.inr e)))
    · intro b _ e; exact Or.inl e

theorem Lk.S_k (L : Lk) : L.S L.k := Or.inl rfl
set_option maxHeartbeats 4000000 in
theorem LS.write0 {w : World} {L : Lk} {m : Nat} {I O M : List UInt8} {e : Bool} (h : LS w L m I O M e true) (t : ByteArray) :
    Calls Try.prog 37 #[.pointer (some ⟨L.k, 0, none⟩), .string t] w fun x w' => x = .returned (.tuple #[]) ∧ w = w' := by
  have HM := Aside0.mk (made_any w L.k L.gi h.hdr.c0)
  have c4 := h.hdr.c4
  clear h
  go_enter Try.func37, Try.ntmps37
  go_wp2_with (first | (go_at_call 77; refine HM.out.mono ?_; rintro e w' ⟨rfl, rfl⟩))
  go_end0
  exact ⟨rfl, rfl⟩
set_option maxHeartbeats 4000000 in
theorem LS.write {w : World} {L : Lk} {m : Nat} {I O M : List UInt8} {e : Bool} (h : LS w L m I O M e false) (t : ByteArray) (hM : M.length + t.size ≤ 1000000) :
    Calls Try.prog 37 #[.pointer (some ⟨L.k, 0, none⟩), .string t] w (FillP w L m I O (M ++ t.data.toList) e false) := by
  have HM := Aside0.mk (made_any w L.k L.gi h.hdr.c0)
  have c2 := h.hdr.c2
  have c4 := h.hdr.c4
  have f2 := blk_frozen h.hdr 2
  have hs := st_size M
  have hcat : st M ++ t = st (M ++ t.data.toList) := by rw [← st_append, st_data]
  obtain ⟨z, hz⟩ : ∃ z, z = st M := ⟨_, rfl⟩
  obtain ⟨z2, hz2⟩ : ∃ z, z = st (M ++ t.data.toList) := ⟨_, rfl⟩
  rw [← hz] at c2 hs hcat
  rw [← hz2] at hcat
  have hz1 : z.size + t.size ≤ 1000000 := by omega
  have ho : Only w (w.setCell ⟨L.k, 2, none⟩ (.string z2)) (fun b => b = L.k) := Only.setCell (S := fun b => b = L.k) (Only.refl w _) (p := ⟨L.k, 2, none⟩) rfl _
  have hn := h.ne
  have h2 : LS (w.setCell ⟨L.k, 2, none⟩ (.string z2)) L m I O (M ++ t.data.toList) e false :=
    ⟨by rw [hz2]; exact h.hdr.setM _, h.qi.only ho (fun e => hn.1 e.symm) (fun e => hn.2.1 e.symm), h.qo.only ho (fun e => hn.2.2.1 e.symm) (fun e => hn.2.2.2.1 e.symm), h.gg, h.rr⟩
  have HF := Aside0.mk (h2.fill (by rw [List.length_append, data_length]; omega))
  have HO := Aside0.mk ho
  clear h h2 hs hz hz2 hM ho hn
  go_enter Try.func37, Try.ntmps37
  go_wp2_with (first | (go_at_call 77; refine HM.out.mono ?_; rintro e w' ⟨rfl, rfl⟩) | (go_at_call 78; refine HF.out.mono ?_; rintro e w3 ⟨rfl, hl, ho3⟩; have HL := Aside0.mk hl; have HO3 := Aside0.mk ho3; clear hl ho3))
  go_end0
  exact ⟨rfl, HL.out, (HO.out.mono (fun b _ e => Or.inl e)).trans HO3.out⟩
set_option maxHeartbeats 4000000 in
theorem LS.live {w : World} {L : Lk} {m : Nat} {I O M : List UInt8} {e s : Bool} (h : LS w L m I O M e s) :
    Calls Try.prog 34 #[.pointer (some ⟨L.k, 0, none⟩)] w fun x w' => x = .returned (.bool (!s)) ∧ w = w' := by
  have HM := Aside0.mk (made_any w L.k L.gi h.hdr.c0)
  have c4 := h.hdr.c4
  clear h
  go_enter Try.func34, Try.ntmps34
  go_wp2_with (first | (go_at_call 77; refine HM.out.mono ?_; rintro e w' ⟨rfl, rfl⟩))
  go_ret
  exact ⟨rfl, rfl⟩
set_option maxHeartbeats 4000000 in
theorem LS.over {w : World} {L : Lk} {m : Nat} {I O M : List UInt8} {e s : Bool} (h : LS w L m I O M e s) (hM : M.length ≤ 1000000) :
    Calls Try.prog 33 #[.pointer (some ⟨L.k, 0, none⟩)] w fun x w' => x = .returned (.bool (s && (O ++ M).isEmpty)) ∧ ∃ nd, w' = w.drewN nd := by
  have HM := Aside0.mk (made_any w L.k L.gi h.hdr.c0)
  have c4 := h.hdr.c4
  have HW := Aside0.mk (h.waits hM)
  clear h
  cases s with
  | false =>
    go_enter Try.func33, Try.ntmps33
    go_wp2_with (first | (go_at_call 77; refine HM.out.mono ?_; rintro e w' ⟨rfl, rfl⟩))
    go_ret
    exact ⟨rfl, 0, rfl⟩
  | true =>
    obtain ⟨n, hn⟩ : ∃ n, n = (O ++ M).length := ⟨_, rfl⟩
    have he : ((n : Int) == 0) = (O ++ M).isEmpty := by rw [hn]; cases (O ++ M) <;> simp; omega
    rw [← hn] at HW
    have HE := Aside0.mk he
    clear hn he
    go_enter Try.func33, Try.ntmps33
    go_wp2_with (first | (go_at_call 77; refine HM.out.mono ?_; rintro e w' ⟨rfl, rfl⟩) | (go_at_call 31; refine HW.out.mono ?_; rintro e w' ⟨rfl, nd, rfl⟩))
    go_ret
    refine ⟨?_, nd, rfl⟩
    rw [Bool.true_and, ← HE.out]
    first | rfl | simp
set_option maxHeartbeats 4000000 in
theorem LS.shut {w : World} {L : Lk} {m : Nat} {I O M : List UInt8} {e s : Bool} (h : LS w L m I O M e s) :
    Calls Try.prog 38 #[.pointer (some ⟨L.k, 0, none⟩)] w fun x w' => x = .returned (.tuple #[]) ∧ LS w' L m [] O M e true ∧ Only w w' L.S := by
  have HM := Aside0.mk (made_any w L.k L.gi h.hdr.c0)
  have c4 := h.hdr.c4
  have f4 := blk_frozen h.hdr 4
  have hn := h.ne
  have ho : Only w (w.setCell ⟨L.k, 4, none⟩ (.bool true)) (fun b => b = L.k) := Only.setCell (S := fun b => b = L.k) (Only.refl w _) (p := ⟨L.k, 4, none⟩) rfl _
  have h2 : LS (w.setCell ⟨L.k, 4, none⟩ (.bool true)) L m I O M e true :=
    ⟨h.hdr.setS true, h.qi.only ho (fun e => hn.1 e.symm) (fun e => hn.2.1 e.symm), h.qo.only ho (fun e => hn.2.2.1 e.symm) (fun e => hn.2.2.2.1 e.symm), h.gg, h.rr⟩
  have H2 := Aside0.mk h2
  have HO := Aside0.mk ho
  clear h h2 ho hn
  go_enter Try.func38, Try.ntmps38
  go_wp2_with (first | (go_at_call 77; refine HM.out.mono ?_; rintro e w' ⟨rfl, rfl⟩))
  generalize hWe : w.setCell ⟨L.k, 4, none⟩ (.bool true) = W at *
  have c0 := H2.out.hdr.c0
  have ht := IsQ.take_as (w := W.drew) (H2.out.qi.same rfl) (I.length : Int) (st I) [] (by rw [Int.toNat_natCast, List.take_of_length_le (Nat.le_refl _)]; rfl) (by rw [Int.toNat_natCast, List.drop_eq_nil_of_le (Nat.le_refl _)])
  have hl := IsQ.len (w := W.drew) (H2.out.qi.same rfl)
  have HT := Aside0.mk ht
  have HL := Aside0.mk hl
  clear hWe ht hl
  go_region_held3 (fun w' => w'.cell? ⟨L.k, 0, none⟩ = some (.pointer (some ⟨L.gi, 0, none⟩))) (first | assumption | go_keep)
    (first | (go_at_call 22; refine HL.out.mono ?_; rintro e w' ⟨rfl, rfl⟩) | (go_at_call 18; refine HT.out.mono ?_; rintro e w3 ⟨rfl, hq3, ho3⟩; have hh3 : LH w3 L.k L.gi L.go _ _ _ := ho3.blk (show W.drew.heap[L.k]? = _ from H2.out.hdr) H2.out.ne.1; have hc03 := hh3.c0; have HH3 := Aside0.mk hh3; have HQ3 := Aside0.mk hq3; have HO3 := Aside0.mk ho3; clear hq3 ho3 hh3))
  go_wp2
  go_end0
  have hn := H2.out.ne
  have h0 : Only W w3 (fun b => b = L.gi) := ((Only.refl W _).drew).trans HO3.out
  exact ⟨rfl, ⟨HH3.out, HQ3.out, H2.out.qo.only h0 (fun e => hn.2.2.2.2.2.1 e.symm) (fun e => hn.2.2.2.2.2.2.1 e.symm), H2.out.gg, H2.out.rr⟩, (HO.out.mono (fun b _ e => Or.inl e)).trans (h0.mono (fun b _ e => Or.inr (Or.inl e)))⟩
end Go.Proofs.Ytacglolggaobdaa.Qu
