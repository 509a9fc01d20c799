/- link.Take, of a link that New made. -/
import Derived.Test.YtacglolggaobdaaLLink2
namespace Go.Proofs.Ytacglolggaobdaa.Qu
open Go.RowKit Go.Proofs.YtacglolggaobdaaW.PrintWords Go.Proofs.YtacglolggaobdaaW.PrintLast Go.Proofs.YtacglolggaobdaaW.PrintMore
attribute [local go_sem] max2_int min2_int max_two min_two max_three min_three max_four min_four
set_option linter.unusedVariables false
set_option linter.unusedSimpArgs false

theorem LS.takeO {w : World} {L : Lk} {m : Nat} {I O M : List UInt8} {e s : Bool} (h : LS w L m I O M e s) (n : Int) :
    Calls Try.prog 18 #[.pointer (some ⟨L.go, 0, none⟩), .int .i64 n] w fun x w' => x = .returned (.string (st (O.take n.toNat))) ∧ LS w' L m I (O.drop n.toNat) M e s ∧ Only w w' (fun b => b = L.go) := by
  refine (h.qo.take n).mono ?_
  rintro x w' ⟨rfl, hq, ho⟩
  have hn := h.ne
  exact ⟨rfl, ⟨ho.blk h.hdr hn.2.2.1, h.qi.only ho hn.2.2.2.2.2.1 hn.2.2.2.2.2.2.2.1, hq, h.gg, h.rr⟩, ho⟩
theorem LS.ltS {w : World} {L : Lk} {m : Nat} {I O M : List UInt8} {e s : Bool} (h : LS w L m I O M e s) : ∀ b, L.S b → b < w.heap.size := by
  have h1 := h.qi.glt
  have h2 := h.qo.glt
  have h3 := blk_lt h.hdr
  rintro b (rfl | rfl | rfl | rfl | rfl)
  · exact h3
  · exact h1.1
  · exact h1.2.1
  · exact h2.1
  · exact h2.2.1
def Parts (w : World) (pb : Nat) (a b : ByteArray) : Prop := w.heap[pb]? = some (.cells #[.string a, .string b] 92 (0, 0))
theorem Parts.c0 {w : World} {pb : Nat} {a b : ByteArray} (h : Parts w pb a b) : w.cell? ⟨pb, 0, none⟩ = some (.string a) := (blk_cell h 0).trans rfl
theorem Parts.c1 {w : World} {pb : Nat} {a b : ByteArray} (h : Parts w pb a b) : w.cell? ⟨pb, 1, none⟩ = some (.string b) := (blk_cell h 1).trans rfl
theorem Parts.set0 {w : World} {pb : Nat} {a b : ByteArray} (h : Parts w pb a b) (x : ByteArray) : Parts (w.setCell ⟨pb, 0, none⟩ (.string x)) pb x b := blk_set h 0 _
theorem Parts.set1 {w : World} {pb : Nat} {a b : ByteArray} (h : Parts w pb a b) (x : ByteArray) : Parts (w.setCell ⟨pb, 1, none⟩ (.string x)) pb a x := blk_set h 1 _

def TakeP (w : World) (L : Lk) (m : Nat) (I : List UInt8) (R O M : List UInt8) (e s : Bool) (x : Ending) (w' : World) : Prop :=
  x = .returned (.string (st R)) ∧ LS w' L m I (O ++ M.take (min M.length (m - O.length))) (M.drop (min M.length (m - O.length))) e s ∧ Only w w' L.S
set_option maxHeartbeats 8000000 in
set_option maxRecDepth 100000 in
theorem LS.take_pos {w : World} {L : Lk} {m : Nat} {I O M : List UInt8} {e s : Bool} (h : LS w L m I O M e s) (hM : M.length ≤ 1000000) (n : Int) (hn : 0 < n) (hn2 : n ≤ 9223372036854775807) (rl : Nat) (hrl : rl = min (n.toNat - (O.take n.toNat).length) M.length) :
    Calls Try.prog 40 #[.pointer (some ⟨L.k, 0, none⟩), .int .i64 n] w (TakeP w L m I (O.take n.toNat ++ M.take rl) (O.drop n.toNat) (M.drop rl) e s) := by
  have HM := Aside0.mk (made_any w L.k L.gi h.hdr.c0)
  have hlt := h.ltS
  obtain ⟨pb, hpb⟩ : ∃ pb, pb = w.heap.size := ⟨_, rfl⟩
  have hps : ∀ b, L.S b → b ≠ pb := fun b hb e => by have := hlt b hb; omega
  obtain ⟨wA, hwA⟩ : ∃ wA, wA = w.alloc (.cells #[.string ⟨#[]⟩, .string ⟨#[]⟩] 92) := ⟨_, rfl⟩
  have hoA : Only w wA L.S := by rw [hwA]; exact (Only.refl w _).alloc _
  have hpA : Parts wA pb ⟨#[]⟩ ⟨#[]⟩ := by rw [hwA, hpb]; exact heap_alloc_new w _
  have hA : LS wA L m I O M e s := h.only (Only.of_below (S := fun _ => False) (by rw [hwA]; exact (Below.refl _ _).alloc (Nat.le_refl _) _)) (fun _ _ h => h)
  have hc1 := h.hdr.c1
  have hcA := hA.hdr.c1
  rw [hwA] at hcA
  have hT := hA.takeO n
  obtain ⟨p0, hp0⟩ : ∃ p0, p0 = O.take n.toNat := ⟨_, rfl⟩
  rw [← hp0] at hrl hT ⊢
  have hpl : p0.length ≤ n.toNat := by rw [hp0, List.length_take]; omega
  have hpl2 : p0.length ≤ 65536 := by have := h.qo.len_le; have := h.qo.cap; rw [hp0, List.length_take]; omega
  obtain ⟨z0, hz0⟩ : ∃ z, z = st p0 := ⟨_, rfl⟩
  have hz0s : z0.size = p0.length := by rw [hz0, st_size]
  rw [← hz0] at hT
  have HT := Aside0.mk hT
  have HPA := Aside0.mk hpA
  have HOA := Aside0.mk hoA
  have HPS := Aside0.mk hps
  have hcut1 := cut_st0 M rl (by omega)
  have hcut2 := cut_st M rl (by omega)
  have hms := st_size M
  obtain ⟨zM, hzM⟩ : ∃ z, z = st M := ⟨_, rfl⟩
  obtain ⟨zR, hzR⟩ : ∃ z, z = st (M.take rl) := ⟨_, rfl⟩
  obtain ⟨zN, hzN⟩ : ∃ z, z = st (M.drop rl) := ⟨_, rfl⟩
  rw [← hzM] at hcut1 hcut2 hms
  rw [← hzR] at hcut1
  rw [← hzN] at hcut2
  have hzRs : zR.size = rl := by rw [hzR, st_size, List.length_take]; omega
  have hmin : (if (zM.size : Int) < n - (z0.size : Int) then (zM.size : Int) else n - (z0.size : Int)) = (rl : Int) := by split <;> omega
  have hwr : IntKind.i64.wrap (n - (z0.size : Int)) = n - (z0.size : Int) := IntWalk.i64_in _ (by omega)
  have hmax : (if 0 < rl then (rl : Int) else 0) = (rl : Int) := by split <;> omega
  have hmax2 : (if (0 : Int) < (rl : Int) then (rl : Int) else 0) = (rl : Int) := by split <;> omega
  have hz0b : z0.size ≤ 65536 := by omega
  have hzMb : zM.size ≤ 1000000 := by omega
  have hcz : z0.size + zR.size ≤ 2000000 := by omega
  have hrlM : rl ≤ zM.size := by omega
  have HZ := Aside0.mk (And.intro hz0 (And.intro hzM (And.intro hzR hzN)))
  subst hpb
  have HM1 := Aside0.mk hM
  clear h hlt hps hoA hpA hA hT hp0 hpl hpl2 hz0 hz0s hzM hzR hzN hms hrl hM
  go_enter Try.func40, Try.ntmps40
  go_wp2_with (first | (go_at_call 77; refine HM.out.mono ?_; rintro e w' ⟨rfl, rfl⟩) | (go_at_call 18; rw [← hwA]; refine HT.out.mono ?_; rintro x w1 ⟨rfl, h1, ho1⟩; have hp1 : Parts w1 w.heap.size ⟨#[]⟩ ⟨#[]⟩ := ho1.blk HPA.out (fun e => HPS.out L.go (Or.inr (Or.inr (Or.inr (Or.inl rfl)))) e.symm); have hq0 := hp1.c0; have hf0 := blk_frozen hp1 0; have H1 := Aside0.mk h1; have HO1 := Aside0.mk ho1; have HP1 := Aside0.mk hp1; clear h1 ho1 hp1))
  generalize hW2 : w1.setCell ⟨w.heap.size, 0, none⟩ (.string z0) = W2
  have hnk := HPS.out L.k L.S_k
  have ho2 : Only w1 W2 (fun b => b = w.heap.size) := by rw [← hW2]; exact Only.setCell (S := fun b => b = w.heap.size) (Only.refl w1 _) (p := ⟨w.heap.size, 0, none⟩) rfl _
  have h2 : LS W2 L m I (O.drop n.toNat) M e s := H1.out.only ho2 HPS.out
  have hp2 : Parts W2 w.heap.size z0 ⟨#[]⟩ := by rw [← hW2]; exact HP1.out.set0 z0
  have hc22 : W2.cell? ⟨L.k, 2, none⟩ = some (.string zM) := by rw [HZ.out.2.1]; exact h2.hdr.c2
  have hq2 := hp2.c0
  have HO2 := Aside0.mk ho2
  have HP2 := Aside0.mk hp2
  have H2 := Aside0.mk h2
  clear ho2 h2 hp2 hq0 hf0 hW2 hc1 hcA hwA
  go_still_tail 17, (by kernel_rfl)
  go_wp2_with fail
  have h3 : LS W2.drew L m I (O.drop n.toNat) M e s := H2.out.drewN 1
  have hp3 : Parts W2.drew w.heap.size z0 ⟨#[]⟩ := HP2.out
  generalize hW3 : W2.drew = W3 at *
  have hc23 : W3.drew.cell? ⟨L.k, 2, none⟩ = some (.string zM) := by rw [HZ.out.2.1]; exact h3.hdr.c2
  have hq13 := hp3.c1
  have hf13 := blk_frozen hp3 1
  have hc24 : W3.cell? ⟨L.k, 2, none⟩ = some (.string zM) := by rw [HZ.out.2.1]; exact h3.hdr.c2
  have hf24 := blk_frozen h3.hdr 2
  obtain ⟨W4, hW4⟩ : ∃ W4, W4 = W3.drew.setCell ⟨w.heap.size, 1, none⟩ (.string zR) := ⟨_, rfl⟩
  have ho4 : Only W3 W4 (fun b => b = w.heap.size) := by rw [hW4]; exact Only.setCell (S := fun b => b = w.heap.size) ((Only.refl W3 _).drew) (p := ⟨w.heap.size, 1, none⟩) rfl _
  have h4 : LS W4 L m I (O.drop n.toNat) M e s := h3.only ho4 HPS.out
  have hp4 : Parts W4 w.heap.size z0 zR := by rw [hW4]; exact Parts.set1 (w := W3.drew) hp3 zR
  have hc25 : (W3.drew.setCell ⟨w.heap.size, 1, none⟩ (.string zR)).cell? ⟨L.k, 2, none⟩ = some (.string zM) := by rw [← hW4, HZ.out.2.1]; exact h4.hdr.c2
  have hf25 : (W3.drew.setCell ⟨w.heap.size, 1, none⟩ (.string zR)).frozen? ⟨L.k, 2, none⟩ = false := by rw [← hW4]; exact blk_frozen h4.hdr 2
  have HP3 := Aside0.mk hp3
  have H3 := Aside0.mk h3
  have H4 := Aside0.mk h4
  have HP4 := Aside0.mk hp4
  have HO4 := Aside0.mk ho4
  have HW4 := Aside0.mk hW4
  have HW3 := Aside0.mk hW3
  clear h3 hp3 h4 hp4 ho4 hW4 hW3
  -- region take
  refine start_ (n := 14) (S := fun w' => w'.cell? ⟨L.k, 2, none⟩ = some (.string zM)) (ds := [13]) #[false, false, false, false, false, false, false, false, false, false, false, false, false, false] (by kernel_rfl) rfl rfl hc23 (fun hHeld => ?_)
  refine pure_ (i := 0) (N := (some 36)) (v := ?_) (a' := ?_) #[true, false, false, false, false, false, false, false, false, false, false, false, false, false] rfl rfl (by kernel_rfl) (fun _ _ _ h => h) (Or.inl ⟨by rfl, ?_⟩) ?_ ?_
  rotate_left
  · intro w'
    go_simp
    with_reducible rfl
  rotate_left
  · simp only [Act.put, List.setIfInBounds_toArray, List.set_cons_zero, List.set_cons_succ, i64_w, i32_w]
    rfl
  refine pure_ (i := 1) (N := (some 37)) (v := ?_) (a' := ?_) #[true, true, false, false, false, false, false, false, false, false, false, false, false, false] rfl rfl (by kernel_rfl) (fun _ _ _ h => h) (Or.inl ⟨by rfl, ?_⟩) ?_ ?_
  rotate_left
  · intro w'
    go_simp
    with_reducible rfl
  rotate_left
  · simp only [Act.put, List.setIfInBounds_toArray, List.set_cons_zero, List.set_cons_succ, i64_w, i32_w]
    rfl
  refine pure_ (i := 2) (N := (some 38)) (v := ?_) (a' := ?_) #[true, true, true, false, false, false, false, false, false, false, false, false, false, false] rfl rfl (by kernel_rfl) (fun _ _ _ h => h) (Or.inl ⟨by rfl, ?_⟩) ?_ ?_
  rotate_left
  · intro w'
    go_simp
    with_reducible rfl
  rotate_left
  · simp only [Act.put, List.setIfInBounds_toArray, List.set_cons_zero, List.set_cons_succ, i64_w, i32_w]
    rfl
  refine pure_ (i := 3) (N := (some 39)) (v := ?_) (a' := ?_) #[true, true, true, true, false, false, false, false, false, false, false, false, false, false] rfl rfl (by kernel_rfl) (fun _ _ _ h => h) (Or.inl ⟨by rfl, ?_⟩) ?_ ?_
  rotate_left
  · intro w'
    go_simp
    with_reducible rfl
  rotate_left
  · simp only [Act.put, List.setIfInBounds_toArray, List.set_cons_zero, List.set_cons_succ, i64_w, i32_w]
    rfl
  refine pure_ (i := 4) (N := (some 40)) (v := ?_) (a' := ?_) #[true, true, true, true, true, false, false, false, false, false, false, false, false, false] rfl rfl (by kernel_rfl) (fun _ _ _ h => h) (Or.inl ⟨by rfl, ?_⟩) ?_ ?_
  rotate_left
  · intro w'
    go_simp
    with_reducible rfl
  rotate_left
  · simp only [Act.put, List.setIfInBounds_toArray, List.set_cons_zero, List.set_cons_succ, i64_w, i32_w]
    rfl
  refine take_ (i := 5) (N := (some 41)) (v := ?_) (a' := ?_) #[true, true, true, true, true, true, false, false, false, false, false, false, false, false] rfl rfl (by kernel_rfl) (fun _ _ _ h => h) (Or.inl ⟨by rfl, ?_⟩) hHeld ?_ ?_
  rotate_left
  · rintro w' s1
    go_simp
    with_reducible rfl
  rotate_left
  · simp only [Act.put, List.setIfInBounds_toArray, List.set_cons_zero, List.set_cons_succ, i64_w, i32_w]
    rfl
  refine pure_ (i := 6) (N := (some 42)) (v := ?_) (a' := ?_) #[true, true, true, true, true, true, true, false, false, false, false, false, false, false] rfl rfl (by kernel_rfl) (fun _ _ _ h => h) (Or.inl ⟨by rfl, ?_⟩) ?_ ?_
  rotate_left
  · intro w'
    go_simp
    with_reducible rfl
  rotate_left
  · simp only [Act.put, List.setIfInBounds_toArray, List.set_cons_zero, List.set_cons_succ, i64_w, i32_w]
    rfl
  refine pure_ (i := 7) (N := (some 43)) (v := ?_) (a' := ?_) #[true, true, true, true, true, true, true, true, false, false, false, false, false, false] rfl rfl (by kernel_rfl) (fun _ _ _ h => h) (Or.inl ⟨by rfl, ?_⟩) ?_ ?_
  rotate_left
  · intro w'
    go_simp
    with_reducible rfl
  rotate_left
  · simp only [Act.put, List.setIfInBounds_toArray, List.set_cons_zero, List.set_cons_succ, i64_w, i32_w]
    rfl
  refine pure_ (i := 8) (N := (some 44)) (v := ?_) (a' := ?_) #[true, true, true, true, true, true, true, true, true, false, false, false, false, false] rfl rfl (by kernel_rfl) (fun _ _ _ h => h) (Or.inl ⟨by rfl, ?_⟩) ?_ ?_
  rotate_left
  · intro w'
    go_simp
    with_reducible rfl
  rotate_left
  · simp only [Act.put, List.setIfInBounds_toArray, List.set_cons_zero, List.set_cons_succ, i64_w, i32_w]
    rfl
  refine pure_ (i := 9) (N := (some 45)) (v := ?_) (a' := ?_) #[true, true, true, true, true, true, true, true, true, true, false, false, false, false] rfl rfl (by kernel_rfl) (fun _ _ _ h => h) (Or.inl ⟨by rfl, ?_⟩) ?_ ?_
  rotate_left
  · intro w'
    go_simp
    with_reducible rfl
  rotate_left
  · simp only [Act.put, List.setIfInBounds_toArray, List.set_cons_zero, List.set_cons_succ, i64_w, i32_w]
    rfl
  refine one_ (i := 10) (N := none) #[true, true, true, true, true, true, true, true, true, true, true, false, false, false] rfl rfl (by kernel_rfl) (by decide) (fun K hK => ?_)
  refine skip_ (w1 := ?_) (by rfl) rfl ?_ ?_
  rotate_left
  · go_simp
    rfl
  refine hK.out _ _ hc25 (fun hHeld => ?_)
  clear hK K
  refine pure_ (i := 11) (N := (some 46)) (v := ?_) (a' := ?_) #[true, true, true, true, true, true, true, true, true, true, true, true, false, false] rfl rfl (by kernel_rfl) (fun _ _ _ h => h) (Or.inl ⟨by rfl, ?_⟩) ?_ ?_
  rotate_left
  · intro w'
    go_simp
    with_reducible rfl
  rotate_left
  · simp only [Act.put, List.setIfInBounds_toArray, List.set_cons_zero, List.set_cons_succ, i64_w, i32_w]
    rfl
  refine pure_ (i := 12) (N := (some 47)) (v := ?_) (a' := ?_) #[true, true, true, true, true, true, true, true, true, true, true, true, true, false] rfl rfl (by kernel_rfl) (fun _ _ _ h => h) (Or.inl ⟨by rfl, ?_⟩) ?_ ?_
  rotate_left
  · intro w'
    go_simp
    with_reducible rfl
  rotate_left
  · simp only [Act.put, List.setIfInBounds_toArray, List.set_cons_zero, List.set_cons_succ, i64_w, i32_w]
    rfl
  refine last_ (i := 13) (N := none) #[true, true, true, true, true, true, true, true, true, true, true, true, true, true] rfl rfl (by kernel_rfl) (by decide) (fun K hK => ?_)
  refine skip_ (w1 := ?_) (by rfl) rfl ?_ ?_
  rotate_left
  · go_simp
    rfl
  refine hK.out _ _ ?_
  clear hK K
  refine done_ (by kernel_rfl) ?_
  -- end take
  generalize hW5 : ((W3.setCell ⟨w.heap.size, 1, none⟩ (.string zR)).setCell ⟨L.k, 2, none⟩ (.string zN)).drew = W5
  have hn0 := H3.out.ne
  have hnk' := HPS.out L.k L.S_k
  have hoa : Only W3 (W3.setCell ⟨w.heap.size, 1, none⟩ (.string zR)) (fun b => b = w.heap.size) := Only.setCell (S := fun b => b = w.heap.size) (Only.refl W3 _) (p := ⟨w.heap.size, 1, none⟩) rfl _
  have hla : LS (W3.setCell ⟨w.heap.size, 1, none⟩ (.string zR)) L m I (O.drop n.toNat) M e s := H3.out.only hoa HPS.out
  have hob : Only (W3.setCell ⟨w.heap.size, 1, none⟩ (.string zR)) ((W3.setCell ⟨w.heap.size, 1, none⟩ (.string zR)).setCell ⟨L.k, 2, none⟩ (.string zN)) (fun b => b = L.k) := Only.setCell (S := fun b => b = L.k) (Only.refl _ _) (p := ⟨L.k, 2, none⟩) rfl _
  have hl5 : LS ((W3.setCell ⟨w.heap.size, 1, none⟩ (.string zR)).setCell ⟨L.k, 2, none⟩ (.string zN)) L m I (O.drop n.toNat) (M.drop rl) e s :=
    ⟨by rw [HZ.out.2.2.2]; exact hla.hdr.setM _, hla.qi.only hob (fun e => hn0.1 e.symm) (fun e => hn0.2.1 e.symm), hla.qo.only hob (fun e => hn0.2.2.1 e.symm) (fun e => hn0.2.2.2.1 e.symm), hla.gg, hla.rr⟩
  have h5 : LS W5 L m I (O.drop n.toNat) (M.drop rl) e s := by rw [← hW5]; exact hl5.drewN 1
  have hp5 : Parts W5 w.heap.size z0 zR := by
    rw [← hW5]
    exact hob.blk (Parts.set1 HP3.out zR) (fun e => hnk' e.symm)
  have ho5 : Only W3 W5 (fun b => b = w.heap.size ∨ b = L.k) := by
    rw [← hW5]
    exact ((hoa.mono (fun _ _ e => Or.inl e)).trans (hob.mono (fun _ _ e => Or.inr e))).drew
  have HF := Aside0.mk (h5.fill (by rw [List.length_drop]; have := HM1.out; omega))
  have HP5 := Aside0.mk hp5
  have HO5 := Aside0.mk ho5
  clear hn0 hnk' hoa hla hob hl5 h5 hp5 ho5 hW5 hq13 hf13 hc24 hf24 hc25 hf25 hc23
  go_wp2_with (first | (go_at_call 78; refine HF.out.mono ?_; rintro x w6 ⟨rfl, h6, ho6⟩; have hp6 : Parts w6 w.heap.size z0 zR := ho6.blk HP5.out (fun h => HPS.out _ h rfl); have hq60 := hp6.c0; have hq61 := hp6.c1; have H6 := Aside0.mk h6; have HO6 := Aside0.mk ho6; clear h6 ho6 hp6))
  go_ret
  refine ⟨?_, H6.out, ?_⟩
  · rw [← show z0 ++ zR = st (p0 ++ M.take rl) by rw [HZ.out.1, HZ.out.2.2.1, st_append]]
    rfl
  · have g1 : Only w wA (fun b => L.S b ∨ b = w.heap.size) := HOA.out.mono (fun _ _ e => Or.inl e)
    have g2 : Only wA w1 (fun b => L.S b ∨ b = w.heap.size) := HO1.out.mono (fun b _ e => Or.inl (Or.inr (Or.inr (Or.inr (Or.inl e)))))
    have g3 : Only w1 W2 (fun b => L.S b ∨ b = w.heap.size) := HO2.out.mono (fun _ _ e => Or.inr e)
    have g4 : Only W2 W3 (fun b => L.S b ∨ b = w.heap.size) := by rw [← HW3.out]; exact (Only.refl W2 _).drew
    have g5 : Only W3 W5 (fun b => L.S b ∨ b = w.heap.size) := HO5.out.mono (fun b _ e => e.elim Or.inr (fun e => Or.inl (Or.inl e)))
    have g6 : Only W5 w6 (fun b => L.S b ∨ b = w.heap.size) := HO6.out.mono (fun _ _ e => Or.inl e)
    exact (((((g1.trans g2).trans g3).trans g4).trans g5).trans g6).mono (fun b hb e => e.elim id (fun e => by omega))

set_option maxHeartbeats 8000000 in
set_option maxRecDepth 100000 in
theorem LS.take_neg {w : World} {L : Lk} {m : Nat} {I O M : List UInt8} {e s : Bool} (h : LS w L m I O M e s) (hM : M.length ≤ 1000000) (n : Int) (hn : ¬ 0 < n) (hn2 : -9223372036854775808 ≤ n) :
    Calls Try.prog 40 #[.pointer (some ⟨L.k, 0, none⟩), .int .i64 n] w (TakeP w L m I [] O M e s) := by
  have HM := Aside0.mk (made_any w L.k L.gi h.hdr.c0)
  have hlt := h.ltS
  have hps : ∀ b, L.S b → b ≠ w.heap.size := fun b hb e => by have := hlt b hb; omega
  obtain ⟨wA, hwA⟩ : ∃ wA, wA = w.alloc (.cells #[.string ⟨#[]⟩, .string ⟨#[]⟩] 92) := ⟨_, rfl⟩
  have hoA : Only w wA L.S := by rw [hwA]; exact (Only.refl w _).alloc _
  have hpA : Parts wA w.heap.size ⟨#[]⟩ ⟨#[]⟩ := by rw [hwA]; exact heap_alloc_new w _
  have hA : LS wA L m I O M e s := h.only (Only.of_below (S := fun _ => False) (by rw [hwA]; exact (Below.refl _ _).alloc (Nat.le_refl _) _)) (fun _ _ h => h)
  have hc1 := h.hdr.c1
  have hcA := hA.hdr.c1
  rw [hwA] at hcA
  have hT := hA.takeO n
  rw [show n.toNat = 0 by omega, List.take_zero, List.drop_zero] at hT
  have HT := Aside0.mk hT
  have HPA := Aside0.mk hpA
  have HOA := Aside0.mk hoA
  have HPS := Aside0.mk hps
  have hcut1 := cut_st0 M 0 (by omega)
  rw [List.take_zero] at hcut1
  have hms := st_size M
  obtain ⟨zM, hzM⟩ : ∃ z, z = st M := ⟨_, rfl⟩
  obtain ⟨z0, hz0⟩ : ∃ z, z = st [] := ⟨_, rfl⟩
  rw [← hzM] at hcut1 hms
  rw [← hz0] at hT hcut1 HT
  have hz0s : z0.size = 0 := by rw [hz0]; rfl
  have hcut1' : ∀ W, (Instr.slice 9 (.string zM) none (some (.int .i64 0)) none).run Try.prog W = .ok (.string z0) W := hcut1
  have hwr : IntKind.i64.wrap n = n := IntWalk.i64_in _ (by omega)
  have hmin : (if (zM.size : Int) < n then (zM.size : Int) else n) = n := by split <;> omega
  have hmax : (if 0 < n then n else 0) = (0 : Int) := by split <;> omega
  have hzMb : zM.size ≤ 1000000 := by omega
  have hcz : z0.size + (⟨#[]⟩ : ByteArray).size ≤ 2000000 := by rw [hz0s]; decide
  have HZ := Aside0.mk (And.intro hz0 hzM)
  have HM1 := Aside0.mk hM
  clear h hlt hps hoA hpA hA hT hz0 hzM hms hM hcut1
  go_enter Try.func40, Try.ntmps40
  go_wp2_with (first | (go_at_call 77; refine HM.out.mono ?_; rintro e w' ⟨rfl, rfl⟩) | (go_at_call 18; rw [← hwA]; refine HT.out.mono ?_; rintro x w1 ⟨rfl, h1, ho1⟩; have hp1 : Parts w1 w.heap.size ⟨#[]⟩ ⟨#[]⟩ := ho1.blk HPA.out (fun e => HPS.out L.go (Or.inr (Or.inr (Or.inr (Or.inl rfl)))) e.symm); have hq0 := hp1.c0; have hf0 := blk_frozen hp1 0; have H1 := Aside0.mk h1; have HO1 := Aside0.mk ho1; have HP1 := Aside0.mk hp1; clear h1 ho1 hp1))
  generalize hW2 : w1.setCell ⟨w.heap.size, 0, none⟩ (.string z0) = W2
  have ho2 : Only w1 W2 (fun b => b = w.heap.size) := by rw [← hW2]; exact Only.setCell (S := fun b => b = w.heap.size) (Only.refl w1 _) (p := ⟨w.heap.size, 0, none⟩) rfl _
  have h2 : LS W2 L m I O M e s := H1.out.only ho2 HPS.out
  have hp2 : Parts W2 w.heap.size z0 ⟨#[]⟩ := by rw [← hW2]; exact HP1.out.set0 z0
  have hc22 : W2.cell? ⟨L.k, 2, none⟩ = some (.string zM) := by rw [HZ.out.2]; exact h2.hdr.c2
  have hq2 := hp2.c0
  have HO2 := Aside0.mk ho2
  have HP2 := Aside0.mk hp2
  have H2 := Aside0.mk h2
  clear ho2 h2 hp2 hq0 hf0 hW2 hc1 hcA hwA
  go_still_tail 17, (by kernel_rfl)
  have HF := Aside0.mk (LS.fill (w := W2.drew) (H2.out.drewN 1) HM1.out)
  go_wp2_with (first | (go_at_call 78; refine HF.out.mono ?_; rintro x w6 ⟨rfl, h6, ho6⟩; have hp6 : Parts w6 w.heap.size z0 ⟨#[]⟩ := ho6.blk (show W2.drew.heap[w.heap.size]? = _ from HP2.out) (fun h => HPS.out _ h rfl); have hq60 := hp6.c0; have hq61 := hp6.c1; have H6 := Aside0.mk h6; have HO6 := Aside0.mk ho6; clear h6 ho6 hp6))
  go_ret
  refine ⟨?_, H6.out, ?_⟩
  · rw [← show z0 ++ ⟨#[]⟩ = st [] by rw [HZ.out.1]; rfl]
    rfl
  · have g1 : Only w wA (fun b => L.S b ∨ b = w.heap.size) := HOA.out.mono (fun _ _ e => Or.inl e)
    have g2 : Only wA w1 (fun b => L.S b ∨ b = w.heap.size) := HO1.out.mono (fun b _ e => Or.inl (Or.inr (Or.inr (Or.inr (Or.inl e)))))
    have g3 : Only w1 W2 (fun b => L.S b ∨ b = w.heap.size) := HO2.out.mono (fun _ _ e => Or.inr e)
    have g6 : Only W2.drew w6 (fun b => L.S b ∨ b = w.heap.size) := HO6.out.mono (fun _ _ e => Or.inl e)
    exact ((((g1.trans g2).trans g3).drew).trans g6).mono (fun b hb e => e.elim id (fun e => by omega))
end Go.Proofs.Ytacglolggaobdaa.Qu
