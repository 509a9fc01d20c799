/- The contracts of the link's methods, of a link that New made. -/
import Derived.Test.YtacglolggaobdaaLWalk
namespace Go.Proofs.Ytacglolggaobdaa.Qu
open Go.RowKit Go.Proofs.YtacglolggaobdaaW.PrintWords Go.Proofs.YtacglolggaobdaaW.PrintLast Go.Proofs.YtacglolggaobdaaW.PrintMore
attribute [local go_sem] max2_int min2_int max_two min_two max_three min_three max_four min_four
set_option linter.unusedVariables false
set_option linter.unusedSimpArgs false

theorem IsQ.peekq {w : World} {g r m : Nat} {q : List UInt8} (h : IsQ w g r m q) (z : Int) (n : Nat) : Calls Try.prog 20 #[.pointer (some ⟨g, 0, none⟩), .int .i64 z] (w.drewN n) fun e w' => e = .returned (.string ⟨(q.take z.toNat).toArray⟩) ∧ ∃ m, w' = w.drewN m :=
  (IsQ.peek (w := w.drewN n) (h.same rfl) z).mono fun _ _ ⟨he, nd, hw⟩ => ⟨he, n + nd, by rw [hw, World.drewN_drewN]⟩
theorem LS.drewN {w : World} {L : Lk} {m : Nat} {I O M : List UInt8} {e s : Bool} (h : LS w L m I O M e s) (n : Nat) : LS (w.drewN n) L m I O M e s :=
  h.only ((Only.refl w (fun _ => False)).drewN n) (fun _ _ h => h)

set_option maxHeartbeats 4000000 in
theorem LS.give0 {w : World} {L : Lk} {m : Nat} {I O M : List UInt8} {e s : Bool} (h : LS w L m I O M e s) (t : ByteArray) (hes : e = true ∨ s = true) :
    Calls Try.prog 39 #[.pointer (some ⟨L.k, 0, none⟩), .string t] w fun x w' => x = .returned (.int .i64 0) ∧ w = w' := by
  have HM := Aside0.mk (made_any w L.k L.gi h.hdr.c0)
  have c3 := h.hdr.c3
  have c4 := h.hdr.c4
  clear h
  cases e with
  | true =>
    clear hes
    go_enter Try.func39, Try.ntmps39
    go_wp2_with (first | (go_at_call 77; refine HM.out.mono ?_; rintro e w' ⟨rfl, rfl⟩))
    go_ret
    exact ⟨rfl, rfl⟩
  | false =>
    obtain rfl : s = true := by simpa using hes
    clear hes
    go_enter Try.func39, Try.ntmps39
    go_wp2_with (first | (go_at_call 77; refine HM.out.mono ?_; rintro e w' ⟨rfl, rfl⟩))
    go_ret
    exact ⟨rfl, rfl⟩
set_option maxHeartbeats 4000000 in
theorem LS.give {w : World} {L : Lk} {m : Nat} {I O M : List UInt8} (h : LS w L m I O M false false) (t : ByteArray) (ht : t.size ≤ 1000000) :
    Calls Try.prog 39 #[.pointer (some ⟨L.k, 0, none⟩), .string t] w fun x w' => x = .returned (.int .i64 ((min t.size (m - I.length) : Nat) : Int)) ∧ LS w' L m (I ++ t.data.toList.take (min t.size (m - I.length))) O M false false ∧ Only w w' (fun b => b = L.gi ∨ b = L.ri) := by
  have HM := Aside0.mk (made_any w L.k L.gi h.hdr.c0)
  have HP := Aside0.mk (h.qi.put t (by omega))
  have c0 := h.hdr.c0
  have c3 := h.hdr.c3
  have c4 := h.hdr.c4
  have H := Aside0.mk h
  clear h
  go_enter Try.func39, Try.ntmps39
  go_wp2_with (first | (go_at_call 77; refine HM.out.mono ?_; rintro e w' ⟨rfl, rfl⟩) | (go_at_call 16; refine HP.out.mono ?_; rintro e w' ⟨rfl, hq, ho⟩; have HQ := Aside0.mk hq; have HO := Aside0.mk ho; clear hq ho))
  go_ret
  have hn := H.out.ne
  refine ⟨rfl, ⟨HO.out.blk H.out.hdr ?_, HQ.out, H.out.qo.only HO.out ?_ ?_, H.out.gg, H.out.rr⟩, HO.out⟩
  · rintro (e | e); exact hn.1 e; exact hn.2.1 e
  · rintro (e | e); exact hn.2.2.2.2.2.1 e.symm; exact hn.2.2.2.2.2.2.2.1 e.symm
  · rintro (e | e); exact hn.2.2.2.2.2.2.1 e.symm; exact hn.2.2.2.2.2.2.2.2.1 e.symm
set_option maxHeartbeats 4000000 in
theorem LS.end_ {w : World} {L : Lk} {m : Nat} {I O M : List UInt8} {e s : Bool} (h : LS w L m I O M e s) :
    Calls Try.prog 35 #[.pointer (some ⟨L.k, 0, none⟩)] w fun x w' => x = .returned (.tuple #[]) ∧ LS w' L m I O M true s ∧ Only w w' (fun b => b = L.k) := by
  have HM := Aside0.mk (made_any w L.k L.gi h.hdr.c0)
  have c3 := h.hdr.c3
  have f3 := blk_frozen h.hdr 3
  have H := Aside0.mk h
  clear h
  go_enter Try.func35, Try.ntmps35
  go_wp2_with (first | (go_at_call 77; refine HM.out.mono ?_; rintro e w' ⟨rfl, rfl⟩))
  go_end0
  have hn := H.out.ne
  have ho : Only w (w.setCell ⟨L.k, 3, none⟩ (.bool true)) (fun b => b = L.k) := Only.setCell (S := fun b => b = L.k) (Only.refl w _) (p := ⟨L.k, 3, none⟩) rfl _
  exact ⟨rfl, ⟨H.out.hdr.setE true, H.out.qi.only ho (fun e => hn.1 e.symm) (fun e => hn.2.1 e.symm), H.out.qo.only ho (fun e => hn.2.2.1 e.symm) (fun e => hn.2.2.2.1 e.symm), H.out.gg, H.out.rr⟩, ho⟩
set_option maxHeartbeats 4000000 in
theorem LS.left {w : World} {L : Lk} {m : Nat} {I O M : List UInt8} {e s : Bool} (h : LS w L m I O M e s) :
    Calls Try.prog 29 #[.pointer (some ⟨L.k, 0, none⟩)] w fun x w' => x = .returned (.string (st I)) ∧ ∃ nd, w' = w.drewN nd := by
  have HM := Aside0.mk (made_any w L.k L.gi h.hdr.c0)
  have c0 := h.hdr.c0
  have HL := Aside0.mk h.qi.lenq
  have hpk := h.qi.peekq (I.length : Int)
  rw [Int.toNat_natCast, List.take_of_length_le (Nat.le_refl _)] at hpk
  have HP := Aside0.mk hpk
  clear h hpk
  go_enter Try.func29, Try.ntmps29
  go_wp2_with (first | (go_at_call 77; refine HM.out.mono ?_; rintro e w' ⟨rfl, rfl⟩))
  go_quiet ((first | (go_at_call 22; exact HL.out _) | (go_at_call 20; exact HP.out _)))
  go_wp2
  go_ret
  exact ⟨rfl, _, rfl⟩
set_option maxHeartbeats 4000000 in
theorem LS.use {w : World} {L : Lk} {m : Nat} {I O M : List UInt8} {e s : Bool} (h : LS w L m I O M e s) (n : Int) :
    Calls Try.prog 36 #[.pointer (some ⟨L.k, 0, none⟩), .int .i64 n] w fun x w' => x = .returned (.tuple #[]) ∧ LS w' L m (I.drop n.toNat) O M e s ∧ Only w w' (fun b => b = L.gi) := by
  have HM := Aside0.mk (made_any w L.k L.gi h.hdr.c0)
  have c0 := h.hdr.c0
  have HT := Aside0.mk (h.qi.take n)
  have H := Aside0.mk h
  clear h
  go_enter Try.func36, Try.ntmps36
  go_wp2_with (first | (go_at_call 77; refine HM.out.mono ?_; rintro e w' ⟨rfl, rfl⟩) | (go_at_call 18; refine HT.out.mono ?_; rintro e w' ⟨rfl, hq, ho⟩; have HQ := Aside0.mk hq; have HO := Aside0.mk ho; clear hq ho))
  go_end0
  have hn := H.out.ne
  exact ⟨rfl, ⟨HO.out.blk H.out.hdr hn.1, HQ.out, H.out.qo.only HO.out (fun e => hn.2.2.2.2.2.1 e.symm) (fun e => hn.2.2.2.2.2.2.1 e.symm), H.out.gg, H.out.rr⟩, HO.out⟩
set_option maxHeartbeats 4000000 in
theorem LS.dry {w : World} {L : Lk} {m : Nat} {I O M : List UInt8} {e s : Bool} (h : LS w L m I O M e s) :
    Calls Try.prog 30 #[.pointer (some ⟨L.k, 0, none⟩)] w fun x w' => x = .returned (.bool (e && I.isEmpty)) ∧ w = w' := by
  have HM := Aside0.mk (made_any w L.k L.gi h.hdr.c0)
  have c0 := h.hdr.c0
  have c3 := h.hdr.c3
  have HL := Aside0.mk h.qi.len
  clear h
  cases e with
  | false =>
    go_enter Try.func30, Try.ntmps30
    go_wp2_with (first | (go_at_call 77; refine HM.out.mono ?_; rintro e w' ⟨rfl, rfl⟩))
    go_ret
    exact ⟨rfl, rfl⟩
  | true =>
    have he : (((I.length : Nat) : Int) == 0) = I.isEmpty := by cases I <;> simp; omega
    go_enter Try.func30, Try.ntmps30
    go_wp2_with (first | (go_at_call 77; refine HM.out.mono ?_; rintro e w' ⟨rfl, rfl⟩) | (go_at_call 22; refine HL.out.mono ?_; rintro e w' ⟨rfl, rfl⟩))
    go_ret
    refine ⟨?_, rfl⟩
    rw [Bool.true_and, ← he]
    first | rfl | simp
set_option maxHeartbeats 4000000 in
theorem LS.free {w : World} {L : Lk} {m : Nat} {I O M : List UInt8} {e s : Bool} (h : LS w L m I O M e s) :
    Calls Try.prog 32 #[.pointer (some ⟨L.k, 0, none⟩)] w fun x w' => x = .returned (.bool M.isEmpty) ∧ w = w' := by
  have HM := Aside0.mk (made_any w L.k L.gi h.hdr.c0)
  have c2 := h.hdr.c2
  have he : (st M).toList.isEmpty = M.isEmpty := by
    cases M with
    | nil => exact st_empty _ rfl
    | cons => exact st_full _ (by simp)
  clear h
  go_enter Try.func32, Try.ntmps32
  go_wp2_with (first | (go_at_call 77; refine HM.out.mono ?_; rintro e w' ⟨rfl, rfl⟩))
  go_ret
  exact ⟨rfl, rfl⟩
set_option maxHeartbeats 4000000 in
theorem LS.waits {w : World} {L : Lk} {m : Nat} {I O M : List UInt8} {e s : Bool} (h : LS w L m I O M e s) (hM : M.length ≤ 1000000) :
    Calls Try.prog 31 #[.pointer (some ⟨L.k, 0, none⟩)] w fun x w' => x = .returned (.int .i64 ((O ++ M).length : Int)) ∧ ∃ nd, w' = w.drewN nd := by
  have HM := Aside0.mk (made_any w L.k L.gi h.hdr.c0)
  have c1 := h.hdr.c1
  have c2 := h.hdr.c2
  have HL := Aside0.mk h.qo.lenq
  have hol := h.qo.len_le
  have hom := h.qo.cap
  have hs := st_size M
  obtain ⟨z, hz⟩ : ∃ z, z = st M := ⟨_, rfl⟩
  rw [← hz] at c2 hs
  have hsum : IntKind.i64.wrap ((O.length : Int) + (M.length : Int)) = (O.length : Int) + (M.length : Int) := IntWalk.i64_in _ (by omega)
  clear h hz
  go_enter Try.func31, Try.ntmps31
  go_wp2_with (first | (go_at_call 77; refine HM.out.mono ?_; rintro e w' ⟨rfl, rfl⟩))
  go_quiet ((first | (go_at_call 22; exact HL.out _)))
  go_wp2
  go_ret
  refine ⟨?_, _, rfl⟩
  rw [List.length_append, Int.natCast_add]
  rfl
end Go.Proofs.Ytacglolggaobdaa.Qu
