/- The contracts of the link's methods, over the queue's: what came in, what waits to go. -/
import Derived.Test.YtacglolggaobdaaQPlays
namespace Go.Proofs.Ytacglolggaobdaa.Qu
open Go.RowKit Go.Proofs.YtacglolggaobdaaW.PrintWords Go.Proofs.YtacglolggaobdaaW.PrintLast Go.Proofs.YtacglolggaobdaaW.PrintMore
attribute [local go_sem] max2_int min2_int max_two min_two max_three min_three max_four min_four
set_option linter.unusedVariables false
set_option linter.unusedSimpArgs false

def st (l : List UInt8) : ByteArray := ⟨l.toArray⟩
theorem st_size (l : List UInt8) : (st l).size = l.length := str_size l
theorem st_append (a b : List UInt8) : st a ++ st b = st (a ++ b) := ByteArray.ext (by rw [ByteArray.data_append]; simp [st])
theorem st_data (t : ByteArray) : st t.data.toList = t := by simp [st]
theorem data_st (l : List UInt8) : (st l).data.toList = l := by simp [st]
theorem st_take (t : ByteArray) (k : Nat) : t.extract 0 k = st (t.data.toList.take k) := by
  have h := ext_take t.data.toList k
  rw [show (⟨t.data.toList.toArray⟩ : ByteArray) = t from st_data t] at h
  exact h
theorem st_empty (l : List UInt8) (h : l = []) : (st l).toList.isEmpty = true := by subst h; rw [ByteArray.toList_eq]; rfl
theorem st_full (l : List UInt8) (h : l ≠ []) : (st l).toList.isEmpty = false := str_cons l (by cases l; exact absurd rfl h; simp)

/-- the blocks of a link: its own, its queues', their rows' -/
structure Lk where
  k : Nat
  gi : Nat
  ri : Nat
  go : Nat
  ro : Nat
def Lk.S (L : Lk) (b : Nat) : Prop := b = L.k ∨ b = L.gi ∨ b = L.ri ∨ b = L.go ∨ b = L.ro

def LH (w : World) (k gi go : Nat) (M : List UInt8) (e s : Bool) : Prop := w.heap[k]? = some (.cells #[.pointer (some ⟨gi, 0, none⟩), .pointer (some ⟨go, 0, none⟩), .string (st M), .bool e, .bool s] 50 (0, 0))
theorem LH.c0 {w : World} {k gi go : Nat} {M : List UInt8} {e s : Bool} (h : LH w k gi go M e s) : w.cell? ⟨k, 0, none⟩ = some (.pointer (some ⟨gi, 0, none⟩)) := (blk_cell h 0).trans rfl
theorem LH.c1 {w : World} {k gi go : Nat} {M : List UInt8} {e s : Bool} (h : LH w k gi go M e s) : w.cell? ⟨k, 1, none⟩ = some (.pointer (some ⟨go, 0, none⟩)) := (blk_cell h 1).trans rfl
theorem LH.c2 {w : World} {k gi go : Nat} {M : List UInt8} {e s : Bool} (h : LH w k gi go M e s) : w.cell? ⟨k, 2, none⟩ = some (.string (st M)) := (blk_cell h 2).trans rfl
theorem LH.c3 {w : World} {k gi go : Nat} {M : List UInt8} {e s : Bool} (h : LH w k gi go M e s) : w.cell? ⟨k, 3, none⟩ = some (.bool e) := (blk_cell h 3).trans rfl
theorem LH.c4 {w : World} {k gi go : Nat} {M : List UInt8} {e s : Bool} (h : LH w k gi go M e s) : w.cell? ⟨k, 4, none⟩ = some (.bool s) := (blk_cell h 4).trans rfl
theorem LH.setM {w : World} {k gi go : Nat} {M : List UInt8} {e s : Bool} (h : LH w k gi go M e s) (N : List UInt8) : LH (w.setCell ⟨k, 2, none⟩ (.string (st N))) k gi go N e s := blk_set h 2 _
theorem LH.setE {w : World} {k gi go : Nat} {M : List UInt8} {e s : Bool} (h : LH w k gi go M e s) (b : Bool) : LH (w.setCell ⟨k, 3, none⟩ (.bool b)) k gi go M b s := blk_set h 3 _
theorem LH.setS {w : World} {k gi go : Nat} {M : List UInt8} {e s : Bool} (h : LH w k gi go M e s) (b : Bool) : LH (w.setCell ⟨k, 4, none⟩ (.bool b)) k gi go M e b := blk_set h 4 _

/-- A link that New made, whole. -/
structure LS (w : World) (L : Lk) (m : Nat) (I O M : List UInt8) (e s : Bool) : Prop where
  hdr : LH w L.k L.gi L.go M e s
  qi : IsQ w L.gi L.ri m I
  qo : IsQ w L.go L.ro m O
  gg : L.gi ≠ L.go
  rr : L.ri ≠ L.ro
theorem IsQ.typed {w : World} {g r m : Nat} {q : List UInt8} (h : IsQ w g r m q) : (∃ cs, w.heap[g]? = some (.cells cs 37 (0, 0))) ∧ ∃ cs, w.heap[r]? = some (.cells cs 5 (0, 0)) := by
  obtain ⟨xs, fr, hm, hs⟩ := h
  exact ⟨⟨_, hs.hdr⟩, ⟨_, hs.row⟩⟩
theorem LS.ne {w : World} {L : Lk} {m : Nat} {I O M : List UInt8} {e s : Bool} (h : LS w L m I O M e s) : L.k ≠ L.gi ∧ L.k ≠ L.ri ∧ L.k ≠ L.go ∧ L.k ≠ L.ro ∧ L.gi ≠ L.ri ∧ L.gi ≠ L.go ∧ L.gi ≠ L.ro ∧ L.ri ≠ L.go ∧ L.ri ≠ L.ro ∧ L.go ≠ L.ro := by
  obtain ⟨⟨c1, h1⟩, ⟨c2, h2⟩⟩ := h.qi.typed
  obtain ⟨⟨c3, h3⟩, ⟨c4, h4⟩⟩ := h.qo.typed
  have h0 := h.hdr
  unfold LH at h0
  exact ⟨blk_ne h0 h1 (by decide), blk_ne h0 h2 (by decide), blk_ne h0 h3 (by decide), blk_ne h0 h4 (by decide), blk_ne h1 h2 (by decide), h.gg, blk_ne h1 h4 (by decide), blk_ne h2 h3 (by decide), h.rr, blk_ne h3 h4 (by decide)⟩
theorem LS.only {w w' : World} {L : Lk} {m : Nat} {I O M : List UInt8} {e s : Bool} {S : Nat → Prop} (h : LS w L m I O M e s) (ho : Only w w' S) (h1 : ∀ b, L.S b → ¬ S b) : LS w' L m I O M e s :=
  ⟨ho.blk h.hdr (h1 _ (Or.inl rfl)), h.qi.only ho (h1 _ (Or.inr (Or.inl rfl))) (h1 _ (Or.inr (Or.inr (Or.inl rfl)))), h.qo.only ho (h1 _ (Or.inr (Or.inr (Or.inr (Or.inl rfl))))) (h1 _ (Or.inr (Or.inr (Or.inr (Or.inr rfl))))), h.gg, h.rr⟩

/-! ### made -/
theorem made_nil (w : World) : Calls Try.prog 77 #[.pointer none] w fun e w' => e = .returned (.bool false) ∧ w = w' := by
  go_enter Try.func77, Try.ntmps77
  go_wp2
  go_ret
  exact ⟨rfl, rfl⟩
theorem made_zero (w : World) (k : Nat) (h : w.cell? ⟨k, 0, none⟩ = some (.pointer none)) : Calls Try.prog 77 #[.pointer (some ⟨k, 0, none⟩)] w fun e w' => e = .returned (.bool false) ∧ w = w' := by
  go_enter Try.func77, Try.ntmps77
  go_wp2
  go_ret
  exact ⟨rfl, rfl⟩
theorem made_any (w : World) (k gi : Nat) (h : w.cell? ⟨k, 0, none⟩ = some (.pointer (some ⟨gi, 0, none⟩))) : Calls Try.prog 77 #[.pointer (some ⟨k, 0, none⟩)] w fun e w' => e = .returned (.bool true) ∧ w = w' := by
  go_enter Try.func77, Try.ntmps77
  go_wp2
  go_ret
  exact ⟨rfl, rfl⟩
/-- a link that is none, or that nobody made -/
def NoL (w : World) (v : Value) : Prop := Calls Try.prog 77 #[v] w fun e w' => e = .returned (.bool false) ∧ w = w'

/-! ### one that is none does nothing -/
theorem NoL.give {w : World} {v : Value} (h : NoL w v) (s : ByteArray) : Calls Try.prog 39 #[v, .string s] w fun e w' => e = .returned (.int .i64 0) ∧ w = w' := by
  have HM := Aside0.mk h
  clear h
  go_enter Try.func39, Try.ntmps39
  go_wp2_with (first | (go_at_call 77; refine HM.out.mono ?_; rintro e w' ⟨rfl, rfl⟩))
  go_ret
  exact ⟨rfl, rfl⟩
theorem NoL.end_ {w : World} {v : Value} (h : NoL w v) : Calls Try.prog 35 #[v] w fun e w' => e = .returned (.tuple #[]) ∧ w = w' := by
  have HM := Aside0.mk h
  clear h
  go_enter Try.func35, Try.ntmps35
  go_wp2_with (first | (go_at_call 77; refine HM.out.mono ?_; rintro e w' ⟨rfl, rfl⟩))
  go_end0
  exact ⟨rfl, rfl⟩
theorem NoL.left {w : World} {v : Value} (h : NoL w v) : Calls Try.prog 29 #[v] w fun e w' => e = .returned (.string ⟨#[]⟩) ∧ w = w' := by
  have HM := Aside0.mk h
  clear h
  go_enter Try.func29, Try.ntmps29
  go_wp2_with (first | (go_at_call 77; refine HM.out.mono ?_; rintro e w' ⟨rfl, rfl⟩))
  go_ret
  exact ⟨rfl, rfl⟩
theorem NoL.use {w : World} {v : Value} (h : NoL w v) (n : Int) : Calls Try.prog 36 #[v, .int .i64 n] w fun e w' => e = .returned (.tuple #[]) ∧ w = w' := by
  have HM := Aside0.mk h
  clear h
  go_enter Try.func36, Try.ntmps36
  go_wp2_with (first | (go_at_call 77; refine HM.out.mono ?_; rintro e w' ⟨rfl, rfl⟩))
  go_end0
  exact ⟨rfl, rfl⟩
theorem NoL.dry {w : World} {v : Value} (h : NoL w v) : Calls Try.prog 30 #[v] w fun e w' => e = .returned (.bool false) ∧ w = w' := by
  have HM := Aside0.mk h
  clear h
  go_enter Try.func30, Try.ntmps30
  go_wp2_with (first | (go_at_call 77; refine HM.out.mono ?_; rintro e w' ⟨rfl, rfl⟩))
  go_ret
  exact ⟨rfl, rfl⟩
theorem NoL.write {w : World} {v : Value} (h : NoL w v) (s : ByteArray) : Calls Try.prog 37 #[v, .string s] w fun e w' => e = .returned (.tuple #[]) ∧ w = w' := by
  have HM := Aside0.mk h
  clear h
  go_enter Try.func37, Try.ntmps37
  go_wp2_with (first | (go_at_call 77; refine HM.out.mono ?_; rintro e w' ⟨rfl, rfl⟩))
  go_end0
  exact ⟨rfl, rfl⟩
theorem NoL.waits {w : World} {v : Value} (h : NoL w v) : Calls Try.prog 31 #[v] w fun e w' => e = .returned (.int .i64 0) ∧ w = w' := by
  have HM := Aside0.mk h
  clear h
  go_enter Try.func31, Try.ntmps31
  go_wp2_with (first | (go_at_call 77; refine HM.out.mono ?_; rintro e w' ⟨rfl, rfl⟩))
  go_ret
  exact ⟨rfl, rfl⟩
theorem NoL.free {w : World} {v : Value} (h : NoL w v) : Calls Try.prog 32 #[v] w fun e w' => e = .returned (.bool false) ∧ w = w' := by
  have HM := Aside0.mk h
  clear h
  go_enter Try.func32, Try.ntmps32
  go_wp2_with (first | (go_at_call 77; refine HM.out.mono ?_; rintro e w' ⟨rfl, rfl⟩))
  go_ret
  exact ⟨rfl, rfl⟩
theorem NoL.take {w : World} {v : Value} (h : NoL w v) (n : Int) : Calls Try.prog 40 #[v, .int .i64 n] w fun e w' => e = .returned (.string ⟨#[]⟩) ∧ w = w' := by
  have HM := Aside0.mk h
  clear h
  go_enter Try.func40, Try.ntmps40
  go_wp2_with (first | (go_at_call 77; refine HM.out.mono ?_; rintro e w' ⟨rfl, rfl⟩))
  go_ret
  exact ⟨rfl, rfl⟩
theorem NoL.shut {w : World} {v : Value} (h : NoL w v) : Calls Try.prog 38 #[v] w fun e w' => e = .returned (.tuple #[]) ∧ w = w' := by
  have HM := Aside0.mk h
  clear h
  go_enter Try.func38, Try.ntmps38
  go_wp2_with (first | (go_at_call 77; refine HM.out.mono ?_; rintro e w' ⟨rfl, rfl⟩))
  go_end0
  exact ⟨rfl, rfl⟩
theorem NoL.over {w : World} {v : Value} (h : NoL w v) : Calls Try.prog 33 #[v] w fun e w' => e = .returned (.bool false) ∧ w = w' := by
  have HM := Aside0.mk h
  clear h
  go_enter Try.func33, Try.ntmps33
  go_wp2_with (first | (go_at_call 77; refine HM.out.mono ?_; rintro e w' ⟨rfl, rfl⟩))
  go_ret
  exact ⟨rfl, rfl⟩
theorem NoL.live {w : World} {v : Value} (h : NoL w v) : Calls Try.prog 34 #[v] w fun e w' => e = .returned (.bool false) ∧ w = w' := by
  have HM := Aside0.mk h
  clear h
  go_enter Try.func34, Try.ntmps34
  go_wp2_with (first | (go_at_call 77; refine HM.out.mono ?_; rintro e w' ⟨rfl, rfl⟩))
  go_ret
  exact ⟨rfl, rfl⟩
end Go.Proofs.Ytacglolggaobdaa.Qu
