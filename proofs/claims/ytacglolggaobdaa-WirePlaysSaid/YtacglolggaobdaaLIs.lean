/- A link over what stands in it: its New, Give, End, Left, Use, Dry, Write, Waits, Free, Take, Shut, Over, Live; the law's own examples. -/
import Derived.Test.YtacglolggaobdaaLTake
namespace Go.Proofs.Ytacglolggaobdaa.Qu
open Go.RowKit Go.Proofs.YtacglolggaobdaaW.PrintWords Go.Proofs.YtacglolggaobdaaW.PrintLast Go.Proofs.YtacglolggaobdaaW.PrintMore
attribute [local go_sem] max2_int min2_int max_two min_two max_three min_three max_four min_four
set_option linter.unusedVariables false
set_option linter.unusedSimpArgs false

/-- what came in and was not used, what waits to go -/
structure LV where
  m : Nat
  I : List UInt8
  Out : List UInt8
  e : Bool
  s : Bool
def LV.give (v : LV) (t : ByteArray) : Nat := if v.e || v.s then 0 else min t.size (v.m - v.I.length)
/-- link L is new since w0, and stands so -/
structure InL (w0 w : World) (L : Lk) (v : LV) : Prop where
  ex : ∃ O M, LS w L v.m v.I O M v.e v.s ∧ v.Out = O ++ M ∧ (M = [] ∨ O.length = v.m)
  bel : Below w0.heap.size w0 w
  new : ∀ b, L.S b → w0.heap.size ≤ b
theorem InL.only {w0 w w' : World} {L : Lk} {v : LV} {S : Nat → Prop} (h : InL w0 w L v) (ho : Only w w' S) (h1 : ∀ b, L.S b → ¬ S b) (h2 : ∀ b, S b → w0.heap.size ≤ b) : InL w0 w' L v := by
  obtain ⟨O, M, hl, e1, e2⟩ := h.ex
  exact ⟨⟨O, M, hl.only ho h1, e1, e2⟩, h.bel.trans (ho.below h.bel.size h2), h.new⟩
theorem InL.step {w0 w w' : World} {L : Lk} {v v' : LV} (h : InL w0 w L v) (hx : ∃ O M, LS w' L v'.m v'.I O M v'.e v'.s ∧ v'.Out = O ++ M ∧ (M = [] ∨ O.length = v'.m)) (ho : Only w w' L.S) : InL w0 w' L v' :=
  ⟨hx, h.bel.trans (ho.below h.bel.size h.new), h.new⟩
theorem InL.drewN {w0 w : World} {L : Lk} {v : LV} (h : InL w0 w L v) (n : Nat) : InL w0 (w.drewN n) L v :=
  h.only ((Only.refl w (fun _ => False)).drewN n) (fun _ _ h => h) (fun _ h => h.elim)
theorem InL.lt {w0 w : World} {L : Lk} {v : LV} (h : InL w0 w L v) : ∀ b, L.S b → b < w.heap.size := by
  obtain ⟨O, M, hl, _⟩ := h.ex
  exact hl.ltS
theorem InL.lenI {w0 w : World} {L : Lk} {v : LV} (h : InL w0 w L v) : v.I.length ≤ v.m ∧ v.m ≤ 65536 := by
  obtain ⟨O, M, hl, _⟩ := h.ex
  exact ⟨hl.qi.len_le, hl.qi.cap⟩
theorem fill_ok (O M : List UInt8) (m : Nat) (h : O.length ≤ m) : O ++ M = (O ++ M.take (min M.length (m - O.length))) ++ M.drop (min M.length (m - O.length)) ∧ (M.drop (min M.length (m - O.length)) = [] ∨ (O ++ M.take (min M.length (m - O.length))).length = m) := by
  refine ⟨by rw [List.append_assoc, List.take_append_drop], ?_⟩
  rcases Nat.le_total M.length (m - O.length) with h1 | h1
  · left; rw [Nat.min_eq_left h1]; exact List.drop_eq_nil_of_le (Nat.le_refl _)
  · right; rw [Nat.min_eq_right h1, List.length_append, List.length_take]; omega

/-! ### New -/
set_option maxHeartbeats 4000000 in
theorem lnew_bad (w : World) (n : Int) (h : n < 0 ∨ 65536 < n) : Calls Try.prog 26 #[.int .i64 n] w fun e w' => e = .returned (.pointer none) ∧ w = w' := by
  have HB := Aside0.mk (new_bad w n h)
  clear h
  go_enter Try.func26, Try.ntmps26
  go_wp2_with (go_at_call 14; refine HB.out.mono ?_; rintro e w' ⟨rfl, rfl⟩)
  go_ret
  exact ⟨rfl, rfl⟩
def NewLk (w : World) (m : Nat) (x : Ending) (w' : World) : Prop := ∃ L : Lk, x = .returned (.pointer (some ⟨L.k, 0, none⟩)) ∧ InL w w' L ⟨m, [], [], false, false⟩
set_option maxHeartbeats 4000000 in
theorem lnew_ok (w : World) (m : Nat) (h : m ≤ 65536) : Calls Try.prog 26 #[.int .i64 (m : Int)] w (NewLk w m) := by
  go_enter Try.func26, Try.ntmps26
  go_wp2_with fail
  refine (new_ok w m h).mono ?_
  rintro x w1 ⟨gi, ri, rfl, hg1, hr1, hq1, hb1⟩
  have H1 := Aside0.mk (And.intro hg1 (And.intro hr1 (And.intro hq1 hb1)))
  clear hg1 hr1 hq1 hb1
  go_wp2_with fail
  refine (new_ok w1 m h).mono ?_
  rintro x w2 ⟨go, ro, rfl, hg2, hr2, hq2, hb2⟩
  have H2 := Aside0.mk (And.intro hg2 (And.intro hr2 (And.intro hq2 hb2)))
  clear hg2 hr2 hq2 hb2
  go_wp2
  go_ret
  obtain ⟨hg1, hr1, hq1, hb1⟩ := H1.out
  obtain ⟨hg2, hr2, hq2, hb2⟩ := H2.out
  have hl1 := hq1.glt
  have hl2 := hq2.glt
  have hs2 := hb2.size
  have hs1 := hb1.size
  obtain ⟨w3, hw3⟩ : ∃ w3, w3 = w2.alloc (.cells #[.pointer (some ⟨gi, 0, none⟩), .pointer (some ⟨go, 0, none⟩), .string ⟨#[]⟩, .bool false, .bool false] 50) := ⟨_, rfl⟩
  have hb3 : Below w2.heap.size w2 w3 := by rw [hw3]; exact (Below.refl _ _).alloc (Nat.le_refl _) _
  have hi : IsQ w3 gi ri m [] := (hq1.only (Only.of_below (S := fun _ => False) hb2) (fun h => h) (fun h => h)).only (Only.of_below (S := fun _ => False) hb3) (fun h => h) (fun h => h)
  have ho : IsQ w3 go ro m [] := hq2.only (Only.of_below (S := fun _ => False) hb3) (fun h => h) (fun h => h)
  refine ⟨⟨w2.heap.size, gi, ri, go, ro⟩, rfl, ⟨⟨[], [], ⟨?_, ?_, ?_, ?_, ?_⟩, rfl, Or.inl rfl⟩, ?_, ?_⟩⟩
  · exact heap_alloc_new w2 _
  · rw [← hw3]; exact hi
  · rw [← hw3]; exact ho
  · show gi ≠ go; omega
  · show ri ≠ ro; omega
  · rw [← hw3]; exact below_step (below_step hb1 hb2) hb3
  · rintro b (e | e | e | e | e)
    · have e' : b = w2.heap.size := e; omega
    · have e' : b = gi := e; omega
    · have e' : b = ri := e; omega
    · have e' : b = go := e; omega
    · have e' : b = ro := e; omega

/-! ### what reads -/
theorem InL.left {w0 w : World} {L : Lk} {v : LV} (h : InL w0 w L v) : Calls Try.prog 29 #[.pointer (some ⟨L.k, 0, none⟩)] w fun x w' => x = .returned (.string (st v.I)) ∧ ∃ nd, w' = w.drewN nd := by
  obtain ⟨O, M, hl, _⟩ := h.ex
  exact hl.left
theorem InL.dry {w0 w : World} {L : Lk} {v : LV} (h : InL w0 w L v) : Calls Try.prog 30 #[.pointer (some ⟨L.k, 0, none⟩)] w fun x w' => x = .returned (.bool (v.e && v.I.isEmpty)) ∧ w = w' := by
  obtain ⟨O, M, hl, _⟩ := h.ex
  exact hl.dry
theorem InL.waits {w0 w : World} {L : Lk} {v : LV} (h : InL w0 w L v) (hs : v.Out.length ≤ 1000000) : Calls Try.prog 31 #[.pointer (some ⟨L.k, 0, none⟩)] w fun x w' => x = .returned (.int .i64 (v.Out.length : Int)) ∧ ∃ nd, w' = w.drewN nd := by
  obtain ⟨O, M, hl, e1, _⟩ := h.ex
  rw [e1, List.length_append] at hs
  rw [e1]
  exact hl.waits (by omega)
theorem InL.free {w0 w : World} {L : Lk} {v : LV} (h : InL w0 w L v) : Calls Try.prog 32 #[.pointer (some ⟨L.k, 0, none⟩)] w fun x w' => x = .returned (.bool (decide (v.Out.length ≤ v.m))) ∧ w = w' := by
  obtain ⟨O, M, hl, e1, e2⟩ := h.ex
  have := hl.qo.len_le
  have he : decide (v.Out.length ≤ v.m) = M.isEmpty := by
    rw [e1, List.length_append]
    cases M with
    | nil => simpa using this
    | cons a l =>
      rcases e2 with e2 | e2
      · exact absurd e2 (by simp)
      · simp; omega
  rw [he]
  exact hl.free
theorem InL.over {w0 w : World} {L : Lk} {v : LV} (h : InL w0 w L v) (hs : v.Out.length ≤ 1000000) : Calls Try.prog 33 #[.pointer (some ⟨L.k, 0, none⟩)] w fun x w' => x = .returned (.bool (v.s && v.Out.isEmpty)) ∧ ∃ nd, w' = w.drewN nd := by
  obtain ⟨O, M, hl, e1, _⟩ := h.ex
  rw [e1, List.length_append] at hs
  rw [e1]
  exact hl.over (by omega)
theorem InL.live {w0 w : World} {L : Lk} {v : LV} (h : InL w0 w L v) : Calls Try.prog 34 #[.pointer (some ⟨L.k, 0, none⟩)] w fun x w' => x = .returned (.bool (!v.s)) ∧ w = w' := by
  obtain ⟨O, M, hl, _⟩ := h.ex
  exact hl.live

/-! ### what writes -/
theorem InL.give {w0 w : World} {L : Lk} {v : LV} (h : InL w0 w L v) (t : ByteArray) (ht : t.size ≤ 1000000) : Calls Try.prog 39 #[.pointer (some ⟨L.k, 0, none⟩), .string t] w fun x w' => x = .returned (.int .i64 (v.give t : Int)) ∧ InL w0 w' L { v with I := v.I ++ t.data.toList.take (v.give t) } ∧ Only w w' L.S := by
  obtain ⟨O, M, hl, e1, e2⟩ := h.ex
  by_cases hes : v.e = true ∨ v.s = true
  · have hg : v.give t = 0 := by unfold LV.give; rw [if_pos (by simpa using hes)]
    rw [hg, List.take_zero, List.append_nil]
    refine (hl.give0 t hes).mono ?_
    rintro x w' ⟨rfl, rfl⟩
    exact ⟨rfl, h, Only.refl _ _⟩
  · have he : v.e = false ∧ v.s = false := by
      constructor
      · cases hh : v.e with
        | true => exact absurd (Or.inl hh) hes
        | false => rfl
      · cases hh : v.s with
        | true => exact absurd (Or.inr hh) hes
        | false => rfl
    have hg : v.give t = min t.size (v.m - v.I.length) := by unfold LV.give; rw [if_neg (by simp [he.1, he.2])]
    rw [hg]
    rw [he.1, he.2] at hl
    refine (hl.give t ht).mono ?_
    rintro x w' ⟨rfl, hl', ho⟩
    have ho' : Only w w' L.S := ho.mono (fun b _ e => e.elim (fun e => Or.inr (Or.inl e)) (fun e => Or.inr (Or.inr (Or.inl e))))
    exact ⟨rfl, h.step ⟨O, M, by rw [he.1, he.2]; exact hl', e1, e2⟩ ho', ho'⟩
theorem InL.end_ {w0 w : World} {L : Lk} {v : LV} (h : InL w0 w L v) : Calls Try.prog 35 #[.pointer (some ⟨L.k, 0, none⟩)] w fun x w' => x = .returned (.tuple #[]) ∧ InL w0 w' L { v with e := true } ∧ Only w w' L.S := by
  obtain ⟨O, M, hl, e1, e2⟩ := h.ex
  refine hl.end_.mono ?_
  rintro x w' ⟨rfl, hl', ho⟩
  have ho' : Only w w' L.S := ho.mono (fun b _ e => Or.inl e)
  exact ⟨rfl, h.step ⟨O, M, hl', e1, e2⟩ ho', ho'⟩
theorem InL.use {w0 w : World} {L : Lk} {v : LV} (h : InL w0 w L v) (n : Int) : Calls Try.prog 36 #[.pointer (some ⟨L.k, 0, none⟩), .int .i64 n] w fun x w' => x = .returned (.tuple #[]) ∧ InL w0 w' L { v with I := v.I.drop n.toNat } ∧ Only w w' L.S := by
  obtain ⟨O, M, hl, e1, e2⟩ := h.ex
  refine (hl.use n).mono ?_
  rintro x w' ⟨rfl, hl', ho⟩
  have ho' : Only w w' L.S := ho.mono (fun b _ e => Or.inr (Or.inl e))
  exact ⟨rfl, h.step ⟨O, M, hl', e1, e2⟩ ho', ho'⟩
theorem InL.write {w0 w : World} {L : Lk} {v : LV} (h : InL w0 w L v) (t : ByteArray) (ht : v.Out.length + t.size ≤ 1000000) : Calls Try.prog 37 #[.pointer (some ⟨L.k, 0, none⟩), .string t] w fun x w' => x = .returned (.tuple #[]) ∧ InL w0 w' L { v with Out := if v.s then v.Out else v.Out ++ t.data.toList } ∧ Only w w' L.S := by
  obtain ⟨O, M, hl, e1, e2⟩ := h.ex
  by_cases hs : v.s = true
  · rw [hs] at hl
    rw [if_pos hs]
    refine (hl.write0 t).mono ?_
    rintro x w' ⟨rfl, rfl⟩
    exact ⟨rfl, h, Only.refl _ _⟩
  · have hs' : v.s = false := by simpa using hs
    rw [hs'] at hl
    rw [e1, List.length_append] at ht
    rw [if_neg hs]
    refine (hl.write t (by omega)).mono ?_
    rintro x w' ⟨rfl, hl', ho⟩
    obtain ⟨g1, g2⟩ := fill_ok O (M ++ t.data.toList) v.m hl.qo.len_le
    exact ⟨rfl, h.step ⟨_, _, by rw [hs']; exact hl', by show v.Out ++ t.data.toList = _; rw [e1, List.append_assoc]; exact g1, g2⟩ ho, ho⟩
theorem InL.take {w0 w : World} {L : Lk} {v : LV} (h : InL w0 w L v) (hs : v.Out.length ≤ 1000000) (n : Int) (h1 : -9223372036854775808 ≤ n) (h2 : n ≤ 9223372036854775807) : Calls Try.prog 40 #[.pointer (some ⟨L.k, 0, none⟩), .int .i64 n] w fun x w' => x = .returned (.string (st (v.Out.take n.toNat))) ∧ InL w0 w' L { v with Out := v.Out.drop n.toNat } ∧ Only w w' L.S := by
  obtain ⟨O, M, hl, e1, e2⟩ := h.ex
  rw [e1, List.length_append] at hs
  have hol := hl.qo.len_le
  by_cases hn : 0 < n
  · refine (hl.take_pos (by omega) n hn h2 _ rfl).mono ?_
    rintro x w' ⟨rfl, hl', ho⟩
    have hM : (M.drop (min (n.toNat - (O.take n.toNat).length) M.length)) = M.drop (n.toNat - O.length) := by
      rw [List.length_take]
      rcases Nat.le_total O.length n.toNat with a | a
      · rw [Nat.min_eq_right a]
        rcases Nat.le_total (n.toNat - O.length) M.length with b | b
        · rw [Nat.min_eq_left b]
        · rw [Nat.min_eq_right b, List.drop_eq_nil_of_le b, List.drop_eq_nil_of_le (Nat.le_refl _)]
      · rw [Nat.min_eq_left a, show n.toNat - n.toNat = 0 by omega, show n.toNat - O.length = 0 by omega, Nat.zero_min]
    have hM2 : (M.take (min (n.toNat - (O.take n.toNat).length) M.length)) = M.take (n.toNat - O.length) := by
      rw [List.length_take]
      rcases Nat.le_total O.length n.toNat with a | a
      · rw [Nat.min_eq_right a]
        rcases Nat.le_total (n.toNat - O.length) M.length with b | b
        · rw [Nat.min_eq_left b]
        · rw [Nat.min_eq_right b, List.take_of_length_le b, List.take_of_length_le (Nat.le_refl _)]
      · rw [Nat.min_eq_left a, show n.toNat - n.toNat = 0 by omega, show n.toNat - O.length = 0 by omega, Nat.zero_min]
    rw [hM] at hl'
    rw [hM2, e1, ← List.take_append]
    obtain ⟨g1, g2⟩ := fill_ok (O.drop n.toNat) (M.drop (n.toNat - O.length)) v.m (by rw [List.length_drop]; omega)
    exact ⟨rfl, h.step ⟨_, _, hl', by show List.drop n.toNat (O ++ M) = _; rw [List.drop_append, ← g1], g2⟩ ho, ho⟩
  · refine (hl.take_neg (by omega) n hn h1).mono ?_
    rintro x w' ⟨rfl, hl', ho⟩
    obtain ⟨g1, g2⟩ := fill_ok O M v.m hol
    rw [show n.toNat = 0 by omega, List.take_zero]
    exact ⟨rfl, h.step ⟨_, _, hl', by rw [← g1, ← e1]; simp, g2⟩ ho, ho⟩
theorem InL.shut {w0 w : World} {L : Lk} {v : LV} (h : InL w0 w L v) : Calls Try.prog 38 #[.pointer (some ⟨L.k, 0, none⟩)] w fun x w' => x = .returned (.tuple #[]) ∧ InL w0 w' L { v with I := [], s := true } ∧ Only w w' L.S := by
  obtain ⟨O, M, hl, e1, e2⟩ := h.ex
  refine hl.shut.mono ?_
  rintro x w' ⟨rfl, hl', ho⟩
  exact ⟨rfl, h.step ⟨O, M, hl', e1, e2⟩ ho, ho⟩
end Go.Proofs.Ytacglolggaobdaa.Qu
