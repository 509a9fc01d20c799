/- The contracts of the queue's Put, Peek and Take over what stands in it. -/
import Derived.Test.YtacglolggaobdaaQWalk
import Derived.Laws.BytesArg
import Derived.Deep.QuietTactic
import Derived.BigQuiet
namespace Go.Proofs.Ytacglolggaobdaa.Qu
open Go.RowKit Go.Proofs.YtacglolggaobdaaW.PrintWords Go.Proofs.YtacglolggaobdaaW.PrintLast Go.Proofs.YtacglolggaobdaaW.PrintMore
attribute [local go_sem] max2_int min2_int max_two min_two max_three min_three max_four min_four
set_option linter.unusedVariables false
set_option linter.unusedSimpArgs false

theorem IsQ.len_le {w : World} {g r m : Nat} {q : List UInt8} (h : IsQ w g r m q) : q.length ≤ m := by
  obtain ⟨xs, fr, hm, hs⟩ := h
  have := hs.le; omega
theorem IsQ.cap {w : World} {g r m : Nat} {q : List UInt8} (h : IsQ w g r m q) : m ≤ 65536 := by
  obtain ⟨xs, fr, hm, hs⟩ := h
  have := hs.cap; omega
theorem IsQ.only {w w' : World} {g r m : Nat} {q : List UInt8} {S : Nat → Prop} (h : IsQ w g r m q) (ho : Only w w' S) (h1 : ¬ S g) (h2 : ¬ S r) : IsQ w' g r m q := by
  obtain ⟨xs, fr, hm, hs⟩ := h
  exact ⟨xs, fr, hm, ho.blk hs.hdr h1, ho.blk hs.row h2, hs.le, hs.lt, hs.lt', hs.cap, hs.ring⟩
theorem IsQ.glt {w : World} {g r m : Nat} {q : List UInt8} (h : IsQ w g r m q) : g < w.heap.size ∧ r < w.heap.size ∧ g ≠ r := by
  obtain ⟨xs, fr, hm, hs⟩ := h
  exact ⟨blk_lt hs.hdr, blk_lt hs.row, hs.ne⟩
theorem IsQ.len {w : World} {g r m : Nat} {q : List UInt8} (h : IsQ w g r m q) : Calls Try.prog 22 #[.pointer (some ⟨g, 0, none⟩)] w fun e w' => e = .returned (.int .i64 (q.length : Int)) ∧ w = w' := by
  obtain ⟨xs, fr, hm, hs⟩ := h
  exact len_any w g _ _ fr _ hs.hdr
theorem IsQ.most {w : World} {g r m : Nat} {q : List UInt8} (h : IsQ w g r m q) : Calls Try.prog 24 #[.pointer (some ⟨g, 0, none⟩)] w fun e w' => e = .returned (.int .i64 (m : Int)) ∧ w = w' := by
  obtain ⟨xs, fr, rfl, hs⟩ := h
  exact most_any w g _ _ fr _ hs.hdr
theorem IsQ.room {w : World} {g r m : Nat} {q : List UInt8} (h : IsQ w g r m q) : Calls Try.prog 23 #[.pointer (some ⟨g, 0, none⟩)] w fun e w' => e = .returned (.int .i64 ((m : Int) - (q.length : Int))) ∧ w = w' := by
  obtain ⟨xs, fr, rfl, hs⟩ := h
  exact room_any w g _ _ fr _ hs.hdr hs.le hs.cap

/-- Put: as many octets as there is room for -/
theorem IsQ.put {w : World} {g r m : Nat} {q : List UInt8} (h : IsQ w g r m q) (s : ByteArray) (hs : s.size ≤ 9223372036854775807) :
    Calls Try.prog 16 #[.pointer (some ⟨g, 0, none⟩), .string s] w fun e w' => e = .returned (.int .i64 ((min s.size (m - q.length) : Nat) : Int)) ∧
      IsQ w' g r m (q ++ s.data.toList.take (min s.size (m - q.length))) ∧ Only w w' (fun b => b = g ∨ b = r) := by
  have hle := h.len_le
  have hcap := h.cap
  by_cases hk : 0 < min s.size (m - q.length)
  · obtain ⟨xs, fr, rfl, hq⟩ := h
    exact put_some w g r xs fr q _ s hq hs rfl hk
  · rw [show min s.size (m - q.length) = 0 by omega]
    refine (put_none w _ s hs ((m : Int) - (q.length : Int)) (by omega) (by omega) (by omega) (fun W hW => by subst hW; exact h.room)).mono ?_
    rintro e w' ⟨rfl, rfl⟩
    exact ⟨rfl, by simpa using h, Only.refl _ _⟩

theorem strOf_numsQ (l : List UInt8) : strOfNums (l.map fun c => (c.toNat : Int)) = ⟨l.toArray⟩ := by
  have e : (l.map fun x => (x.toNat : Int)).map (fun n => UInt8.ofNat n.toNat) = l := by
    rw [List.map_map]
    conv => rhs; rw [← List.map_id l]
    refine List.map_congr_left fun x _ => ?_
    simp
  unfold strOfNums
  rw [e]
theorem run_str (W : World) (r o c : Nat) (xs : List UInt8) (n : Nat) (h : Row W r xs) (hn : o + n ≤ xs.length) : (convert 35 9 (.slice (some ⟨r, o, none⟩) n c)).run Try.prog W = .ok (.string ⟨((xs.drop o).take n).toArray⟩) W := by
  rw [run_convert_bytes_arg W 35 5 Try.underlying35 Try.underlying5 r o n c (((xs.drop o).take n).map fun c => (c.toNat : Int)) (by rw [List.length_map, List.length_take, List.length_drop]; omega) (fun i hi => ?_) 9 Try.underlying9, strOf_numsQ]
  rw [h.cell (o + i) (by omega), List.getD_eq_getElem?_getD, List.getElem?_map, List.getElem?_take, if_pos hi, List.getElem?_drop, List.getElem?_eq_getElem (by omega)]
  rfl
theorem cut_lhm (r m lo hi : Nat) (h0 : lo < hi) (h1 : hi ≤ m) : ∀ W : World, (Instr.slice 35 (.slice (some ⟨r, 0, none⟩) m m) (some (.int .i64 (lo : Int))) (some (.int .i64 (hi : Int))) (some (.int .i64 (hi : Int)))).run Try.prog W = .ok (.slice (some ⟨r, lo, none⟩) (hi - lo) (hi - lo)) W := by
  intro W
  have hel : Try.prog.elem 35 = 5 := by simp [Program.elem, Try.underlying35]
  rw [run_slice_lhm (P := Try.prog) W 35 (some ⟨r, 0, none⟩) m m (by rw [hel]; exact Try.underlying35) .i64 .i64 .i64 (lo : Int) (hi : Int) (hi : Int) (by omega) (by omega) (by omega) (by omega), hel, size5]
  simp only [Result.andThen, sliced, Int.toNat_natCast]
  rw [if_neg (by omega)]
  simp [add0]
theorem cut_hm (r m hi : Nat) (h1 : hi ≤ m) : ∀ W : World, (Instr.slice 35 (.slice (some ⟨r, 0, none⟩) m m) none (some (.int .i64 (hi : Int))) (some (.int .i64 (hi : Int)))).run Try.prog W = .ok (.slice (some ⟨r, 0, none⟩) hi hi) W := by
  intro W
  have hel : Try.prog.elem 35 = 5 := by simp [Program.elem, Try.underlying35]
  rw [run_slice_hm (P := Try.prog) W 35 (some ⟨r, 0, none⟩) m m (by rw [hel]; exact Try.underlying35) .i64 .i64 (hi : Int) (hi : Int) (by omega) (by omega) (by omega), hel, size5]
  simp [Result.andThen, sliced, add0]

set_option maxHeartbeats 8000000 in
set_option maxRecDepth 100000 in
theorem peek_none (w : World) (v : Value) (n : Int) (l : Nat) (hn : n ≤ 0 ∨ l = 0) (hl : l ≤ 65536) (hlen : ∀ W, W = w → Calls Try.prog 22 #[v] W fun e w' => e = .returned (.int .i64 (l : Int)) ∧ W = w') :
    Calls Try.prog 20 #[v, .int .i64 n] w fun e w' => e = .returned (.string ⟨#[]⟩) ∧ w = w' := by
  have HR := Aside0.mk hlen
  clear hlen
  have e : (if (l : Int) < (if n < 0 then 0 else n) then (l : Int) else (if n < 0 then 0 else n)) = 0 := by
    split <;> split at * <;> omega
  have HN := Aside0.mk hn
  clear hn
  go_enter Try.func20, Try.ntmps20
  go_wp2_with (go_at_call 22; refine (HR.out _ rfl).mono ?_; rintro e w' ⟨rfl, rfl⟩)
  all_goals (go_ret; exact ⟨rfl, rfl⟩)

set_option maxHeartbeats 8000000 in
set_option maxRecDepth 100000 in
theorem peek_some (w : World) (g r : Nat) (xs : List UInt8) (fr : Nat) (q : List UInt8) (n : Int) (p : Nat) (h : QS w g r xs fr q) (hn : 0 < n) (hp : p = min n.toNat q.length) (hpos : 0 < p) :
    Calls Try.prog 20 #[.pointer (some ⟨g, 0, none⟩), .int .i64 n] w fun e w' => e = .returned (.string ⟨(q.take p).toArray⟩) ∧ ∃ nd, w' = w.drewN nd := by
  have hle := h.le
  have hcap := h.cap
  have hlt := h.lt' (by omega)
  have HQ := Aside0.mk h
  have c0 := h.hdr.c0
  have c1 := h.hdr.c1
  clear h
  obtain ⟨m, hm⟩ : ∃ m, m = xs.length := ⟨_, rfl⟩
  obtain ⟨l, hl⟩ : ∃ l, l = q.length := ⟨_, rfl⟩
  rw [← hm] at hle hcap hlt c0
  rw [← hl] at hle
  obtain ⟨e, he⟩ : ∃ e, e = min (fr + p) m := ⟨_, rfl⟩
  have hmin : (if (l : Int) < n then (l : Int) else n) = (p : Int) := by split <;> omega
  have hmax : ¬ n < 0 := by omega
  have hp0 : ¬ p = 0 := by omega
  have hmin2 : (if (m : Int) < (fr : Int) + (p : Int) then (m : Int) else (fr : Int) + (p : Int)) = (e : Int) := by split <;> omega
  have hcut1 := cut_lhm r m fr e (by omega) (by omega)
  have hcut2 := cut_hm r m (p - (e - fr)) (by omega)
  have hsum : IntKind.i64.wrap ((fr : Int) + (p : Int)) = (fr : Int) + (p : Int) := IntWalk.i64_in _ (by omega)
  have hsub : IntKind.i64.wrap ((e : Int) - (fr : Int)) = (e : Int) - (fr : Int) := IntWalk.i64_in _ (by omega)
  have hsub2 : IntKind.i64.wrap ((p : Int) - ((e : Int) - (fr : Int))) = ((p - (e - fr) : Nat) : Int) := by rw [IntWalk.i64_in _ (by omega)]; omega
  have hlen : ∀ W, W = w → Calls Try.prog 22 #[.pointer (some ⟨g, 0, none⟩)] W fun e w' => e = .returned (.int .i64 (l : Int)) ∧ W = w' := fun W hW => by
    subst hW; rw [hl]; exact len_any _ g _ _ fr _ HQ.out.hdr
  have hv1 : ∀ nd, (convert 35 9 (.slice (some ⟨r, fr, none⟩) (e - fr) (e - fr))).run Try.prog (w.drewN nd) = .ok (.string ⟨((xs.drop fr).take (e - fr)).toArray⟩) (w.drewN nd) := fun nd => run_str _ r fr _ xs _ HQ.out.row (by omega)
  have hv2 : ∀ nd, (convert 35 9 (.slice (some ⟨r, 0, none⟩) (p - (e - fr)) (p - (e - fr)))).run Try.prog (w.drewN nd) = .ok (.string ⟨(xs.take (p - (e - fr))).toArray⟩) (w.drewN nd) := fun nd => by
    have := run_str (w.drewN nd) r 0 (p - (e - fr)) xs (p - (e - fr)) HQ.out.row (by omega)
    rwa [List.drop_zero] at this
  have hv3 : ∀ nd, (convert 35 9 (.slice (some ⟨r, fr, none⟩) (e - fr) (e - fr))).run Try.prog (w.drew.drewN nd) = .ok (.string ⟨((xs.drop fr).take (e - fr)).toArray⟩) (w.drew.drewN nd) := fun nd => run_str _ r fr _ xs _ HQ.out.row (by omega)
  have hv4 : ∀ nd, (convert 35 9 (.slice (some ⟨r, 0, none⟩) (p - (e - fr)) (p - (e - fr)))).run Try.prog (w.drew.drewN nd) = .ok (.string ⟨(xs.take (p - (e - fr))).toArray⟩) (w.drew.drewN nd) := fun nd => by
    have := run_str (w.drew.drewN nd) r 0 (p - (e - fr)) xs (p - (e - fr)) HQ.out.row (by omega)
    rwa [List.drop_zero] at this
  obtain ⟨s1, hs1⟩ : ∃ s1, s1 = (⟨((xs.drop fr).take (e - fr)).toArray⟩ : ByteArray) := ⟨_, rfl⟩
  obtain ⟨s2, hs2⟩ : ∃ s2, s2 = (⟨(xs.take (p - (e - fr))).toArray⟩ : ByteArray) := ⟨_, rfl⟩
  rw [← hs1] at hv1 hv3
  rw [← hs2] at hv2 hv4
  have hz1 : s1.size = e - fr := by rw [hs1]; show (((xs.drop fr).take (e - fr)).toArray).size = _; rw [List.size_toArray, List.length_take, List.length_drop]; omega
  have hz2 : s2.size = p - (e - fr) := by rw [hs2]; show ((xs.take (p - (e - fr))).toArray).size = _; rw [List.size_toArray, List.length_take]; omega
  have hz : s1.size + s2.size ≤ 65536 := by omega
  have HS1 := Aside0.mk hs1
  have HS2 := Aside0.mk hs2
  have HLEN := Aside0.mk hlen
  have HM := Aside0.mk hm
  have HL := Aside0.mk hl
  have HP := Aside0.mk hp
  have HE := Aside0.mk he
  have hep : e ≤ fr + p := by omega
  have hem : e ≤ m := by omega
  have hfe : fr < e := by omega
  have hpe : e - fr ≤ p := by omega
  clear hlen hm hl hp he hs1 hs2 hz1 hz2
  go_enter Try.func20, Try.ntmps20
  go_wp2_with (go_at_call 22; refine (HLEN.out _ rfl).mono ?_; rintro e w' ⟨rfl, rfl⟩)
  go_still_tail 12, (by kernel_rfl)
  go_wp2
  go_quiet (fail)
  go_wp2
  go_ret
  refine ⟨?_, _, rfl⟩
  have hl1 : q.length = l := HL.out.symm
  have hp1 := HP.out
  have hm1 := HM.out
  have he1 := HE.out
  have := HQ.out.ring.peek (n := p) (q := e - fr) HQ.out.le (by omega) (by omega) (by omega) (by omega) (by omega)
  rw [HS1.out, HS2.out, ← this]
  congr 2

/-- Peek: the first octets -/
theorem IsQ.peek {w : World} {g r m : Nat} {q : List UInt8} (h : IsQ w g r m q) (n : Int) :
    Calls Try.prog 20 #[.pointer (some ⟨g, 0, none⟩), .int .i64 n] w fun e w' => e = .returned (.string ⟨(q.take n.toNat).toArray⟩) ∧ ∃ nd, w' = w.drewN nd := by
  have hle := h.len_le
  have hcap := h.cap
  by_cases hk : 0 < min n.toNat q.length
  · obtain ⟨xs, fr, rfl, hq⟩ := h
    refine (peek_some w g r xs fr q n _ hq (by omega) rfl hk).mono ?_
    rintro e w' ⟨rfl, hw⟩
    refine ⟨?_, hw⟩
    rcases Nat.le_total n.toNat q.length with h1 | h1
    · rw [Nat.min_eq_left h1]
    · rw [Nat.min_eq_right h1, List.take_of_length_le h1, List.take_of_length_le (Nat.le_refl _)]
  · refine (peek_none w _ n q.length (by omega) (by omega) (fun W hW => by subst hW; exact h.len)).mono ?_
    rintro e w' ⟨rfl, rfl⟩
    refine ⟨?_, 0, rfl⟩
    have : q.take n.toNat = [] := by
      rcases Nat.eq_zero_or_pos n.toNat with h1 | h1
      · rw [h1, List.take_zero]
      · rw [List.length_eq_zero_iff.1 (show q.length = 0 by omega), List.take_nil]
    rw [this]

theorem str_nil (l : List UInt8) (h : l.length = 0) : (⟨l.toArray⟩ : ByteArray) = ⟨#[]⟩ := by rw [List.length_eq_zero_iff.1 h]
theorem str_cons (l : List UInt8) (h : 0 < l.length) : (⟨l.toArray⟩ : ByteArray).toList.isEmpty = false := by
  rw [ByteArray.toList_eq]
  cases l with
  | nil => simp at h
  | cons => rfl
theorem str_size (l : List UInt8) : (⟨l.toArray⟩ : ByteArray).size = l.length := by simp [ByteArray.size]

set_option maxHeartbeats 8000000 in
set_option maxRecDepth 100000 in
theorem take_none (w : World) (v : Value) (n : Int) (hp : ∀ W, W = w → Calls Try.prog 20 #[v, .int .i64 n] W fun e w' => e = .returned (.string ⟨#[]⟩) ∧ ∃ nd, w' = W.drewN nd) :
    Calls Try.prog 18 #[v, .int .i64 n] w fun e w' => e = .returned (.string ⟨#[]⟩) ∧ ∃ nd, w' = w.drewN nd := by
  have HR := Aside0.mk hp
  clear hp
  go_enter Try.func18, Try.ntmps18
  go_wp2_with (go_at_call 20; refine (HR.out _ rfl).mono ?_; rintro e w' ⟨rfl, nd, rfl⟩)
  go_ret
  exact ⟨rfl, nd, rfl⟩

set_option maxHeartbeats 8000000 in
set_option maxRecDepth 100000 in
theorem take_some (w : World) (g r : Nat) (xs : List UInt8) (fr : Nat) (q : List UInt8) (n : Int) (h : QS w g r xs fr q) (p : Nat) (hp : p = min n.toNat q.length) (hpos : 0 < p) :
    Calls Try.prog 18 #[.pointer (some ⟨g, 0, none⟩), .int .i64 n] w fun e w' => e = .returned (.string ⟨(q.take n.toNat).toArray⟩) ∧ IsQ w' g r xs.length (q.drop n.toNat) ∧ Only w w' (fun b => b = g) := by
  have hle := h.le
  have hcap := h.cap
  have hlt := h.lt' (by omega)
  have HQ := Aside0.mk h
  have c0 := h.hdr.c0
  have c1 := h.hdr.c1
  have c2 := h.hdr.c2
  have f1 := h.hdr.fz 1
  have f2 := h.hdr.fz 2
  have hpk := IsQ.peek (w := w) (g := g) (r := r) (m := xs.length) (q := q) ⟨xs, fr, rfl, h⟩ n
  have hlp : (q.take n.toNat).length = p := by rw [List.length_take]; omega
  have hs1 := str_cons (q.take n.toNat) (by omega)
  have hs2 := str_size (q.take n.toNat)
  obtain ⟨s1, hse⟩ : ∃ s1, s1 = (⟨(q.take n.toNat).toArray⟩ : ByteArray) := ⟨_, rfl⟩
  rw [← hse] at hpk hs1 hs2
  have HPK := Aside0.mk hpk
  clear h hpk
  obtain ⟨m, hm⟩ : ∃ m, m = xs.length := ⟨_, rfl⟩
  obtain ⟨l, hl⟩ : ∃ l, l = q.length := ⟨_, rfl⟩
  rw [← hm] at hle hcap hlt c0
  rw [← hl] at hle c2
  have hsz : s1.size = p := by rw [hs2]; exact hlp
  obtain ⟨tt, hto⟩ : ∃ tt, tt = (fr + p) % m := ⟨_, rfl⟩
  have hto1 : tt < m := by rw [hto]; exact Nat.mod_lt _ (by omega)
  have hpl : p ≤ l := by omega
  have hsum : IntKind.i64.wrap ((fr : Int) + (p : Int)) = (fr : Int) + (p : Int) := IntWalk.i64_in _ (by omega)
  have hrem : ((fr : Int) + (p : Int)).tmod (m : Int) = (tt : Int) := by
    rw [Int.tmod_eq_emod_of_nonneg (by omega), hto]; simp
  have hm0 : ¬ (m = 0) := by omega
  have HSE := Aside0.mk hse
  have HM := Aside0.mk hm
  have HL := Aside0.mk hl
  have HP := Aside0.mk hp
  have HT := Aside0.mk hto
  clear hse hm hl hp hto hlp hs2
  go_enter Try.func18, Try.ntmps18
  have C0 := Aside0.mk c0
  have C1 := Aside0.mk c1
  have C2 := Aside0.mk c2
  have F1 := Aside0.mk f1
  have F2 := Aside0.mk f2
  clear c0 c1 c2 f1 f2
  go_wp2_with fail
  refine HPK.out.mono ?_
  rintro e w1 ⟨rfl, nd, hw1⟩
  have c0 : w1.cell? ⟨g, 0, none⟩ = some (.slice (some ⟨r, 0, none⟩) m m) := by rw [hw1]; exact C0.out
  have c1 : w1.cell? ⟨g, 1, none⟩ = some (.int .i64 (fr : Int)) := by rw [hw1]; exact C1.out
  have c2 : w1.cell? ⟨g, 2, none⟩ = some (.int .i64 (l : Int)) := by rw [hw1]; exact C2.out
  have f1 : w1.frozen? ⟨g, 1, none⟩ = false := by rw [hw1]; exact F1.out
  have f2 : w1.frozen? ⟨g, 2, none⟩ = false := by rw [hw1]; exact F2.out
  have HW1 := Aside0.mk hw1
  clear hw1
  go_wp2_with fail
  go_still_tail 16, (by kernel_rfl)
  go_wp2
  go_ret
  have hml : xs.length = m := HM.out.symm
  have hql : q.length = l := HL.out.symm
  have hpp := HP.out
  have hdl : (q.drop n.toNat).length = l - p := by rw [List.length_drop]; omega
  have hdp : q.drop n.toNat = q.drop p := by
    rcases Nat.le_total n.toNat q.length with h1 | h1
    · rw [show n.toNat = p by omega]
    · rw [List.drop_eq_nil_of_le h1, List.drop_eq_nil_of_le (by omega)]
  have hh1 : w1.heap[g]? = some (.cells #[.slice (some ⟨r, 0, none⟩) m m, .int .i64 (fr : Int), .int .i64 (l : Int)] 37 (0, 0)) := by
    have := HQ.out.hdr
    rw [hml, hql] at this
    rw [HW1.out]; exact this
  have hr1 : Row w1 r xs := by rw [HW1.out]; exact HQ.out.row
  have hne : r ≠ g := fun e => HQ.out.ne e.symm
  refine ⟨by rw [← HSE.out]; rfl, ?_, ?_⟩
  · refine ⟨xs, tt, rfl, ?_, ?_, ?_, ?_, ?_, ?_, ?_⟩
    · have h2 := blk_set (blk_set hh1 1 (.int .i64 (tt : Int))) 2 (.int .i64 ((l : Int) - (p : Int)))
      rw [hml, hdl]
      unfold Hdr
      rw [show (((l - p : Nat)) : Int) = (l : Int) - (p : Int) by omega]
      exact h2
    · exact (Below.heap_setCell _ _ _ _ hne).trans ((Below.heap_setCell _ _ _ _ hne).trans hr1)
    · omega
    · omega
    · intro _; omega
    · omega
    · rw [hdp, HT.out, ← hml]
      exact HQ.out.ring.take (by omega)
  · refine Only.drew ?_
    refine Only.setCell (S := fun b => b = g) (Only.setCell (S := fun b => b = g) ?_ (p := ⟨g, 1, none⟩) rfl _) (p := ⟨g, 2, none⟩) rfl _
    rw [HW1.out]
    exact (Only.refl w _).drewN nd
/-- Take: the first octets, which go -/
theorem IsQ.take {w : World} {g r m : Nat} {q : List UInt8} (h : IsQ w g r m q) (n : Int) :
    Calls Try.prog 18 #[.pointer (some ⟨g, 0, none⟩), .int .i64 n] w fun e w' => e = .returned (.string ⟨(q.take n.toNat).toArray⟩) ∧ IsQ w' g r m (q.drop n.toNat) ∧ Only w w' (fun b => b = g) := by
  have hle := h.len_le
  by_cases hk : 0 < min n.toNat q.length
  · obtain ⟨xs, fr, rfl, hq⟩ := h
    exact take_some w g r xs fr q n hq _ rfl hk
  · have e1 : q.take n.toNat = [] ∧ q.drop n.toNat = q := by
      rcases Nat.eq_zero_or_pos n.toNat with h1 | h1
      · rw [h1, List.take_zero, List.drop_zero]; exact ⟨rfl, rfl⟩
      · rw [List.length_eq_zero_iff.1 (show q.length = 0 by omega), List.take_nil, List.drop_nil]; exact ⟨rfl, rfl⟩
    rw [e1.1, e1.2]
    have hp := h.peek n
    rw [e1.1] at hp
    refine (take_none w _ n (fun W hW => by subst hW; exact hp)).mono ?_
    rintro e w' ⟨rfl, nd, rfl⟩
    exact ⟨rfl, h.only ((Only.refl w (fun _ => False)).drewN nd) (fun h => h) (fun h => h), (Only.refl w _).drewN nd⟩
end Go.Proofs.Ytacglolggaobdaa.Qu
