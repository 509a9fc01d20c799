/- The contracts of the wire's methods: made, Left, Sent, Send, End, Read, Grant. -/
import Derived.Test.YtacglolggaobdaaWBuild
import Derived.Test.YtacglolggaobdaaLPlays
namespace Go.Proofs.Ytacglolggaobdaa.Qu
open Go.RowKit Go.Proofs.YtacglolggaobdaaW.PrintWords Go.Proofs.YtacglolggaobdaaW.PrintLast Go.Proofs.YtacglolggaobdaaW.PrintMore
attribute [local go_sem] max2_int min2_int max_two min_two max_three min_three max_four min_four
set_option linter.unusedVariables false
set_option linter.unusedSimpArgs false

theorem drewN_two (w : World) (n m : Nat) : (w.drewN n).drewN m = w.drewN (n + m) := by simp [World.drewN, Nat.add_assoc]
theorem Wi.drewN {w : World} {D : Dk} {x : WX} (h : Wi w D x) (n : Nat) : Wi (w.drewN n) D x := h.only ((Only.refl w (fun _ => False)).drewN n) (fun e => e) (fun e => e) (fun _ _ _ e => e)
theorem Wi.hdr {w : World} {D : Dk} {x : WX} (h : Wi w D x) : ∃ p v, WH w D.wb D.sb p v := by obtain ⟨p, v, h⟩ := h; exact ⟨p, v, h.hdr⟩
theorem Wi.c0 {w : World} {D : Dk} {x : WX} (h : Wi w D x) : w.cell? ⟨D.wb, 0, none⟩ = some (.pointer (some ⟨D.sb, 0, none⟩)) := by obtain ⟨p, v, h⟩ := h; exact h.hdr.c0
theorem Wi.st {w : World} {D : Dk} {x : WX} (h : Wi w D x) : ST w D.sb x.A x.r x.e := by obtain ⟨p, v, h⟩ := h; exact h.st
theorem Wi.ne {w : World} {D : Dk} {x : WX} (h : Wi w D x) : D.wb ≠ D.sb := by obtain ⟨p, v, h⟩ := h; exact blk_ne h.hdr h.st (by decide)
/-- the stock has turned, and nothing else -/
theorem Wi.stock {w w' : World} {D : Dk} {x : WX} (h : Wi w D x) {A : List UInt8} {r : Nat} {e : Bool} (hs : ST w' D.sb A r e) (ho : Only w w' (fun b => b = D.sb)) : Wi w' D ⟨A, r, e, x.T⟩ := by
  have hn := h.ne
  obtain ⟨p, v, h⟩ := h
  exact ⟨p, v, ho.blk h.hdr hn, hs, h.buf.only ho (fun k hk e => by have := (h.buf.own hk).1; have := h.ls; omega), h.nil, h.pp, h.lw, h.ls, Nat.le_trans h.sz ho.size⟩
theorem wmade (w : World) (D : Dk) (h : w.cell? ⟨D.wb, 0, none⟩ = some (.pointer (some ⟨D.sb, 0, none⟩))) : Calls Try.prog 86 #[.pointer (some ⟨D.wb, 0, none⟩)] w fun e w' => e = .returned (.bool true) ∧ w = w' := by
  go_enter Try.func86, Try.ntmps86
  go_wp2
  go_ret
  exact ⟨rfl, rfl⟩
theorem stleft {w : World} {sb : Nat} {A : List UInt8} {r : Nat} {e : Bool} (h : ST w sb A r e) (hr : r ≤ A.length) (hA : A.length ≤ 1000000) (n : Nat) : Calls Try.prog 87 #[.pointer (some ⟨sb, 0, none⟩)] (w.drewN n) fun x w' => x = .returned (.int .i64 ((A.length - r : Nat) : Int)) ∧ ∃ nd, w' = w.drewN nd := by
  have c0 : (w.drewN n).cell? ⟨sb, 0, none⟩ = some (.string (st A)) := h.c0
  have c1 : (w.drewN n).cell? ⟨sb, 1, none⟩ = some (.int .i64 (r : Int)) := h.c1
  have hsz := st_size A
  have hwr : IntKind.i64.wrap ((A.length : Int) - (r : Int)) = ((A.length - r : Nat) : Int) := by rw [IntWalk.i64_in _ (by omega)]; omega
  generalize hW : w.drewN n = W at *
  have HW := Aside0.mk hW
  clear h hr hA hW
  go_enter Try.func87, Try.ntmps87
  go_wp2_with fail
  go_quiet (fail)
  go_wp2
  go_ret
  exact ⟨rfl, n + _, by rw [← HW.out]; exact drewN_two w n _⟩

/-- what is sent, read and ended of it is within bounds -/
structure WX.ok (x : WX) : Prop where
  rA : x.r ≤ x.A.length
  lA : x.A.length ≤ 900000
  lT : x.T.length ≤ 900000
theorem Wi.left {w : World} {D : Dk} {x : WX} (h : Wi w D x) (hk : x.ok) (n : Nat) : Calls Try.prog 45 #[.pointer (some ⟨D.wb, 0, none⟩)] (w.drewN n) fun y w' => y = .returned (.int .i64 ((x.A.length - x.r : Nat) : Int)) ∧ ∃ nd, w' = w.drewN nd := by
  have c0 : (w.drewN n).cell? ⟨D.wb, 0, none⟩ = some (.pointer (some ⟨D.sb, 0, none⟩)) := h.c0
  have HM := Aside0.mk (wmade (w.drewN n) D c0)
  have HL := Aside0.mk (stleft h.st hk.rA (Nat.le_trans hk.lA (by decide)) n)
  clear h hk
  go_enter Try.func45, Try.ntmps45
  go_wp2_with (first | (go_at_call 86; refine HM.out.mono ?_; rintro e w' ⟨rfl, rfl⟩))
  refine HL.out.mono ?_
  rintro e w' ⟨rfl, nd, rfl⟩
  go_wp2
  go_ret
  exact ⟨rfl, _, rfl⟩
theorem Wi.sent {w : World} {D : Dk} {x : WX} (h : Wi w D x) : Calls Try.prog 46 #[.pointer (some ⟨D.wb, 0, none⟩)] w fun y w' => y = .returned (.string (Qu.st x.T)) ∧ Wi w' D x ∧ Only w w' (D.S w) := by
  have c0 := h.c0
  have HM := Aside0.mk (wmade w D c0)
  have HL := Aside0.mk (wtext h)
  clear h
  go_enter Try.func46, Try.ntmps46
  go_wp2_with (first | (go_at_call 86; refine HM.out.mono ?_; rintro e w' ⟨rfl, rfl⟩))
  refine HL.out.mono ?_
  rintro e w' ⟨rfl, hq, ho⟩
  have H := Aside0.mk (And.intro hq ho)
  clear hq ho
  go_wp2
  go_ret
  exact ⟨rfl, H.out⟩
theorem Wi.end_ {w : World} {D : Dk} {x : WX} (h : Wi w D x) : Calls Try.prog 82 #[.pointer (some ⟨D.wb, 0, none⟩)] w fun y w' => y = .returned (.tuple #[]) ∧ Wi w' D { x with e := true } ∧ Only w w' (D.S w) := by
  have c0 := h.c0
  have HM := Aside0.mk (wmade w D c0)
  have hst := h.st
  have hc2 := hst.c2
  have hf2 := blk_frozen hst 2
  have HE : Calls Try.prog 102 #[.pointer (some ⟨D.sb, 0, none⟩)] w fun y w' => y = .returned (.tuple #[]) ∧ w' = w.setCell ⟨D.sb, 2, none⟩ (.bool true) := by
    clear h hst HM c0
    go_enter Try.func102, Try.ntmps102
    go_wp2
    go_end0
    exact ⟨rfl, rfl⟩
  have HL := Aside0.mk HE
  have H := Aside0.mk h
  clear h hst HE hc2 hf2
  go_enter Try.func82, Try.ntmps82
  go_wp2_with (first | (go_at_call 86; refine HM.out.mono ?_; rintro e w' ⟨rfl, rfl⟩))
  refine HL.out.mono ?_
  rintro e w' ⟨rfl, rfl⟩
  go_wp2
  go_end0
  exact ⟨rfl, H.out.stock (H.out.st.setE true) (only_set D.sb 2 _), (only_set D.sb 2 _).mono (fun _ _ e => .inr (.inl e))⟩
set_option maxHeartbeats 4000000 in
set_option maxRecDepth 100000 in
theorem Wi.send {w : World} {D : Dk} {x : WX} (h : Wi w D x) (t : ByteArray) (ht : x.A.length + t.size ≤ 900000) : Calls Try.prog 79 #[.pointer (some ⟨D.wb, 0, none⟩), .string t] w fun y w' => y = .returned (.int .i64 ((if x.e then 0 else t.size : Nat) : Int)) ∧ Wi w' D { x with A := if x.e then x.A else x.A ++ t.data.toList } ∧ Only w w' (D.S w) := by
  have c0 := h.c0
  have HM := Aside0.mk (wmade w D c0)
  have hst := h.st
  have hc2 := hst.c2
  have hc0 := hst.c0
  have hf0 := blk_frozen hst 0
  obtain ⟨A, r, e, T⟩ := x
  have H := Aside0.mk h
  simp only at hc2 hc0 ht
  cases e with
  | true =>
    clear h hst ht
    go_enter Try.func79, Try.ntmps79
    go_wp2_with (first | (go_at_call 86; refine HM.out.mono ?_; rintro e w' ⟨rfl, rfl⟩))
    go_ret
    exact ⟨rfl, H.out, Only.refl _ _⟩
  | false =>
    have hsA := st_size A
    have hwr : IntKind.i64.wrap (1048576 - (A.length : Int)) = 1048576 - (A.length : Int) := IntWalk.i64_in _ (by omega)
    have hmin : (if 1048576 - (A.length : Int) < (t.size : Int) then 1048576 - (A.length : Int) else (t.size : Int)) = (t.size : Int) := by split <;> omega
    have hcut : ∀ W, (Instr.slice 9 (.string t) none (some (.int .i64 (t.size : Int))) none).run Try.prog W = .ok (.string t) W := fun W => by
      rw [run_slice_string_h W 9 t Try.underlying9 .i64 _ (by omega) (by omega), Int.toNat_natCast, st_take, List.take_of_length_le (by rw [data_length]; exact Nat.le_refl _), st_data]
    obtain ⟨zA, hzA⟩ : ∃ z, z = Qu.st A := ⟨_, rfl⟩
    obtain ⟨zN, hzN⟩ : ∃ z, z = Qu.st (A ++ t.data.toList) := ⟨_, rfl⟩
    have hcat : ∀ W, (Op.stringOp .add zA t).run Try.prog W = .ok (.string zN) W := fun W => by
      rw [run_string_add_sum W zA t (by rw [hzA, hsA]; omega), hzA, show Qu.st A ++ t = Qu.st A ++ Qu.st t.data.toList by rw [st_data], st_append, hzN]
    rw [← hzA] at hc0 hsA
    have HN := Aside0.mk hzN
    clear h hst hzA hzN
    go_enter Try.func79, Try.ntmps79
    go_wp2_with (first | (go_at_call 86; refine HM.out.mono ?_; rintro e w' ⟨rfl, rfl⟩))
    go_ret
    refine ⟨rfl, ?_, (only_set D.sb 0 _).mono (fun _ _ e => .inr (.inl e))⟩
    rw [HN.out]
    exact H.out.stock (H.out.st.setA _) (only_set D.sb 0 _)
end Go.Proofs.Ytacglolggaobdaa.Qu
