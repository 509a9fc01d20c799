/- The strings.Builder in the midst of a wire: copyCheck, WriteString, String. -/
import Derived.Test.YtacglolggaobdaaLRefD
import Derived.Lib.FrozenHead
namespace Go.Proofs.Ytacglolggaobdaa.Qu
open Go.RowKit Go.Proofs.YtacglolggaobdaaW.PrintWords Go.Proofs.YtacglolggaobdaaW.PrintLast Go.Proofs.YtacglolggaobdaaW.PrintMore
attribute [local go_sem] max2_int min2_int max_two min_two max_three min_three max_four min_four
set_option linter.unusedVariables false
set_option linter.unusedSimpArgs false

/-- the wire's block: its stock, its builder's address and buffer -/
def WH (w : World) (wb sb : Nat) (p v : Value) : Prop := w.heap[wb]? = some (.cells #[.pointer (some ⟨sb, 0, none⟩), p, v] 101 (0, 0))
theorem WH.c0 {w : World} {wb sb : Nat} {p v : Value} (h : WH w wb sb p v) : w.cell? ⟨wb, 0, none⟩ = some (.pointer (some ⟨sb, 0, none⟩)) := (blk_cell h 0).trans rfl
theorem WH.c1 {w : World} {wb sb : Nat} {p v : Value} (h : WH w wb sb p v) : w.cell? ⟨wb, 1, none⟩ = some p := (blk_cell h 1).trans rfl
theorem WH.c2 {w : World} {wb sb : Nat} {p v : Value} (h : WH w wb sb p v) : w.cell? ⟨wb, 2, none⟩ = some v := (blk_cell h 2).trans rfl
def selfP (wb : Nat) : Value := .pointer (some ⟨wb, 1, none⟩)
/-- the builder's buffer holds T; its row, if any, lies from base on -/
def Buf (w : World) (B0 : Nat) (v : Value) (T : List UInt8) : Prop := w.ownsRowF B0 5 1 v T.length (Lib.byteCells T)

set_option maxRecDepth 100000 in
theorem wcopy_new (w : World) (wb sb : Nat) (v : Value) (h : WH w wb sb (.pointer none) v) : Calls Try.prog 114 #[.pointer (some ⟨wb, 1, none⟩)] w fun e w' => e = .returned (.tuple #[]) ∧ w' = w.setCell ⟨wb, 1, none⟩ (selfP wb) := by
  have c1 := h.c1
  have f1 := blk_frozen h 1
  obtain ⟨j, hj, hjs⟩ := Option.map_eq_some_iff.1 (show (Try.prog.info? 99).map (·.size) = some 2 by kernel_rfl)
  have hsh : w.shape? wb = some (101, 3) := by unfold WH at h; simp [World.shape?, h]
  have hto : (convert 97 135 (.pointer (some ⟨wb, 1, none⟩))).run Try.prog w = .ok (.pointer (some ⟨wb, 1, none⟩)) w := Lib.run_to_unsafe w ⟨wb, 1, none⟩ Try.underlying97 Try.underlying135 hj (by rw [hjs]; decide) hsh (show 1 < 3 by decide)
  have hce : (callFunc 121 #[.pointer (some ⟨wb, 1, none⟩)]).run Try.prog w = .ok (.value (.pointer (some ⟨wb, 1, none⟩))) w :=
    (run_callFunc_extern Try.func121 (by kernel_rfl) (by kernel_rfl) (by kernel_rfl) (e := Extern.AbiNoEscape.same) (by kernel_rfl) _ _).trans (by rw [Lib.run_noEscape]; rfl)
  have hfr : (convert 135 97 (.pointer (some ⟨wb, 1, none⟩))).run Try.prog w = .ok (.pointer (some ⟨wb, 1, none⟩)) w := Lib.run_from_unsafe w ⟨wb, 1, none⟩ Try.underlying135 Try.underlying97 hj hsh (show liesAt Try.prog Try.prog.depth 101 (3 / Try.prog.cellsOf 101) 1 99 1 = true by kernel_rfl)
  clear h hj hsh
  go_enter Try.func114, Try.ntmps114
  go_wp2
  go_end0
  exact ⟨rfl, rfl⟩
set_option maxRecDepth 100000 in
theorem wcopy_old (w : World) (wb sb : Nat) (v : Value) (h : WH w wb sb (selfP wb) v) : Calls Try.prog 114 #[.pointer (some ⟨wb, 1, none⟩)] w fun e w' => e = .returned (.tuple #[]) ∧ w = w' := by
  have c1 : w.cell? ⟨wb, 1, none⟩ = some (.pointer (some ⟨wb, 1, none⟩)) := h.c1
  have hnp : ∀ W, (binOp .neq 97 (.pointer (some ⟨wb, 1, none⟩)) (.pointer (some ⟨wb, 1, none⟩))).run Try.prog W = .ok (.bool false) W := fun W => by
    obtain ⟨j, hj, _⟩ := Option.map_eq_some_iff.1 (show (Try.prog.info? 99).map (·.size) = some 2 by kernel_rfl)
    exact Lib.run_neq_ptr_same W _ Try.underlying97 hj
  clear h
  go_enter Try.func114, Try.ntmps114
  go_wp2
  go_end0
  exact ⟨rfl, rfl⟩

/-! ### The wire, whole -/
/-- its blocks, and where the blocks of its builder begin -/
structure Dk where
  wb : Nat
  sb : Nat
  B0 : Nat
structure WX where
  A : List UInt8
  r : Nat
  e : Bool
  T : List UInt8
def ST (w : World) (sb : Nat) (A : List UInt8) (r : Nat) (e : Bool) : Prop := w.heap[sb]? = some (.cells #[.string (st A), .int .i64 (r : Int), .bool e] 96 (0, 0))
theorem ST.c0 {w : World} {sb : Nat} {A : List UInt8} {r : Nat} {e : Bool} (h : ST w sb A r e) : w.cell? ⟨sb, 0, none⟩ = some (.string (st A)) := (blk_cell h 0).trans rfl
theorem ST.c1 {w : World} {sb : Nat} {A : List UInt8} {r : Nat} {e : Bool} (h : ST w sb A r e) : w.cell? ⟨sb, 1, none⟩ = some (.int .i64 (r : Int)) := (blk_cell h 1).trans rfl
theorem ST.c2 {w : World} {sb : Nat} {A : List UInt8} {r : Nat} {e : Bool} (h : ST w sb A r e) : w.cell? ⟨sb, 2, none⟩ = some (.bool e) := (blk_cell h 2).trans rfl
theorem ST.setA {w : World} {sb : Nat} {A : List UInt8} {r : Nat} {e : Bool} (h : ST w sb A r e) (N : List UInt8) : ST (w.setCell ⟨sb, 0, none⟩ (.string (st N))) sb N r e := blk_set h 0 _
theorem ST.setR {w : World} {sb : Nat} {A : List UInt8} {r : Nat} {e : Bool} (h : ST w sb A r e) (N : Nat) : ST (w.setCell ⟨sb, 1, none⟩ (.int .i64 (N : Int))) sb A N e := blk_set h 1 _
theorem ST.setE {w : World} {sb : Nat} {A : List UInt8} {r : Nat} {e : Bool} (h : ST w sb A r e) (b : Bool) : ST (w.setCell ⟨sb, 2, none⟩ (.bool b)) sb A r b := blk_set h 2 _
theorem WH.set1 {w : World} {wb sb : Nat} {p v : Value} (h : WH w wb sb p v) (q : Value) : WH (w.setCell ⟨wb, 1, none⟩ q) wb sb q v := blk_set h 1 _
theorem WH.set2 {w : World} {wb sb : Nat} {p v : Value} (h : WH w wb sb p v) (q : Value) : WH (w.setCell ⟨wb, 2, none⟩ q) wb sb p q := blk_set h 2 _
/-- a row of octets -/
def T5 (w : World) (x : Nat) : Prop := ∃ cs fz, w.heap[x]? = some (.cells cs 5 fz)
structure WP (w : World) (D : Dk) (p v : Value) (x : WX) : Prop where
  hdr : WH w D.wb D.sb p v
  st : ST w D.sb x.A x.r x.e
  buf : Buf w D.B0 v x.T
  nil : x.T = [] → v = .slice none 0 0
  pp : p = .pointer none ∨ p = selfP D.wb
  lw : D.wb < D.B0
  ls : D.sb < D.B0
  sz : D.B0 ≤ w.heap.size
def Wi (w : World) (D : Dk) (x : WX) : Prop := ∃ p v, WP w D p v x
/-- what the wire's own methods write -/
def Dk.S (D : Dk) (w : World) (x : Nat) : Prop := x = D.wb ∨ x = D.sb ∨ (D.B0 ≤ x ∧ T5 w x)
theorem Buf.own {w : World} {B0 : Nat} {v : Value} {T : List UInt8} (h : Buf w B0 v T) {k : Nat} (hk : v.ownBlock = some k) : B0 ≤ k ∧ T5 w k := by
  refine ⟨(h.lt k hk).1, ?_⟩
  rcases h.2 with ⟨rfl, _⟩ | ⟨g, cap, cur, fz, rfl, hb, hg, _⟩
  · simp [Value.ownBlock] at hk
  · simp only [Value.ownBlock, Option.some.injEq] at hk
    subst hk
    exact ⟨_, _, hg⟩
theorem Buf.only {w w' : World} {B0 : Nat} {v : Value} {T : List UInt8} {S : Nat → Prop} (h : Buf w B0 v T) (ho : Only w w' S) (hs : ∀ k, v.ownBlock = some k → ¬ S k) : Buf w' B0 v T := by
  refine ⟨h.1, ?_⟩
  rcases h.2 with hn | ⟨g, cap, cur, fz, rfl, hb, hg, rest⟩
  · exact .inl hn
  · exact .inr ⟨g, cap, cur, fz, rfl, hb, ho.blk hg (hs g rfl), rest⟩
theorem WP.only {w w' : World} {D : Dk} {p v : Value} {x : WX} {S : Nat → Prop} (h : WP w D p v x) (ho : Only w w' S) (h1 : ¬ S D.wb) (h2 : ¬ S D.sb) (h3 : ∀ k, D.B0 ≤ k → T5 w k → ¬ S k) : WP w' D p v x :=
  ⟨ho.blk h.hdr h1, ho.blk h.st h2, h.buf.only ho (fun k hk => h3 k (h.buf.own hk).1 (h.buf.own hk).2), h.nil, h.pp, h.lw, h.ls, Nat.le_trans h.sz ho.size⟩
theorem Wi.only {w w' : World} {D : Dk} {x : WX} {S : Nat → Prop} (h : Wi w D x) (ho : Only w w' S) (h1 : ¬ S D.wb) (h2 : ¬ S D.sb) (h3 : ∀ k, D.B0 ≤ k → T5 w k → ¬ S k) : Wi w' D x := by
  obtain ⟨p, v, h⟩ := h
  exact ⟨p, v, h.only ho h1 h2 h3⟩
theorem wcopy {w : World} {D : Dk} {p v : Value} {x : WX} (h : WP w D p v x) : Calls Try.prog 114 #[.pointer (some ⟨D.wb, 1, none⟩)] w fun e w' => e = .returned (.tuple #[]) ∧ WP w' D (selfP D.wb) v x ∧ Only w w' (fun k => k = D.wb) := by
  rcases h.pp with rfl | rfl
  · refine (wcopy_new w D.wb D.sb v h.hdr).mono ?_
    rintro e w' ⟨rfl, rfl⟩
    have ho : Only w (w.setCell ⟨D.wb, 1, none⟩ (selfP D.wb)) (fun k => k = D.wb) := only_set D.wb 1 _
    refine ⟨rfl, ⟨h.hdr.set1 _, ho.blk h.st (fun e => blk_ne h.st h.hdr (by decide) e), h.buf.only ho (fun k hk e => ?_), h.nil, .inr rfl, h.lw, h.ls, Nat.le_trans h.sz ho.size⟩, ho⟩
    have := (h.buf.own hk).1
    have := h.lw
    omega
  · refine (wcopy_old w D.wb D.sb v h.hdr).mono ?_
    rintro e w' ⟨rfl, rfl⟩
    exact ⟨rfl, h, Only.refl w _⟩
set_option maxHeartbeats 4000000 in
set_option maxRecDepth 100000 in
theorem wstr {w : World} {D : Dk} {x : WX} (h : Wi w D x) (t : ByteArray) (ht : x.T.length + t.size ≤ 1000000) : Calls Try.prog 103 #[.pointer (some ⟨D.wb, 1, none⟩), .string t] w fun e w' => e = .returned (.tuple #[.int .i64 (t.size : Int), .nilIface]) ∧ Wi w' D { x with T := x.T ++ t.data.toList } ∧ Only w w' (D.S w) := by
  obtain ⟨p, v, h⟩ := h
  obtain ⟨i0, hi, hz0, hz1, hz2⟩ := info_parts info5
  have H := Aside0.mk h
  clear h
  go_enter Try.func103, Try.ntmps103
  go_wp2_with fail
  refine (wcopy H.out).mono ?_
  rintro e w1 ⟨rfl, h1, hb1⟩
  have c2 := h1.hdr.c2
  have hown := h1.buf
  unfold Buf at hown
  have hs1 := h1.sz
  have H1 := Aside0.mk (And.intro h1 hb1)
  clear h1 hb1
  go_wp2_with (at_builtin; refine Lib.wpList_append_own_stringF _ rfl _ _ 35 9 rfl D.B0 5 i0 Try.underlying35 Try.underlying9 hi hz0 hz1 hz2 _ _ _ rfl hown t rfl ?c3 ?c4 ?c5 ?_)
  case c3 => unfold maxLen; omega
  case c4 => omega
  case c5 => omega
  intro v' w2 hown' hgrow hnil
  obtain ⟨h1, hb1⟩ := H1.out
  have hne : v.ownBlock ≠ some D.wb := fun e => by have := (h1.buf.own e).1; have := h1.lw; omega
  have hws := blk_ne h1.hdr h1.st (by decide)
  have hne2 : v.ownBlock ≠ some D.sb := fun e => by have := (h1.buf.own e).1; have := h1.ls; omega
  have k1 : WH w2 D.wb D.sb (selfP D.wb) v := (hgrow.block D.wb (blk_lt h1.hdr) (fun e => hne e.symm)).trans h1.hdr
  have k2 : ST w2 D.sb x.A x.r x.e := (hgrow.block D.sb (blk_lt h1.st) (fun e => hne2 e.symm)).trans h1.st
  have f2 := blk_frozen k1 2
  have d2 := k1.c2
  have ho : Only w1 w2 (fun k => v.ownBlock = some k) := ⟨hgrow.os, hgrow.tape, hgrow.output, hgrow.size, fun k hk hs => hgrow.block k hk (fun e => hs e.symm)⟩
  have hbuf : Buf w2 D.B0 v' (x.T ++ t.data.toList) := by
    unfold Buf
    rw [List.length_append, data_length, Lib.byteCells_append]
    exact hown'
  have hnl : x.T ++ t.data.toList = [] → v' = .slice none 0 0 := fun e => hnil.2 ⟨h1.nil (List.append_eq_nil_iff.1 e).1, ByteArray.ext (Array.toList_inj.1 ((List.append_eq_nil_iff.1 e).2.trans rfl))⟩
  obtain ⟨ao, n', cap, rfl⟩ : ∃ ao n' cap, v' = .slice ao n' cap := by
    rcases hown'.2 with ⟨hv, _⟩ | ⟨g, cap, cur, fz, hv, _⟩
    · exact ⟨_, _, _, hv⟩
    · exact ⟨_, _, _, hv⟩
  have H2 := Aside0.mk (And.intro k1 (And.intro k2 (And.intro ho (And.intro hbuf (And.intro hnl hws)))))
  clear k1 k2 ho hbuf hnl hnil hgrow hown' hown h1 hb1 hne hne2 c2 hs1 hi hz0 hz1 hz2 ht hws
  go_wp2
  go_ret2
  obtain ⟨h1, hb1⟩ := H1.out
  obtain ⟨k1, k2, ho, hbuf, hnl, hws⟩ := H2.out
  have ho3 : Only w2 (w2.setCell ⟨D.wb, 2, none⟩ (.slice ao n' cap)) (fun k => k = D.wb) := only_set D.wb 2 _
  have hlw := h1.lw
  have hsub : ∀ k, k < w.heap.size → k ≠ D.wb → v.ownBlock = some k → D.B0 ≤ k ∧ T5 w k := fun k hk hn e => by
    obtain ⟨h2, cs, fz, h3⟩ := h1.buf.own e
    exact ⟨h2, cs, fz, (hb1.block k hk hn).symm.trans h3⟩
  refine ⟨rfl, ⟨selfP D.wb, .slice ao n' cap, k1.set2 _, ho3.blk k2 (fun e => hws e.symm), hbuf.only ho3 (fun k hk e => by have := (hbuf.own hk).1; omega), hnl, .inr rfl, h1.lw, h1.ls, Nat.le_trans h1.sz (Nat.le_trans ho.size ho3.size)⟩, ?_⟩
  refine ⟨?_, ?_, ?_, ?_, fun k hk hs => ?_⟩
  · exact ho3.os.trans (ho.os.trans hb1.os)
  · exact ho3.tape.trans (ho.tape.trans hb1.tape)
  · exact ho3.output.trans (ho.output.trans hb1.output)
  · exact Nat.le_trans hb1.size (Nat.le_trans ho.size ho3.size)
  · have hk1 : k ≠ D.wb := fun e => hs (.inl e)
    have hk2 : ¬ v.ownBlock = some k := fun e => hs (.inr (.inr (hsub k hk hk1 e)))
    have hl1 := hb1.size
    have hl2 := ho.size
    exact (ho3.block k (by omega) hk1).trans ((ho.block k (by omega) hk2).trans (hb1.block k hk hk1))

/-! ### String -/
theorem cells5 : Try.prog.cellsOf 5 = 1 := by kernel_rfl
set_option maxHeartbeats 4000000 in
set_option maxRecDepth 100000 in
theorem wtext {w : World} {D : Dk} {x : WX} (h : Wi w D x) : Calls Try.prog 88 #[.pointer (some ⟨D.wb, 1, none⟩)] w fun e w' => e = .returned (.string (st x.T)) ∧ Wi w' D x ∧ Only w w' (D.S w) := by
  obtain ⟨p, v, h⟩ := h
  by_cases hT : x.T = []
  · have hv := h.nil hT
    subst hv
    have c2 : w.drew.cell? ⟨D.wb, 2, none⟩ = some (.slice none 0 0) := h.hdr.c2
    have hUS : ∀ W q, (Builtin.unsafeString_ #[119, 3] 9 #[.pointer q, .int .i64 0]).run Try.prog W = .ok (.string .empty) W := fun W q => Lib.run_unsafeString_none W _ _ _ q
    have hSD : (Builtin.unsafeSliceData_ #[35] 119 #[.slice none 0 0]).run Try.prog w.drew = .ok (.pointer none) w.drew := rfl
    have H := Aside0.mk (And.intro h hT)
    clear h hT
    go_enter Try.func88, Try.ntmps88
    go_wp2
    go_region
    all_goals (go_wp2; go_ret; obtain ⟨h, hT⟩ := H.out; exact ⟨by rw [hT]; rfl, ⟨p, _, h.only ((Only.refl w (fun _ => False)).drewN 1) (fun e => e) (fun e => e) (fun _ _ _ e => e)⟩, (Only.refl w _).drewN 1⟩)
  · obtain ⟨g, cap, cur, fz, rfl, hbg, hg, hfz, hnc, hcm, hcs, htake⟩ : ∃ g cap cur fz, v = .slice (some ⟨g, 0, none⟩) x.T.length cap ∧ D.B0 ≤ g ∧ w.heap[g]? = some (.cells cur 5 fz) ∧ fz.2 ≤ x.T.length * 1 ∧ x.T.length ≤ cap ∧ cap ≤ maxLen ∧ cur.size = cap * 1 ∧ cur.toList.take (x.T.length * 1) = Lib.byteCells x.T := by
      rcases h.buf.2 with ⟨_, hz⟩ | ⟨g, cap, cur, fz, hv, r⟩
      · exact absurd (List.length_eq_zero_iff.1 hz) hT
      · exact ⟨g, cap, cur, fz, hv, r⟩
    have hl0 : x.T.length ≠ 0 := fun e => hT (List.length_eq_zero_iff.1 e)
    have c2 : w.drew.cell? ⟨D.wb, 2, none⟩ = some (.slice (some ⟨g, 0, none⟩) x.T.length cap) := h.hdr.c2
    have hSD : (Builtin.unsafeSliceData_ #[35] 119 #[.slice (some ⟨g, 0, none⟩) x.T.length cap]).run Try.prog w.drew = .ok (.pointer (some ⟨g, 0, none⟩)) w.drew :=
      Lib.run_unsafeSliceData_row _ _ _ _ _ _ (by omega)
    have hUS : (Builtin.unsafeString_ #[119, 3] 9 #[.pointer (some ⟨g, 0, none⟩), .int .i64 x.T.length]).run Try.prog w.drew = .ok (.string ⟨x.T.toArray⟩) (w.drew.freeze ⟨g, 0, none⟩ x.T.length) := by
      refine Lib.run_unsafeString_row w.drew 119 3 9 5 Try.underlying119 cells5 g cur.size (by have hg' : w.drew.heap[g]? = some (.cells cur 5 fz) := hg; simp [World.shape?, hg']) x.T hT (by omega) (by unfold maxLen at hcm; omega) ?_
      intro j y hy
      exact World.ownsRowF.cells h.buf (g := g) rfl j (.int .u8 y.toNat) (by simp [Lib.byteCells, hy])
    obtain ⟨W, hW⟩ : ∃ W, W = w.drew.freeze ⟨g, 0, none⟩ x.T.length := ⟨_, rfl⟩
    rw [← hW] at hUS
    have ho : Only w W (fun k => k = g) := by
      rw [hW]
      unfold World.freeze
      rw [if_neg hl0]
      exact ⟨rfl, rfl, rfl, by simp, fun k hk hs => by simp only [Array.getElem?_modify]; rw [if_neg (fun e => hs e.symm)]; rfl⟩
    obtain ⟨fz', hg', hfz'⟩ : ∃ fz', W.heap[g]? = some (.cells cur 5 fz') ∧ fz'.2 ≤ x.T.length * 1 := by
      have hg2 : w.drew.heap[g]? = some (.cells cur 5 fz) := hg
      rw [hW]
      unfold World.freeze
      rw [if_neg hl0]
      obtain ⟨lo, hi⟩ := fz
      refine ⟨(if lo == hi then (0, 0 + x.T.length) else (min lo 0, max hi (0 + x.T.length))), by simp [Array.getElem?_modify, hg2], ?_⟩
      simp only at hfz
      split <;> simp <;> omega
    have hwi : Wi W D x := by
      refine ⟨p, _, ho.blk h.hdr (fun e => by have := h.lw; omega), ho.blk h.st (fun e => by have := h.ls; omega), ⟨h.buf.1, .inr ⟨g, cap, cur, fz', rfl, hbg, hg', hfz', hnc, hcm, hcs, htake⟩⟩, h.nil, h.pp, h.lw, h.ls, Nat.le_trans h.sz ho.size⟩
    have ho2 : Only w W (D.S w) := ho.mono (fun k _ e => .inr (.inr (by rw [e]; exact ⟨hbg, _, _, hg⟩)))
    have H := Aside0.mk (And.intro hwi ho2)
    clear h hT hW ho hg' hfz' hg hfz hnc hcm hcs htake hwi ho2 hbg hl0
    go_enter Try.func88, Try.ntmps88
    go_wp2
    go_region
    all_goals (go_wp2; go_ret; exact ⟨rfl, H.out⟩)
end Go.Proofs.Ytacglolggaobdaa.Qu
