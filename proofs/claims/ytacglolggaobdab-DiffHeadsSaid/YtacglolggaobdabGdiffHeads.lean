/- What the lines of a head are; diff.Heads comes to what diff_Heads.f says: the rows of two heads' lines, each behind its sign. -/
import Derived.Test.YtacglolggaobdabGdiffLines
import Derived.Test.YtacglolggaobdabGcanonFields
import Derived.Test.YtacglolggaobdabGdigitsPad
import Derived.Test.YtacglolggaobdabPAllx1
import Derived.Test.YtacglolggaobdabMRefF
import Derived.Deep.RegionHeld3
section
namespace Go.Proofs.Ytacglolggaobdab.PAll
open Go.Proofs.Ytacglolggaobdab.MTable (lcs)
open Go.RowKit Go.Proofs.YtacglolggaobdabW.PrintWords Go.Proofs.YtacglolggaobdabW.PrintLast Go.Proofs.YtacglolggaobdabW.PrintMore Go.Proofs.Ytacglolggaobdab.Hn Go.Proofs.Ytacglolggaobdab.CF Go.Proofs.Ytacglolggaobdab.MR Go.Proofs.Ytacglolggaobdab.MH
set_option linter.unusedVariables false
set_option linter.unusedSimpArgs false

def versionB (mi : Int) : ByteArray := if mi ≤ 0 then ⟨#[72, 84, 84, 80, 47, 49, 46, 48]⟩ else ⟨#[72, 84, 84, 80, 47, 49, 46, 49]⟩
def padB (n : Int) : ByteArray := ⟨(List.replicate (padN n 3) 48 ++ txt n).toArray⟩
def headLine (m t : ByteArray) (mi st : Int) (re : ByteArray) : ByteArray :=
  if m.toList = [] then (((versionB mi ++ ⟨#[32]⟩) ++ padB st) ++ ⟨#[32]⟩) ++ re else (((m ++ ⟨#[32]⟩) ++ t) ++ ⟨#[32]⟩) ++ versionB mi
def fieldLine (f : S83) : ByteArray := if f.f1.toList = [] then f.f0 ++ ⟨#[58]⟩ else (f.f0 ++ ⟨#[58, 32]⟩) ++ f.f1
def headLines (m t : ByteArray) (mi st : Int) (re : ByteArray) (fs : List S83) : List ByteArray := headLine m t mi st re :: (canonF fs).map fieldLine
def okH (m t : ByteArray) (mi st : Int) (re : ByteArray) (fs : List S83) : Prop :=
  okF fs ∧ fs.length ≤ 20 ∧ m.size ≤ 100000 ∧ t.size ≤ 100000 ∧ re.size ≤ 100000 ∧ -9223372036854775808 ≤ st ∧ st ≤ 9223372036854775807
instance (m t : ByteArray) (mi st : Int) (re : ByteArray) (fs : List S83) : Decidable (okH m t mi st re fs) := by unfold okH; exact inferInstance
def signB (n : Int) : ByteArray := if n = 0 then ⟨#[32, 32]⟩ else if n = 1 then ⟨#[45, 32]⟩ else ⟨#[43, 32]⟩
def rowText (r : S32) : ByteArray := signB r.f0 ++ r.f1

theorem cells6 {w : World} {b t : Nat} {v0 v1 v2 v3 v4 v5 : Value} (h : w.heap[b]? = some (.cells #[v0, v1, v2, v3, v4, v5] t (0, 0))) :
    w.cell? ⟨b, 0, none⟩ = some v0 ∧ w.cell? ⟨b, 1, none⟩ = some v1 ∧ w.cell? ⟨b, 2, none⟩ = some v2 ∧ w.cell? ⟨b, 3, none⟩ = some v3 ∧ w.cell? ⟨b, 4, none⟩ = some v4 ∧ w.cell? ⟨b, 5, none⟩ = some v5 :=
  ⟨(blk_cell h 0).trans rfl, (blk_cell h 1).trans rfl, (blk_cell h 2).trans rfl, (blk_cell h 3).trans rfl, (blk_cell h 4).trans rfl, (blk_cell h 5).trans rfl⟩
/-! ### diff_Heads: function 23 -/
def diff_Heads.f (a0_0 : ByteArray) (a0_1 : ByteArray) (a0_2 : Int) (a0_3 : Int) (a0_4 : ByteArray) (l0_5 : List (S83)) (a1_0 : ByteArray) (a1_1 : ByteArray) (a1_2 : Int) (a1_3 : Int) (a1_4 : ByteArray) (l1_5 : List (S83)) : Option (List ByteArray) :=
  if okH a0_0 a0_1 a0_2 a0_3 a0_4 l0_5 ∧ okH a1_0 a1_1 a1_2 a1_3 a1_4 l1_5 then some ((linesOf (headLines a0_0 a0_1 a0_2 a0_3 a0_4 l0_5) (headLines a1_0 a1_1 a1_2 a1_3 a1_4 l1_5)).map rowText) else none

set_option maxHeartbeats 1000000 in
set_option maxRecDepth 100000 in
theorem heads_any (a0_0 : ByteArray) (a0_1 : ByteArray) (a0_2 : Int) (a0_3 : Int) (a0_4 : ByteArray) (A0_5 : Option Addr) (c0_5 : Nat) (l0_5 : List (S83)) (a1_0 : ByteArray) (a1_1 : ByteArray) (a1_2 : Int) (a1_3 : Int) (a1_4 : ByteArray) (A1_5 : Option Addr) (c1_5 : Nat) (l1_5 : List (S83)) (w : World) (hr0_5 : Kd.C k83 w A0_5 l0_5.length l0_5) (hc0_5 : l0_5.length ≤ c0_5) (hr1_5 : Kd.C k83 w A1_5 l1_5.length l1_5) (hc1_5 : l1_5.length ≤ c1_5)
    (k k2 : Nat) (x y : List ByteArray) (hx : diff_lines.f k a0_0 a0_1 a0_2 a0_3 a0_4 l0_5 = some x) (hy : diff_lines.f k2 a1_0 a1_1 a1_2 a1_3 a1_4 l1_5 = some y) (lx : x.length ≤ 1000) (ly : y.length ≤ 1000) (hrows : ∀ r ∈ linesOf x y, 0 ≤ r.f0 ∧ r.f0 ≤ 2 ∧ r.f1.size ≤ 1000000000) (hlen : (linesOf x y).length ≤ 2000) :
    Calls Try.prog 23 #[.agg #[.string a0_0, .string a0_1, .int .i64 a0_2, .int .i64 a0_3, .string a0_4, .slice A0_5 l0_5.length c0_5], .agg #[.string a1_0, .string a1_1, .int .i64 a1_2, .int .i64 a1_3, .string a1_4, .slice A1_5 l1_5.length c1_5]] w fun e w' => ∃ v0_ : Value, e = .returned (v0_) ∧ Kd.R Kd.string 9 w' w.heap.size (fun _ => True) v0_ ((linesOf x y).map rowText) ∧ Below w.heap.size w w' := by
  have h1 := fun W hW hc => diff_lines.calls k a0_0 a0_1 a0_2 a0_3 a0_4 A0_5 c0_5 l0_5 x W hW hc hx
  have h2 := fun W hW hc => diff_lines.calls k2 a1_0 a1_1 a1_2 a1_3 a1_4 A1_5 c1_5 l1_5 y W hW hc hy
  have HR0 := Aside0.mk hr0_5
  have HR1 := Aside0.mk hr1_5
  clear hr0_5 hr1_5 hx hy
  go_enter Try.func23, Try.ntmps23
  go_wp2_with fail
  obtain ⟨W0, hW0⟩ : ∃ W0, W0 = ((w.alloc (.cells #[.string a0_0, .string a0_1, .int .i64 a0_2, .int .i64 a0_3, .string a0_4, .slice A0_5 l0_5.length c0_5] 41)).alloc (.cells #[.string a1_0, .string a1_1, .int .i64 a1_2, .int .i64 a1_3, .string a1_4, .slice A1_5 l1_5.length c1_5] 41)).alloc (.cells #[.string ⟨#[32, 32]⟩, .string ⟨#[45, 32]⟩, .string ⟨#[43, 32]⟩] 90) := ⟨_, rfl⟩
  rw [← hW0]
  have B0 : Below w.heap.size w W0 := by rw [hW0]; exact below_alloc (below_alloc (below_alloc (Below.refl _ _) _) _) _
  have PA : W0.heap[w.heap.size]? = some (.cells #[.string a0_0, .string a0_1, .int .i64 a0_2, .int .i64 a0_3, .string a0_4, .slice A0_5 l0_5.length c0_5] 41 (0, 0)) := by rw [hW0]; exact (Below.heap_alloc _ _ _ (by simp; omega)).trans ((Below.heap_alloc _ _ _ (by simp)).trans (heap_alloc_new w _))
  have PB : W0.heap[w.heap.size + 1]? = some (.cells #[.string a1_0, .string a1_1, .int .i64 a1_2, .int .i64 a1_3, .string a1_4, .slice A1_5 l1_5.length c1_5] 41 (0, 0)) := by
    rw [hW0]
    refine (Below.heap_alloc _ _ _ (by simp)).trans ?_
    have := heap_alloc_new (w.alloc (.cells #[.string a0_0, .string a0_1, .int .i64 a0_2, .int .i64 a0_3, .string a0_4, .slice A0_5 l0_5.length c0_5] 41)) (.cells #[.string a1_0, .string a1_1, .int .i64 a1_2, .int .i64 a1_3, .string a1_4, .slice A1_5 l1_5.length c1_5] 41)
    rwa [World.size_alloc] at this
  have PS : W0.heap[w.heap.size + 1 + 1]? = some (.cells #[.string ⟨#[32, 32]⟩, .string ⟨#[45, 32]⟩, .string ⟨#[43, 32]⟩] 90 (0, 0)) := by
    rw [hW0]
    have := heap_alloc_new ((w.alloc (.cells #[.string a0_0, .string a0_1, .int .i64 a0_2, .int .i64 a0_3, .string a0_4, .slice A0_5 l0_5.length c0_5] 41)).alloc (.cells #[.string a1_0, .string a1_1, .int .i64 a1_2, .int .i64 a1_3, .string a1_4, .slice A1_5 l1_5.length c1_5] 41)) (.cells #[.string ⟨#[32, 32]⟩, .string ⟨#[45, 32]⟩, .string ⟨#[43, 32]⟩] 90)
    rwa [World.size_alloc, World.size_alloc] at this
  have sz : w.heap.size + 1 + 1 < W0.heap.size := by rw [hW0]; simp
  clear hW0
  obtain ⟨ca0, ca1, ca2, ca3, ca4, ca5⟩ := cells6 PA; obtain ⟨cb0, cb1, cb2, cb3, cb4, cb5⟩ := cells6 PB
  have FB := Aside0.mk B0
  have FA := Aside0.mk (And.intro PA (And.intro PB (And.intro PS sz)))
  have H1 := Aside0.mk h1
  have H2 := Aside0.mk h2
  have tok1 : Aside0 True := ⟨trivial⟩
  clear B0 PA PB PS sz h1 h2
  have HF : Aside0 (diff_Lines.f x y = some (linesOf x y)) := ⟨by unfold diff_Lines.f; rw [if_pos ⟨lx, ly⟩]⟩
  go_region_held3 (fun w' => w'.cell? ⟨w.heap.size, 0, none⟩ = some (.string a0_0) ∧ w'.cell? ⟨w.heap.size, 1, none⟩ = some (.string a0_1) ∧ w'.cell? ⟨w.heap.size, 2, none⟩ = some (.int .i64 a0_2) ∧ w'.cell? ⟨w.heap.size, 3, none⟩ = some (.int .i64 a0_3) ∧ w'.cell? ⟨w.heap.size, 4, none⟩ = some (.string a0_4) ∧ w'.cell? ⟨w.heap.size, 5, none⟩ = some (.slice A0_5 l0_5.length c0_5) ∧ w'.cell? ⟨w.heap.size + 1, 0, none⟩ = some (.string a1_0) ∧ w'.cell? ⟨w.heap.size + 1, 1, none⟩ = some (.string a1_1) ∧ w'.cell? ⟨w.heap.size + 1, 2, none⟩ = some (.int .i64 a1_2) ∧ w'.cell? ⟨w.heap.size + 1, 3, none⟩ = some (.int .i64 a1_3) ∧ w'.cell? ⟨w.heap.size + 1, 4, none⟩ = some (.string a1_4) ∧ w'.cell? ⟨w.heap.size + 1, 5, none⟩ = some (.slice A1_5 l1_5.length c1_5)) (first | assumption | go_keep)
    (first
      | (go_at_call 55; have _t := tok1; refine (H1.out _ (Kd.C_below HR0.out (by first | exact FB.out | exact below_drew1 FB.out | exact pw_below_drewN FB.out _)) hc0_5).mono ?_; rintro e w1 ⟨v1, rfl, r1, b1⟩; have PA := (b1.block _ (by have := FA.out.2.2.2; first | omega | (simp; omega))).trans FA.out.1; have PB := (b1.block _ (by have := FA.out.2.2.2; first | omega | (simp; omega))).trans FA.out.2.1; have PS := (b1.block _ (by have := FA.out.2.2.2; first | omega | (simp; omega))).trans FA.out.2.2.1; obtain ⟨ca0, ca1, ca2, ca3, ca4, ca5⟩ := cells6 PA; obtain ⟨cb0, cb1, cb2, cb3, cb4, cb5⟩ := cells6 PB; have sz1 : w.heap.size + 1 + 1 < w1.heap.size := blk_lt PS; have F1 := Aside0.mk (And.intro PA (And.intro PB (And.intro PS sz1))); obtain ⟨q1, c1, rfl, hl1, hC1⟩ := Kd.R_reads r1; have R1 := Aside0.mk (And.intro hl1 hC1); have FB1 := Aside0.mk (below_step (by first | exact FB.out | exact below_drew1 FB.out | exact pw_below_drewN FB.out _) b1); clear tok1 PA PB PS r1 b1 hl1 hC1 sz1)
      | (go_at_call 16; refine (diff_Lines.calls q1 c1 x q2 c2 y (linesOf x y) _ R12.out R1.out.1 R2.out.2 R2.out.1 HF.out).mono ?_; rintro e w3 ⟨v3, rfl, r3, b3⟩; have PA := (b3.block _ (by have := F2.out.2.2.2; first | omega | (simp; omega))).trans F2.out.1; have PB := (b3.block _ (by have := F2.out.2.2.2; first | omega | (simp; omega))).trans F2.out.2.1; have PS := (b3.block _ (by have := F2.out.2.2.2; first | omega | (simp; omega))).trans F2.out.2.2.1; obtain ⟨ca0, ca1, ca2, ca3, ca4, ca5⟩ := cells6 PA; obtain ⟨cb0, cb1, cb2, cb3, cb4, cb5⟩ := cells6 PB; obtain ⟨q3, c3, rfl, hl3, hC3⟩ := Kd.R_reads r3; have R3 := Aside0.mk (And.intro PS (And.intro hl3 hC3)); have FB3 := Aside0.mk (below_step FB2.out b3); clear PA PB PS r3 b3 hl3 hC3)
      | (go_at_call 55; go_loud (refine (H2.out _ (Kd.C_below HR1.out (by first | exact FB1.out | exact below_drew1 FB1.out | exact pw_below_drewN FB1.out _)) hc1_5).mono ?_); rintro e w2 ⟨v2, rfl, r2, b2⟩; have PA := (b2.block _ (by have := F1.out.2.2.2; first | omega | (simp; omega))).trans F1.out.1; have PB := (b2.block _ (by have := F1.out.2.2.2; first | omega | (simp; omega))).trans F1.out.2.1; have PS := (b2.block _ (by have := F1.out.2.2.2; first | omega | (simp; omega))).trans F1.out.2.2.1; obtain ⟨ca0, ca1, ca2, ca3, ca4, ca5⟩ := cells6 PA; obtain ⟨cb0, cb1, cb2, cb3, cb4, cb5⟩ := cells6 PB; have sz2 : w.heap.size + 1 + 1 < w2.heap.size := blk_lt PS; have F2 := Aside0.mk (And.intro PA (And.intro PB (And.intro PS sz2))); obtain ⟨q2, c2, rfl, hl2, hC2⟩ := Kd.R_reads r2; have R2 := Aside0.mk (And.intro hl2 hC2); have R12 := Aside0.mk (Kd.C_below R1.out.2 b2); have FB2 := Aside0.mk (below_step FB1.out b2); clear PA PB PS r2 b2 hl2 hC2 sz2))
  have F3 := Aside0.mk (And.intro FB3.out R3.out)
  clear FB3 R3 FB2 R2 R12 FB1 R1 F1 F2 FA FB ca0 ca1 ca2 ca3 ca4 ca5 cb0 cb1 cb2 cb3 cb4 cb5
  go_wp2
  obtain ⟨L, hL⟩ : ∃ L, L = linesOf x y := ⟨_, rfl⟩
  have HLE := Aside0.mk hL
  rw [← hL] at F3 HF hrows hlen ⊢
  clear hL
  go_loopw [6, 16] (fun v6 v16 wr => ∃ i : Nat, v16 = .int .i64 (i : Int) ∧ Aside0 (i ≤ L.length ∧ Kd.R Kd.string 9 wr w3.heap.size (fun _ => True) v6 ((L.take i).map rowText) ∧ Below w3.heap.size w3 wr)) (fun _ v16 _ => L.length - (intOf v16).toNat)
  case atStart => exact ⟨0, rfl, ⟨Nat.zero_le _, Kd.R_nil _ _ _ _ _, Below.refl _ _⟩⟩
  case round =>
    obtain ⟨i, rfl, HA⟩ := hrel
    by_cases hlt : i < L.length
    · obtain ⟨ad, e, hx0, hx1⟩ := at_T32 (Kd.C_below F3.out.2.2.2 HA.out.2.2) (i : Int) (by omega) (by omega)
      cases e
      have hrd : rd_T32 L (i : Int) = L[i] := by unfold rd_T32; rw [Int.toNat_natCast, List.getD_eq_getElem?_getD, List.getElem?_eq_getElem hlt]; rfl
      rw [hrd, Int.toNat_natCast] at hx0 hx1
      have hr := hrows L[i] (List.getElem_mem _)
      obtain ⟨s, hs⟩ : ∃ s : Nat, L[i].f0 = (s : Int) := ⟨L[i].f0.toNat, by omega⟩
      have hs2 : s ≤ 2 := by omega
      have hts := hr.2.2
      obtain ⟨tx, htx⟩ : ∃ tx, tx = L[i].f1 := ⟨_, rfl⟩
      rw [hs] at hx0
      rw [← htx] at hx1 hts
      have hrow : rowText L[i] = signB (s : Int) ++ tx := by unfold rowText; rw [hs, htx]
      have HROW := Aside0.mk hrow
      have hsg : wr.cell? ⟨w.heap.size + 1 + 1, s, none⟩ = some (.string (signB (s : Int))) := by
        have hb := (HA.out.2.2.block _ (blk_lt F3.out.2.1)).trans F3.out.2.1
        have : s = 0 ∨ s = 1 ∨ s = 2 := by omega
        rcases this with rfl | rfl | rfl
        · exact (blk_cell hb 0).trans rfl
        · exact (blk_cell hb 1).trans rfl
        · exact (blk_cell hb 2).trans rfl
      have hsgs : (signB (s : Int)).size = 2 := by
        have : s = 0 ∨ s = 1 ∨ s = 2 := by omega
        rcases this with rfl | rfl | rfl <;> rfl
      have hsl : w.heap.size + 1 + 1 < wr.heap.size := Nat.lt_of_lt_of_le (blk_lt F3.out.2.1) HA.out.2.2.size
      have z1 : (s : Int) < 3 := by omega
      have z2 : (0 : Int) ≤ (s : Int) := by omega
      obtain ⟨sg, hsgd⟩ : ∃ sg, sg = signB (s : Int) := ⟨_, rfl⟩
      rw [← hsgd] at hsg hsgs
      have HSG := Aside0.mk hsgd
      clear hs htx hrow hr hrd hsgd
      go_wp2_with fail
      obtain ⟨W1, hW1⟩ : ∃ W1, W1 = wr.alloc (.cells #[.int .i64 (s : Int), .string tx] 32) := ⟨_, rfl⟩
      rw [← hW1]
      have c0 : W1.cell? ⟨wr.heap.size, 0, none⟩ = some (.int .i64 (s : Int)) := by rw [hW1]; exact (blk_cell (heap_alloc_new wr _) 0).trans rfl
      have c1 : W1.cell? ⟨wr.heap.size, 1, none⟩ = some (.string tx) := by rw [hW1]; exact (blk_cell (heap_alloc_new wr _) 1).trans rfl
      have c2 : W1.cell? ⟨w.heap.size + 1 + 1, s, none⟩ = some (.string sg) := by rw [hW1]; exact (by have := (below_alloc (Below.refl wr.heap.size wr) (.cells #[.int .i64 (s : Int), .string tx] 32)).block _ hsl; simp only [World.cell?, this] at hsg ⊢; exact hsg)
      have hW1b : Below wr.heap.size wr W1 := by rw [hW1]; exact below_alloc (Below.refl _ _) _
      have HW1 := Aside0.mk hW1b
      have hsum : sg.size + tx.size ≤ 9223372036854775807 := by omega
      have hsum2 : (9223372036854775807 < sg.size + tx.size) = False := eq_false (by omega)
      clear hW1 hsgs hsg hx0 hx1 hW1b
      refine start_ (n := 11) (S := fun w' => w'.cell? ⟨wr.heap.size, 0, none⟩ = some (.int .i64 (s : Int)) ∧ w'.cell? ⟨wr.heap.size, 1, none⟩ = some (.string tx) ∧ w'.cell? ⟨w.heap.size + 1 + 1, s, none⟩ = some (.string sg)) (ds := [9, 10]) #[false, false, false, false, false, false, false, false, false, false, false] (by kernel_rfl) rfl rfl ⟨c0, c1, c2⟩ (fun hHeld => ?_)
      have HW2 := Aside0.mk (below_drew1 HW1.out)
      generalize W1.drew = W2 at HW2 hHeld ⊢
      refine pure_ (i := 0) (N := (some 20)) (v := ?_) (a' := ?_) #[true, false, false, false, false, false, false, false, false, false, false] rfl rfl (by kernel_rfl) (fun _ _ _ h => h) (Or.inl ⟨by rfl, ?_⟩) ?_ ?_
      rotate_left
      · intro w'
        go_simp
        with_reducible rfl
      rotate_left
      · simp only [Act.put, List.setIfInBounds_toArray, List.set_cons_zero, List.set_cons_succ, i64_w, i32_w]
        rfl
      refine pure_ (i := 1) (N := (some 21)) (v := ?_) (a' := ?_) #[true, true, false, false, false, false, false, false, false, false, false] rfl rfl (by kernel_rfl) (fun _ _ _ h => h) (Or.inl ⟨by rfl, ?_⟩) ?_ ?_
      rotate_left
      · intro w'
        go_simp
        with_reducible rfl
      rotate_left
      · simp only [Act.put, List.setIfInBounds_toArray, List.set_cons_zero, List.set_cons_succ, i64_w, i32_w]
        rfl
      refine take_ (i := 2) (N := (some 22)) (v := ?_) (a' := ?_) #[true, true, true, false, false, false, false, false, false, false, false] rfl rfl (by kernel_rfl) (fun _ _ _ h => h) (Or.inl ⟨by rfl, ?_⟩) hHeld ?_ ?_
      rotate_left
      · rintro w' ⟨s0, s1, s2⟩
        go_simp
        with_reducible rfl
      rotate_left
      · simp only [Act.put, List.setIfInBounds_toArray, List.set_cons_zero, List.set_cons_succ, i64_w, i32_w]
        rfl
      refine pure_ (i := 3) (N := (some 23)) (v := ?_) (a' := ?_) #[true, true, true, true, false, false, false, false, false, false, false] rfl rfl (by kernel_rfl) (fun _ _ _ h => h) (Or.inl ⟨by rfl, ?_⟩) ?_ ?_
      rotate_left
      · intro w'
        go_simp
        with_reducible rfl
      rotate_left
      · simp only [Act.put, List.setIfInBounds_toArray, List.set_cons_zero, List.set_cons_succ, i64_w, i32_w]
        rfl
      refine take_ (i := 4) (N := (some 24)) (v := ?_) (a' := ?_) #[true, true, true, true, true, false, false, false, false, false, false] rfl rfl (by kernel_rfl) (fun _ _ _ h => h) (Or.inl ⟨by rfl, ?_⟩) hHeld ?_ ?_
      rotate_left
      · rintro w' ⟨s0, s1, s2⟩
        go_simp
        with_reducible rfl
      rotate_left
      · simp only [Act.put, List.setIfInBounds_toArray, List.set_cons_zero, List.set_cons_succ, i64_w, i32_w]
        rfl
      refine pure_ (i := 5) (N := (some 25)) (v := ?_) (a' := ?_) #[true, true, true, true, true, true, false, false, false, false, false] rfl rfl (by kernel_rfl) (fun _ _ _ h => h) (Or.inl ⟨by rfl, ?_⟩) ?_ ?_
      rotate_left
      · intro w'
        go_simp
        with_reducible rfl
      rotate_left
      · simp only [Act.put, List.setIfInBounds_toArray, List.set_cons_zero, List.set_cons_succ, i64_w, i32_w]
        rfl
      refine take_ (i := 6) (N := (some 26)) (v := ?_) (a' := ?_) #[true, true, true, true, true, true, true, false, false, false, false] rfl rfl (by kernel_rfl) (fun _ _ _ h => h) (Or.inl ⟨by rfl, ?_⟩) hHeld ?_ ?_
      rotate_left
      · rintro w' ⟨s0, s1, s2⟩
        go_simp
        with_reducible rfl
      rotate_left
      · simp only [Act.put, List.setIfInBounds_toArray, List.set_cons_zero, List.set_cons_succ, i64_w, i32_w]
        rfl
      refine pure_ (i := 7) (N := (some 27)) (v := ?_) (a' := ?_) #[true, true, true, true, true, true, true, true, false, false, false] rfl rfl (by kernel_rfl) (fun _ _ _ h => h) (Or.inl ⟨by rfl, ?_⟩) ?_ ?_
      rotate_left
      · intro w'
        go_simp
        with_reducible rfl
      rotate_left
      · simp only [Act.put, List.setIfInBounds_toArray, List.set_cons_zero, List.set_cons_succ, i64_w, i32_w]
        rfl
      refine one_ (i := 8) (N := (some 28)) #[true, true, true, true, true, true, true, true, true, false, false] rfl rfl (by kernel_rfl) (by decide) (fun K hK => ?_)
      refine value_ (w1 := ?_) (v := ?_) (by rfl) rfl ?_ ?_
      rotate_left 2
      · go_simp
        constructor
        · rfl
        · rfl
      refine hK.out _ _ ⟨((below_alloc (Below.refl _ _) _).cell (World.block_lt_of_cell? _ _ hHeld.1)).trans hHeld.1, ((below_alloc (Below.refl _ _) _).cell (World.block_lt_of_cell? _ _ hHeld.2.1)).trans hHeld.2.1, ((below_alloc (Below.refl _ _) _).cell (World.block_lt_of_cell? _ _ hHeld.2.2)).trans hHeld.2.2⟩ (fun hHeld => ?_)
      clear hK K
      refine norm_ (a' := ?_) ?_ ?_
      rotate_left
      · show Act.put _ (some 28) _ = _
        simp only [Act.put, List.setIfInBounds_toArray, List.set_cons_zero, List.set_cons_succ, i64_w, i32_w]
        rfl
      refine last_ (i := 9) (N := (some 29)) #[true, true, true, true, true, true, true, true, true, true, false] rfl rfl (by kernel_rfl) (by decide) (fun K hK => ?_)
      refine Kd.R_append_step Kd.string (w0 := w3) w3.heap.size (by rfl) (.tmp 20) (.tmp 28) 22 9 (.string ⟨#[]⟩) 16 rfl Try.underlying22 info9 rfl (by decide) (by omega) u6 ((L.take i).map rowText) (sg ++ tx) [.string (sg ++ tx)] (fun _ => True) (fun _ => False) rfl rfl ?aP (fun _ hk => hk.elim) (fun _ _ => trivial) ?aO ?aB ?aS ?aL ?_
      (case aP => exact rfl)
      (case aO => exact (by (with_reducible repeat (first | apply Kd.R_alloc | apply Kd.R_drewN | apply Kd.R_drew)); exact Kd.R_below HA.out.2.1 HW2.out))
      (case aB => exact (by repeat (first | (with_reducible first | exact below_step HA.out.2.2 HW2.out | apply below_alloc | apply below_drew1 | apply pw_below_drewN))))
      (case aS => exact (below_size (by repeat (first | (with_reducible first | exact below_step HA.out.2.2 HW2.out | apply below_alloc | apply below_drew1 | apply pw_below_drewN)))))
      (case aL => simp only [List.length_map, List.length_take]; omega)
      intro v2 w2 ho hb hg hat
      have HO2 := Aside0.mk ho
      have HL2 := Aside0.mk hb
      clear ho hb hg hat
      refine hK.out _ _ ?_
      clear hK K
      refine norm_ (a' := ?_) ?_ ?_
      rotate_left
      · show Act.put _ (some 29) _ = _
        simp only [Act.put, List.setIfInBounds_toArray, List.set_cons_zero, List.set_cons_succ, i64_w, i32_w]
        rfl
      refine last_ (i := 10) (N := (some 6)) #[true, true, true, true, true, true, true, true, true, true, true] rfl rfl (by kernel_rfl) (by decide) (fun K hK => ?_)
      refine value_ (w1 := ?_) (v := ?_) (by rfl) rfl ?_ ?_
      rotate_left 2
      · go_simp
        constructor
        · rfl
        · rfl
      refine hK.out _ _ ?_
      clear hK K
      refine norm_ (a' := ?_) ?_ ?_
      rotate_left
      · show Act.put _ (some 6) _ = _
        simp only [Act.put, List.setIfInBounds_toArray, List.set_cons_zero, List.set_cons_succ, i64_w, i32_w]
        rfl
      refine done_ (by kernel_rfl) ?_
      go_wp2
      go_roundw
      case rel => exact ⟨i + 1, by go_num, ⟨by omega, by rw [List.take_succ_eq_append_getElem hlt, List.map_append, List.map_cons, List.map_nil, HROW.out, ← HSG.out]; exact HO2.out, HL2.out⟩⟩
      case measure => simp [intOf]; omega
    · have hR := HA.out.2.1
      rw [List.take_of_length_le (show L.length ≤ i by omega)] at hR
      have HR := Aside0.mk (Kd.R_lower hR F3.out.1.size)
      have HBB := Aside0.mk (below_step F3.out.1 HA.out.2.2)
      clear hR
      go_wp2
      go_ret
      have hfin := HR.out
      rw [HLE.out] at hfin
      exact ⟨_, rfl, hfin, HBB.out⟩

/-! ### the lines of a head -/
theorem version_is (mi : Int) : start_Version.f mi = some (versionB mi) := by unfold start_Version.f versionB; split <;> rfl
theorem version_size (mi : Int) : (versionB mi).size = 8 := by unfold versionB; split <;> rfl
theorem padB_size (n : Int) (h0 : -9223372036854775808 ≤ n) (h1 : n ≤ 9223372036854775807) : (padB n).size ≤ 100 := by
  have := txt_len n h0 h1
  show (⟨(List.replicate (padN n 3) 48 ++ txt n).toArray⟩ : ByteArray).size ≤ _
  have e : (⟨(List.replicate (padN n 3) 48 ++ txt n).toArray⟩ : ByteArray).size = padN n 3 + (txt n).length := by simp [ByteArray.size]
  rw [e]
  unfold padN
  split <;> omega
theorem start_is {m t : ByteArray} {mi st : Int} {re : ByteArray} {fs : List S83} (h : okH m t mi st re fs) : start_Line.f m t mi st re fs = some (headLine m t mi st re) := by
  obtain ⟨_, _, h1, h2, h3, h4, h5⟩ := h
  have hv := version_size mi
  have hp := padB_size st h4 h5
  have e1 : (⟨#[32]⟩ : ByteArray).size = 1 := rfl
  have ep : digits_Pad.f st 3 = some (padB st) := by unfold digits_Pad.f; rw [if_pos ⟨h4, h5, by omega, by omega⟩]; rfl
  unfold start_Line.f headLine
  rw [version_is, ep]
  by_cases hm : m.toList = []
  · rw [if_pos hm, if_pos hm]
    simp only [Option.bind_some, ByteArray.size_append, e1, hv]
    rw [if_pos (by omega), if_pos (by omega), if_pos (by omega), if_pos (by omega)]
  · rw [if_neg hm, if_neg hm]
    simp only [Option.bind_some, ByteArray.size_append, e1, hv]
    rw [if_pos (by omega), if_pos (by omega), if_pos (by omega), if_pos (by omega)]
theorem headLine_size {m t : ByteArray} {mi st : Int} {re : ByteArray} {fs : List S83} (h : okH m t mi st re fs) : (headLine m t mi st re).size ≤ 1000000 := by
  obtain ⟨_, _, h1, h2, h3, h4, h5⟩ := h
  have hv := version_size mi
  have hp := padB_size st h4 h5
  have e1 : (⟨#[32]⟩ : ByteArray).size = 1 := rfl
  unfold headLine
  split <;> simp only [ByteArray.size_append, e1, hv] <;> omega
theorem field_is {f : S83} (h : f.f0.size ≤ 100000 ∧ f.f1.size ≤ 100002000) : field_Line.f f.f0 f.f1 = some (fieldLine f) := by
  have e1 : (⟨#[58, 32]⟩ : ByteArray).size = 2 := rfl
  unfold field_Line.f fieldLine
  by_cases hm : f.f1.toList = []
  · rw [if_pos hm, if_pos hm, if_pos (by omega)]
  · rw [if_neg hm, if_neg hm, if_pos (by omega), if_pos (by rw [ByteArray.size_append, e1]; omega)]
theorem fieldLine_size {f : S83} (h : f.f0.size ≤ 100000 ∧ f.f1.size ≤ 100002000) : (fieldLine f).size ≤ 200000000 := by
  have e1 : (⟨#[58, 32]⟩ : ByteArray).size = 2 := rfl
  have e2 : (⟨#[58]⟩ : ByteArray).size = 1 := rfl
  unfold fieldLine
  split <;> simp only [ByteArray.size_append, e1, e2] <;> omega
theorem dl_l0 (acc : List ByteArray) (x : List S83) (ha : acc.length ≤ 1000) (hl : x.length ≤ 1000) (hs : ∀ f ∈ x, f.f0.size ≤ 100000 ∧ f.f1.size ≤ 100002000) : ∀ (d i : Nat), x.length - i = d → i ≤ x.length →
    Ev (fun n => diff_lines.l0 n (acc ++ (x.take i).map fieldLine) x (x.length : Int) (i : Int)) (acc ++ x.map fieldLine) := by
  intro d
  induction d with
  | zero =>
    intro i hd hi
    rw [List.take_of_length_le (by omega)]
    refine Ev.step (f := fun _ => some (acc ++ x.map fieldLine)) (fun n => ?_) (Ev.now _)
    simp only [diff_lines.l0]
    rw [if_neg (by omega)]
  | succ d ih =>
    intro i hd hi
    have hil : i < x.length := by omega
    have hnext := ih (i + 1) (by omega) (by omega)
    rw [List.take_succ_eq_append_getElem hil, List.map_append, ← List.append_assoc] at hnext
    refine Ev.step (f := fun n => diff_lines.l0 n (acc ++ (x.take i).map fieldLine ++ [fieldLine x[i]]) x (x.length : Int) ((i + 1 : Nat) : Int)) (fun n => ?_) hnext
    simp only [diff_lines.l0]
    rw [if_pos (by omega), if_pos (by omega), if_pos (by omega), rd_at x i hil, field_is (hs _ (List.getElem_mem hil)), Option.bind_some, if_pos (by rw [List.length_append, List.length_map, List.length_take]; omega), w64 (by omega) (by omega)]; rfl
theorem canon_few {fs : List S83} (h : fs.length ≤ 20) : (canonF fs).length ≤ 420 := by
  have h1 := cfTo_len fs fs.length
  have h3 : fs.length * (fs.length + 1) ≤ 20 * 21 := Nat.mul_le_mul h (by omega)
  show (cfTo fs fs.length).length ≤ _
  omega
theorem dlines_comes {m t : ByteArray} {mi st : Int} {re : ByteArray} {fs : List S83} (h : okH m t mi st re fs) : Ev (fun n => diff_lines.f n m t mi st re fs) (headLines m t mi st re fs) := by
  have hc := canon_few h.2.1
  unfold diff_lines.f canon_Fields.f
  rw [start_is h, if_pos h.1]
  have := dl_l0 [headLine m t mi st re] (canonF fs) (by simp) (by omega) (fun f hf => canon_sizes h.1 hf) _ 0 rfl (by omega)
  exact this
theorem headLines_len {m t : ByteArray} {mi st : Int} {re : ByteArray} {fs : List S83} (h : okH m t mi st re fs) : (headLines m t mi st re fs).length ≤ 421 := by
  have hc := canon_few h.2.1
  unfold headLines
  rw [List.length_cons, List.length_map]
  omega
theorem headLines_size {m t : ByteArray} {mi st : Int} {re : ByteArray} {fs : List S83} (h : okH m t mi st re fs) : ∀ s ∈ headLines m t mi st re fs, s.size ≤ 200000000 := by
  intro s hs
  rcases List.mem_cons.1 hs with rfl | hs
  · have := headLine_size h; omega
  · obtain ⟨f, hf, rfl⟩ := List.mem_map.1 hs
    exact fieldLine_size (canon_sizes h.1 hf)
theorem rows_of : ∀ (d : Nat) (a b : List ByteArray), a.length + b.length = d → ∀ r ∈ linesOf a b, 0 ≤ r.f0 ∧ r.f0 ≤ 2 ∧ (r.f1 ∈ a ∨ r.f1 ∈ b) := by
  intro d
  induction d using Nat.strongRecOn with
  | ind d ih =>
  intro a b hd r hr
  cases a with
  | nil =>
    cases b with
    | nil => rw [linesOf_nil] at hr; cases hr
    | cons y ys =>
      rw [linesOf_right] at hr
      rcases List.mem_cons.1 hr with rfl | hr
      · exact ⟨by show (0 : Int) ≤ 2; decide, by show (2 : Int) ≤ 2; decide, Or.inr (by simp)⟩
      · obtain ⟨h1, h2, h3⟩ := ih ys.length (by simp at hd; omega) [] ys (by simp) r hr
        exact ⟨h1, h2, h3.imp id fun h => by simp [h]⟩
  | cons x xs =>
    cases b with
    | nil =>
      rw [linesOf_left] at hr
      rcases List.mem_cons.1 hr with rfl | hr
      · exact ⟨by show (0 : Int) ≤ 1; decide, by show (1 : Int) ≤ 2; decide, Or.inl (by simp)⟩
      · obtain ⟨h1, h2, h3⟩ := ih xs.length (by simp at hd; omega) xs [] (by simp) r hr
        exact ⟨h1, h2, h3.imp (fun h => by simp [h]) id⟩
    | cons y ys =>
      by_cases he : x.toList = y.toList
      · rw [linesOf_eq x y xs ys he] at hr
        rcases List.mem_cons.1 hr with rfl | hr
        · exact ⟨by show (0 : Int) ≤ 0; decide, by show (0 : Int) ≤ 2; decide, Or.inl (by simp)⟩
        · obtain ⟨h1, h2, h3⟩ := ih (xs.length + ys.length) (by simp at hd; omega) xs ys rfl r hr
          exact ⟨h1, h2, h3.imp (fun h => by simp [h]) (fun h => by simp [h])⟩
      · by_cases hl : lcs (x :: xs) ys ≤ lcs xs (y :: ys)
        · rw [linesOf_gone x y xs ys he hl] at hr
          rcases List.mem_cons.1 hr with rfl | hr
          · exact ⟨by show (0 : Int) ≤ 1; decide, by show (1 : Int) ≤ 2; decide, Or.inl (by simp)⟩
          · obtain ⟨h1, h2, h3⟩ := ih (xs.length + (y :: ys).length) (by simp at hd ⊢; omega) xs (y :: ys) rfl r hr
            exact ⟨h1, h2, h3.imp (fun h => by simp [h]) id⟩
        · rw [linesOf_new x y xs ys he hl] at hr
          rcases List.mem_cons.1 hr with rfl | hr
          · exact ⟨by show (0 : Int) ≤ 2; decide, by show (2 : Int) ≤ 2; decide, Or.inr (by simp)⟩
          · obtain ⟨h1, h2, h3⟩ := ih ((x :: xs).length + ys.length) (by simp at hd ⊢; omega) (x :: xs) ys rfl r hr
            exact ⟨h1, h2, h3.imp id (fun h => by simp [h])⟩
theorem rows_len : ∀ (d : Nat) (a b : List ByteArray), a.length + b.length = d → (linesOf a b).length ≤ d := by
  intro d
  induction d using Nat.strongRecOn with
  | ind d ih =>
  intro a b hd
  cases a with
  | nil =>
    cases b with
    | nil => rw [linesOf_nil]; simp
    | cons y ys => rw [linesOf_right, List.length_cons]; have := ih ys.length (by simp at hd; omega) [] ys (by simp); simp at hd; omega
  | cons x xs =>
    cases b with
    | nil => rw [linesOf_left, List.length_cons]; have := ih xs.length (by simp at hd; omega) xs [] (by simp); simp at hd; omega
    | cons y ys =>
      by_cases he : x.toList = y.toList
      · rw [linesOf_eq x y xs ys he, List.length_cons]; have := ih (xs.length + ys.length) (by simp at hd; omega) xs ys rfl; simp at hd; omega
      · by_cases hl : lcs (x :: xs) ys ≤ lcs xs (y :: ys)
        · rw [linesOf_gone x y xs ys he hl, List.length_cons]; have := ih (xs.length + (y :: ys).length) (by simp at hd ⊢; omega) xs (y :: ys) rfl; simp at hd this; omega
        · rw [linesOf_new x y xs ys he hl, List.length_cons]; have := ih ((x :: xs).length + ys.length) (by simp at hd ⊢; omega) (x :: xs) ys rfl; simp at hd this; omega

theorem diff_Heads.calls (a0_0 : ByteArray) (a0_1 : ByteArray) (a0_2 : Int) (a0_3 : Int) (a0_4 : ByteArray) (A0_5 : Option Addr) (c0_5 : Nat) (l0_5 : List (S83)) (a1_0 : ByteArray) (a1_1 : ByteArray) (a1_2 : Int) (a1_3 : Int) (a1_4 : ByteArray) (A1_5 : Option Addr) (c1_5 : Nat) (l1_5 : List (S83)) (r : List ByteArray) (w : World) (hr0_5 : Kd.C k83 w A0_5 l0_5.length l0_5) (hc0_5 : l0_5.length ≤ c0_5) (hr1_5 : Kd.C k83 w A1_5 l1_5.length l1_5) (hc1_5 : l1_5.length ≤ c1_5) (h : diff_Heads.f a0_0 a0_1 a0_2 a0_3 a0_4 l0_5 a1_0 a1_1 a1_2 a1_3 a1_4 l1_5 = some r) :
    Calls Try.prog 23 #[.agg #[.string a0_0, .string a0_1, .int .i64 a0_2, .int .i64 a0_3, .string a0_4, .slice A0_5 l0_5.length c0_5], .agg #[.string a1_0, .string a1_1, .int .i64 a1_2, .int .i64 a1_3, .string a1_4, .slice A1_5 l1_5.length c1_5]] w fun e w' => ∃ v0_ : Value, e = .returned (v0_) ∧ Kd.R Kd.string 9 w' w.heap.size (fun _ => True) v0_ r ∧ Below w.heap.size w w' := by
  unfold diff_Heads.f at h
  by_cases hb : okH a0_0 a0_1 a0_2 a0_3 a0_4 l0_5 ∧ okH a1_0 a1_1 a1_2 a1_3 a1_4 l1_5
  · rw [if_pos hb] at h
    obtain rfl := Option.some.inj h
    obtain ⟨k, hk⟩ := (dlines_comes hb.1).rounds
    obtain ⟨k2, hk2⟩ := (dlines_comes hb.2).rounds
    have l1 := headLines_len hb.1
    have l2 := headLines_len hb.2
    refine heads_any a0_0 a0_1 a0_2 a0_3 a0_4 A0_5 c0_5 l0_5 a1_0 a1_1 a1_2 a1_3 a1_4 A1_5 c1_5 l1_5 w hr0_5 hc0_5 hr1_5 hc1_5 k k2 _ _ hk hk2 (by omega) (by omega) (fun r hr => ?_) (Nat.le_trans (rows_len _ _ _ rfl) (by omega))
    obtain ⟨h1, h2, h3⟩ := rows_of _ _ _ rfl r hr
    refine ⟨h1, h2, ?_⟩
    rcases h3 with h3 | h3
    · have := headLines_size hb.1 _ h3; omega
    · have := headLines_size hb.2 _ h3; omega
  · rw [if_neg hb] at h
    cases h
end Go.Proofs.Ytacglolggaobdab.PAll
