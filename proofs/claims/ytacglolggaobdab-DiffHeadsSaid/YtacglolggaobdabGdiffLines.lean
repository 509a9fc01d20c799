/- diff.Lines comes to what diff_Lines.f says: the rows of two lists of at most 1000 lines each, by the lengths of longest common subsequences. -/
import Derived.Test.YtacglolggaobdabMTable
namespace Go.Proofs.Ytacglolggaobdab.PAll
open Go.RowKit Go.Proofs.YtacglolggaobdabW.PrintWords Go.Proofs.YtacglolggaobdabW.PrintLast Go.Proofs.YtacglolggaobdabW.PrintMore
open Go.Proofs.Ytacglolggaobdab.MTable (lcs ent IsTable table_comes)
set_option linter.unusedVariables false
set_option linter.unusedSimpArgs false

def linesOf : List ByteArray → List ByteArray → List S32
  | [], [] => []
  | [], y :: ys => ⟨2, y⟩ :: linesOf [] ys
  | x :: xs, [] => ⟨1, x⟩ :: linesOf xs []
  | x :: xs, y :: ys => if x.toList = y.toList then ⟨0, x⟩ :: linesOf xs ys else if lcs (x :: xs) ys ≤ lcs xs (y :: ys) then ⟨1, x⟩ :: linesOf xs (y :: ys) else ⟨2, y⟩ :: linesOf (x :: xs) ys
termination_by a b => a.length + b.length

def diff_Lines.f (l0 : List ByteArray) (l1 : List ByteArray) : Option (List S32) := if l0.length ≤ 1000 ∧ l1.length ≤ 1000 then some (linesOf l0 l1) else none

theorem infoRow : (Try.prog.info? 32).map (fun i => (i.zero, i.size, i.bytes)) = some (some (.agg #[(.int .i64 0), (.string ⟨#[]⟩)]), 2, 24) := by kernel_rfl
theorem info26 : (Try.prog.info? 26).map (fun i => (i.zero, i.size, i.bytes)) = some (some (.slice none 0 0), 1, 24) := by kernel_rfl

theorem linesOf_eq (x y : ByteArray) (xs ys : List ByteArray) (h : x.toList = y.toList) : linesOf (x :: xs) (y :: ys) = ⟨0, x⟩ :: linesOf xs ys := by rw [linesOf, if_pos h]
theorem linesOf_gone (x y : ByteArray) (xs ys : List ByteArray) (h : ¬ x.toList = y.toList) (h2 : lcs (x :: xs) ys ≤ lcs xs (y :: ys)) : linesOf (x :: xs) (y :: ys) = ⟨1, x⟩ :: linesOf xs (y :: ys) := by rw [linesOf, if_neg h, if_pos h2]
theorem linesOf_new (x y : ByteArray) (xs ys : List ByteArray) (h : ¬ x.toList = y.toList) (h2 : ¬ lcs (x :: xs) ys ≤ lcs xs (y :: ys)) : linesOf (x :: xs) (y :: ys) = ⟨2, y⟩ :: linesOf (x :: xs) ys := by rw [linesOf, if_neg h, if_neg h2]
theorem linesOf_left (x : ByteArray) (xs : List ByteArray) : linesOf (x :: xs) [] = ⟨1, x⟩ :: linesOf xs [] := by rw [linesOf]
theorem linesOf_right (y : ByteArray) (ys : List ByteArray) : linesOf [] (y :: ys) = ⟨2, y⟩ :: linesOf [] ys := by rw [linesOf]
theorem linesOf_nil : linesOf [] [] = [] := by rw [linesOf]

set_option maxHeartbeats 8000000 in
set_option maxRecDepth 100000 in
theorem put_any (Bx : Nat) (W : World) (sign : Int) (s : ByteArray) (v : Value) (xs : List S32) (hbox : W.heap[Bx]? = some (.cells #[v] 26 (0, 0))) (hown : Kd.R k32 32 W (Bx + 1) (fun _ => True) v xs) (hlen : xs.length ≤ 100000) :
    Calls Try.prog 53 #[.int .i64 sign, .string s, .pointer (some ⟨Bx, 0, none⟩)] W fun e w' => ∃ v' : Value, e = .returned (.tuple #[]) ∧ w'.heap[Bx]? = some (.cells #[v'] 26 (0, 0)) ∧ Kd.R k32 32 w' (Bx + 1) (fun _ => True) v' (xs ++ [⟨sign, s⟩]) ∧ Below Bx W w' := by
  have hlt := blk_lt hbox
  have hc : W.cell? ⟨Bx, 0, none⟩ = some v := (blk_cell hbox 0).trans rfl
  have HX := Aside0.mk hbox
  have HO := Aside0.mk hown
  obtain ⟨A, c, rfl⟩ := Kd.R_slice hown
  clear hbox hown
  go_enter Try.func53, Try.ntmps53
  go_wp2_with (at_builtin; refine Kd.R_append k32 (w0 := W) (Bx + 1) rfl (.tmp 5) (.tmp 9) 26 32 (.agg #[(.int .i64 0), (.string ⟨#[]⟩)]) 24 rfl Try.underlying26 infoRow rfl (by decide) (by omega) (.slice A xs.length c) xs (⟨sign, s⟩ : S32) [.int .i64 sign, .string s] (fun _ => True) (fun _ => False) rfl rfl ?aP (fun _ hk => hk.elim) (fun _ _ => trivial) HO.out (Below.refl _ _) (by omega) (by omega) ?_; (case aP => exact k32_mkM _ _ _ (⟨sign, s⟩ : S32)); intro v1 w1 ho hb hg hat; have hb1 := blk_grown HX.out hg (fun e_ => absurd (Kd.R_base HO.out Bx e_.symm) (by omega)); have hc1 : w1.cell? ⟨Bx, 0, none⟩ = some (.slice A xs.length c) := (blk_cell hb1 0).trans rfl; have hf1 := blk_frozen hb1 0; obtain ⟨A1, c1, rfl⟩ := Kd.R_slice ho; have HB1 := Aside0.mk hb1; have HO1 := Aside0.mk ho; have HG1 := Aside0.mk hg; clear hb1 ho hg hat hb)
  go_end0
  have hl : (xs ++ [(⟨sign, s⟩ : S32)]).length = xs.length + 1 := by simp
  have hR := Kd.R_set HO1.out HB1.out (by intro q hq; simp [k32, Kd.iso, Kd.pair, Kd.int, Kd.string, Kd.scalar] at hq; omega) 0 (.slice A1 (xs.length + 1) c1)
  rw [hl] at hR
  exact ⟨_, rfl, blk_set HB1.out 0 _, hR, ((Below.refl Bx W).grown HG1.out (by omega) (fun k hk => Nat.le_of_succ_le (Kd.R_base HO.out k hk))).setCell (Nat.le_refl _) _⟩

/-- What the loop holds at every head. -/
def LinesAt (a b : List ByteArray) (Bx : Nat) (W0 : World) (i k : Nat) (out : List S32) (v : Value) (wr : World) : Prop :=
  i ≤ a.length ∧ k ≤ b.length ∧ out.length ≤ i + k ∧ linesOf a b = out ++ linesOf (a.drop i) (b.drop k) ∧ wr.heap[Bx]? = some (.cells #[v] 26 (0, 0)) ∧ Kd.R k32 32 wr (Bx + 1) (fun _ => True) v out ∧ Below Bx W0 wr

theorem add_succ (a : Addr) (n : Nat) : a.add (n + 1) = ⟨a.block, a.off + (n + 1), none⟩ := by unfold Addr.add; rw [if_neg (by omega)]
theorem getD_rdOf (l : List ByteArray) (i : Nat) : rdOf ByteArray.empty l (i : Int) = l.getD i ByteArray.empty := rfl

theorem rel_same {a b : List ByteArray} {Bx i k : Nat} {W0 w2 : World} {x y : ByteArray} {out : List S32} {v' : Value} (hi : i < a.length) (hk : k < b.length) (hx : x = rdOf ByteArray.empty a (i : Int)) (hy : y = rdOf ByteArray.empty b (k : Int)) (hxy : x.toList = y.toList)
    (hol : out.length ≤ i + k) (heq : linesOf a b = out ++ linesOf (a.drop i) (b.drop k)) (hb : w2.heap[Bx]? = some (.cells #[v'] 26 (0, 0))) (ho : Kd.R k32 32 w2 (Bx + 1) (fun _ => True) v' (out ++ [⟨0, x⟩])) (hB : Below Bx W0 w2) :
    LinesAt a b Bx W0 (i + 1) (k + 1) (out ++ [⟨0, x⟩]) v' w2 := by
  refine ⟨by omega, by omega, by simp; omega, ?_, hb, ho, hB⟩
  rw [heq, MTable.drop_at a i hi, MTable.drop_at b k hk, linesOf_eq _ _ _ _ (by rw [← getD_rdOf, ← getD_rdOf, ← hx, ← hy]; exact hxy), ← getD_rdOf, ← hx]
  simp

theorem rel_gone {a b : List ByteArray} {Bx i k : Nat} {W0 w2 : World} {x y : ByteArray} {out : List S32} {v' : Value} (hi : i < a.length) (hk : k < b.length) (hx : x = rdOf ByteArray.empty a (i : Int)) (hy : y = rdOf ByteArray.empty b (k : Int)) (hxy : ¬ x.toList = y.toList)
    (hc : lcs (a.drop i) (b.drop (k + 1)) ≤ lcs (a.drop (i + 1)) (b.drop k))
    (hol : out.length ≤ i + k) (heq : linesOf a b = out ++ linesOf (a.drop i) (b.drop k)) (hb : w2.heap[Bx]? = some (.cells #[v'] 26 (0, 0))) (ho : Kd.R k32 32 w2 (Bx + 1) (fun _ => True) v' (out ++ [⟨1, x⟩])) (hB : Below Bx W0 w2) :
    LinesAt a b Bx W0 (i + 1) k (out ++ [⟨1, x⟩]) v' w2 := by
  refine ⟨by omega, by omega, by simp; omega, ?_, hb, ho, hB⟩
  rw [MTable.drop_at a i hi, MTable.drop_at b k hk] at hc
  rw [heq, MTable.drop_at a i hi, MTable.drop_at b k hk, linesOf_gone _ _ _ _ (by rw [← getD_rdOf, ← getD_rdOf, ← hx, ← hy]; exact hxy) hc, ← getD_rdOf, ← hx]
  simp

theorem rel_new {a b : List ByteArray} {Bx i k : Nat} {W0 w2 : World} {x y : ByteArray} {out : List S32} {v' : Value} (hi : i < a.length) (hk : k < b.length) (hx : x = rdOf ByteArray.empty a (i : Int)) (hy : y = rdOf ByteArray.empty b (k : Int)) (hxy : ¬ x.toList = y.toList)
    (hc : ¬ lcs (a.drop i) (b.drop (k + 1)) ≤ lcs (a.drop (i + 1)) (b.drop k))
    (hol : out.length ≤ i + k) (heq : linesOf a b = out ++ linesOf (a.drop i) (b.drop k)) (hb : w2.heap[Bx]? = some (.cells #[v'] 26 (0, 0))) (ho : Kd.R k32 32 w2 (Bx + 1) (fun _ => True) v' (out ++ [⟨2, y⟩])) (hB : Below Bx W0 w2) :
    LinesAt a b Bx W0 i (k + 1) (out ++ [⟨2, y⟩]) v' w2 := by
  refine ⟨by omega, by omega, by simp; omega, ?_, hb, ho, hB⟩
  rw [MTable.drop_at a i hi, MTable.drop_at b k hk] at hc
  rw [heq, MTable.drop_at a i hi, MTable.drop_at b k hk, linesOf_new _ _ _ _ (by rw [← getD_rdOf, ← getD_rdOf, ← hx, ← hy]; exact hxy) hc, ← getD_rdOf, ← hy]
  simp

theorem rel_left {a b : List ByteArray} {Bx i k : Nat} {W0 w2 : World} {x : ByteArray} {out : List S32} {v' : Value} (hi : i < a.length) (hkb : k ≤ b.length) (hk : ¬ k < b.length) (hx : x = rdOf ByteArray.empty a (i : Int))
    (hol : out.length ≤ i + k) (heq : linesOf a b = out ++ linesOf (a.drop i) (b.drop k)) (hb : w2.heap[Bx]? = some (.cells #[v'] 26 (0, 0))) (ho : Kd.R k32 32 w2 (Bx + 1) (fun _ => True) v' (out ++ [⟨1, x⟩])) (hB : Below Bx W0 w2) :
    LinesAt a b Bx W0 (i + 1) k (out ++ [⟨1, x⟩]) v' w2 := by
  refine ⟨by omega, by omega, by simp; omega, ?_, hb, ho, hB⟩
  rw [heq, MTable.drop_at a i hi, List.drop_eq_nil_of_le (show b.length ≤ k by omega), linesOf_left, ← getD_rdOf, ← hx]
  simp

theorem rel_right {a b : List ByteArray} {Bx i k : Nat} {W0 w2 : World} {y : ByteArray} {out : List S32} {v' : Value} (hia : i ≤ a.length) (hi : ¬ i < a.length) (hk : k < b.length) (hy : y = rdOf ByteArray.empty b (k : Int))
    (hol : out.length ≤ i + k) (heq : linesOf a b = out ++ linesOf (a.drop i) (b.drop k)) (hb : w2.heap[Bx]? = some (.cells #[v'] 26 (0, 0))) (ho : Kd.R k32 32 w2 (Bx + 1) (fun _ => True) v' (out ++ [⟨2, y⟩])) (hB : Below Bx W0 w2) :
    LinesAt a b Bx W0 i (k + 1) (out ++ [⟨2, y⟩]) v' w2 := by
  refine ⟨by omega, by omega, by simp; omega, ?_, hb, ho, hB⟩
  rw [heq, List.drop_eq_nil_of_le (show a.length ≤ i by omega), MTable.drop_at b k hk, linesOf_right, ← getD_rdOf, ← hy]
  simp

set_option maxHeartbeats 8000000 in
set_option maxRecDepth 100000 in
theorem diff_Lines.calls (A0 : Option Addr) (c0 : Nat) (l0 : List ByteArray) (A1 : Option Addr) (c1 : Nat) (l1 : List ByteArray) (r : List (S32)) (w : World) (hr0 : Kd.C Kd.string w A0 l0.length l0) (hc0 : l0.length ≤ c0) (hr1 : Kd.C Kd.string w A1 l1.length l1) (hc1 : l1.length ≤ c1) (h : diff_Lines.f l0 l1 = some r) :
    Calls Try.prog 16 #[.slice A0 l0.length c0, .slice A1 l1.length c1] w fun e w' => ∃ v0_ : Value, e = .returned (v0_) ∧ Kd.R k32 32 w' w.heap.size (fun _ => True) v0_ r ∧ Below w.heap.size w w' := by
  unfold diff_Lines.f at h
  by_cases hb : l0.length ≤ 1000 ∧ l1.length ≤ 1000
  · rw [if_pos hb] at h
    obtain ⟨hn, hm⟩ := hb
    obtain rfl := Option.some.inj h
    clear h
    obtain ⟨kt, T, hT, hIs⟩ := table_comes l0 l1 hn hm
    have HT := Aside0.mk hT
    have HI := Aside0.mk hIs
    have HR0 := Aside0.mk hr0
    have HC0 := Aside0.mk hc0
    have HR1 := Aside0.mk hr1
    have HC1 := Aside0.mk hc1
    clear hT hIs hr0 hc0 hr1 hc1
    go_enter Try.func16, Try.ntmps16
    go_wp2_with (go_at_call 52; refine (diff_table.calls kt A0 c0 l0 A1 c1 l1 T _ HR0.out HC0.out HR1.out HC1.out HT.out).mono ?_; rintro e w0 ⟨vt, rfl, hS, hB⟩; obtain ⟨At, ct, rfl⟩ := Kd.S_slice hS; have HS := Aside0.mk hS; have HB := Aside0.mk hB; clear hS hB)
    go_loopw [8, 9] (fun v8 v9 wr => ∃ (i k : Nat) (out : List S32) (v : Value), v8 = .int .i64 i ∧ v9 = .int .i64 k ∧ Aside0 (LinesAt l0 l1 w0.heap.size w0 i k out v wr)) (fun v8 v9 _ => (l0.length - (intOf v8).toNat) + (l1.length - (intOf v9).toNat))
    case atStart => exact ⟨0, 0, [], _, rfl, rfl, ⟨by omega, by omega, by simp, by simp, heap_alloc_new w0 _, Kd.R_nil _ _ _ _ _, (Below.refl _ _).alloc (Nat.le_refl _) _⟩⟩
    case round =>
      obtain ⟨i, k, out, v, rfl, rfl, HL⟩ := hrel
      obtain ⟨hi, hk, hol, heq, hbox, hown, hbel⟩ := HL.out
      clear HL
      have hra : Kd.C Kd.string wr A0 l0.length l0 := Kd.C_below (Kd.C_below HR0.out HB.out) hbel
      have hrb : Kd.C Kd.string wr A1 l1.length l1 := Kd.C_below (Kd.C_below HR1.out HB.out) hbel
      have hrt := Kd.C_below (Kd.S_reads' HS.out).2.2 hbel
      have hc := (blk_cell hbox 0).trans rfl
      have hlt := hbel.size
      have HX := Aside0.mk hbox
      have HO := Aside0.mk hown
      have HE := Aside0.mk heq
      have HL := Aside0.mk hbel
      clear hbox hown heq hbel
      by_cases hin : i < l0.length
      · have b1 : decide ((i : Int) < (l0.length : Int)) = true := decide_eq_true (by omega)
        have b1n : decide (i < l0.length) = true := decide_eq_true hin
        obtain ⟨ad, e1, hx⟩ := Kd.at_string hra (i : Int) (by omega) (by omega)
        subst e1
        rw [Int.toNat_natCast] at hx
        by_cases hkm : k < l1.length
        · have b2 : decide ((k : Int) < (l1.length : Int)) = true := decide_eq_true (by omega)
          have b2n : decide (k < l1.length) = true := decide_eq_true hkm
          obtain ⟨bd, e2, hy⟩ := Kd.at_string hrb (k : Int) (by omega) (by omega)
          subst e2
          rw [Int.toNat_natCast] at hy
          obtain ⟨x, hx'⟩ : ∃ x, x = rdOf ByteArray.empty l0 (i : Int) := ⟨_, rfl⟩
          obtain ⟨y, hy'⟩ : ∃ y, y = rdOf ByteArray.empty l1 (k : Int) := ⟨_, rfl⟩
          rw [← hx'] at hx
          rw [← hy'] at hy
          have X := Aside0.mk hx'
          have Y := Aside0.mk hy'
          clear hx' hy'
          by_cases hxy : x.toList = y.toList
          · have b3 : (x.toList == y.toList) = true := beq_iff_eq.2 hxy
            have B3 := Aside0.mk hxy
            clear hxy
            go_wp2
            go_quiet (fail)
            go_wp2_with (go_at_call 53; refine (put_any w0.heap.size _ 0 x v out (blk_drewN HX.out _) (Kd.R_drewN HO.out _) (by omega)).mono ?_; rintro e w2 ⟨v', rfl, hb2, ho2, hB2⟩; have HB2 := Aside0.mk hb2; have HO2 := Aside0.mk ho2; have HL2 := Aside0.mk hB2; clear hb2 ho2 hB2)
            go_roundw
            case rel => exact ⟨i + 1, k + 1, _, v', by go_num, by go_num, ⟨rel_same hin hkm (X.out) (Y.out) B3.out hol HE.out HB2.out HO2.out ((pw_below_drewN HL.out _).trans HL2.out)⟩⟩
            case measure => simp [intOf]; omega
          · have b3 : (x.toList == y.toList) = false := beq_eq_false_iff_ne.2 hxy
            have B3 := Aside0.mk hxy
            clear hxy
            have hI := HI.out
            have hlen1 : ((rd_L5 T ((i : Int) + 1)).length : Int) = l1.length + 1 := by have := hI.2.1 (i + 1) (by omega); show ((T.getD ((i : Int) + 1).toNat []).length : Int) = _; rw [show ((i : Int) + 1).toNat = i + 1 from by omega]; omega
            have hlen0 : ((rd_L5 T (i : Int)).length : Int) = l1.length + 1 := by have := hI.2.1 i (by omega); show ((T.getD (i : Int).toNat []).length : Int) = _; rw [Int.toNat_natCast]; omega
            obtain ⟨td, A4, c4, e4, ht4, hl4, hi4⟩ := at_L5 hrt ((i : Int) + 1) (by omega) (by have := hI.1; omega)
            subst e4
            obtain ⟨td', A5, c5, e5, ht5, hl5, hi5⟩ := at_L5 hrt (i : Int) (by omega) (by have := hI.1; omega)
            cases e5
            obtain ⟨pd, e6, hp⟩ := Kd.at_int hi4 (k : Int) (by omega) (by omega)
            subst e6
            obtain ⟨qd, e7, hq⟩ := Kd.at_int hi5 ((k : Int) + 1) (by omega) (by omega)
            subst e7
            have v6 : rd (rd_L5 T ((i : Int) + 1)) (k : Int) = lcs (l0.drop (i + 1)) (l1.drop k) := by rw [MTable.rd_ent, show ((i : Int) + 1).toNat = i + 1 from by omega, Int.toNat_natCast]; exact hI.2.2 _ _ (by omega) (by omega)
            have v7 : rd (rd_L5 T (i : Int)) ((k : Int) + 1) = lcs (l0.drop i) (l1.drop (k + 1)) := by rw [MTable.rd_ent, show ((k : Int) + 1).toNat = k + 1 from by omega, Int.toNat_natCast]; exact hI.2.2 _ _ (by omega) (by omega)
            rw [v6, Int.toNat_natCast] at hp
            rw [v7, show ((k : Int) + 1).toNat = k + 1 from by omega] at hq
            rw [show ((i : Int) + 1).toNat = i + 1 from by omega] at ht4
            rw [Int.toNat_natCast] at ht5
            rw [add_succ] at ht4 hq
            obtain ⟨n4, hn4⟩ : ∃ n, n = (rd_L5 T ((i : Int) + 1)).length := ⟨_, rfl⟩
            obtain ⟨n5, hn5⟩ : ∃ n, n = (rd_L5 T (i : Int)).length := ⟨_, rfl⟩
            rw [← hn4] at ht4 hlen1
            rw [← hn5] at ht5 hlen0
            clear hl4 hl5 hi4 hi5 v6 v7 hrt hra hrb
            have q1 : (k : Int) < (n4 : Int) := by omega
            have q2 : (k : Int) + 1 < (n5 : Int) := by omega
            have q3 : k < n4 := by omega
            have q4 : k + 1 < n5 := by omega
            have q5 : i < T.length := by have := hI.1; omega
            have q6 : i + 1 < T.length := by have := hI.1; omega
            have q7 : (i : Int) + 1 < (T.length : Int) := by omega
            clear hlen1 hlen0 hn4 hn5 hI
            have b4 : ((k : Int) == (l1.length : Int)) = false := beq_eq_false_iff_ne.2 (by omega)
            have b4n : (k == l1.length) = false := beq_eq_false_iff_ne.2 (by omega)
            have s1 : IntKind.i64.wrap ((i : Int) + 1) = (i : Int) + 1 := IntWalk.i64_in _ (by omega)
            have s2 : IntKind.i64.wrap ((k : Int) + 1) = (k : Int) + 1 := IntWalk.i64_in _ (by omega)
            have s3 : ((i : Int) + 1).toNat = i + 1 := by omega
            have s4 : ((k : Int) + 1).toNat = k + 1 := by omega
            have s5 : (0 : Int) ≤ (i : Int) + 1 := by omega
            have s6 : (0 : Int) ≤ (k : Int) + 1 := by omega
            obtain ⟨c6, hc6⟩ : ∃ n, n = lcs (l0.drop (i + 1)) (l1.drop k) := ⟨_, rfl⟩
            obtain ⟨c7, hc7⟩ : ∃ n, n = lcs (l0.drop i) (l1.drop (k + 1)) := ⟨_, rfl⟩
            rw [← hc6] at hp
            rw [← hc7] at hq
            have C6 := Aside0.mk hc6
            have C7 := Aside0.mk hc7
            clear hc6 hc7
            by_cases hcc : c7 ≤ c6
            · have b5 : decide (c7 ≤ c6) = true := decide_eq_true hcc
              have b6 : decide (c6 ≥ c7) = true := decide_eq_true hcc
              have B5 := Aside0.mk hcc
              clear hcc
              go_wp2
              go_quiet (fail)
              go_wp2
              go_quiet (fail)
              go_wp2_with (go_at_call 53; refine (put_any w0.heap.size _ 1 x v out (blk_drewN HX.out _) (Kd.R_drewN HO.out _) (by omega)).mono ?_; rintro e w2 ⟨v', rfl, hb2, ho2, hB2⟩; have HB2 := Aside0.mk hb2; have HO2 := Aside0.mk ho2; have HL2 := Aside0.mk hB2; clear hb2 ho2 hB2)
              go_roundw
              case rel => exact ⟨i + 1, k, _, v', by go_num, rfl, ⟨rel_gone hin hkm X.out Y.out B3.out (by rw [← C6.out, ← C7.out]; exact B5.out) hol HE.out HB2.out HO2.out ((pw_below_drewN HL.out _).trans HL2.out)⟩⟩
              case measure => simp [intOf]; omega
            · have b5 : decide (c7 ≤ c6) = false := decide_eq_false hcc
              have b6 : decide (c6 ≥ c7) = false := decide_eq_false hcc
              have B5 := Aside0.mk hcc
              clear hcc
              go_wp2
              go_quiet (fail)
              go_wp2
              go_quiet (fail)
              go_wp2_with (go_at_call 53; refine (put_any w0.heap.size _ 2 y v out (blk_drewN HX.out _) (Kd.R_drewN HO.out _) (by omega)).mono ?_; rintro e w2 ⟨v', rfl, hb2, ho2, hB2⟩; have HB2 := Aside0.mk hb2; have HO2 := Aside0.mk ho2; have HL2 := Aside0.mk hB2; clear hb2 ho2 hB2)
              go_roundw
              case rel => exact ⟨i, k + 1, _, v', rfl, by go_num, ⟨rel_new hin hkm X.out Y.out B3.out (by rw [← C6.out, ← C7.out]; have := B5.out; omega) hol HE.out HB2.out HO2.out ((pw_below_drewN HL.out _).trans HL2.out)⟩⟩
              case measure => simp [intOf]; omega
        · have b2 : decide ((k : Int) < (l1.length : Int)) = false := decide_eq_false (by omega)
          have b2n : decide (k < l1.length) = false := decide_eq_false hkm
          have b4 : ((k : Int) == (l1.length : Int)) = true := beq_iff_eq.2 (by omega)
          have b4n : (k == l1.length) = true := beq_iff_eq.2 (by omega)
          obtain ⟨x, hx'⟩ : ∃ x, x = rdOf ByteArray.empty l0 (i : Int) := ⟨_, rfl⟩
          rw [← hx'] at hx
          have X := Aside0.mk hx'
          clear hx'
          go_wp2
          go_quiet (fail)
          go_wp2
          go_quiet (fail)
          go_wp2_with (go_at_call 53; refine (put_any w0.heap.size _ 1 x v out (blk_drewN HX.out _) (Kd.R_drewN HO.out _) (by omega)).mono ?_; rintro e w2 ⟨v', rfl, hb2, ho2, hB2⟩; have HB2 := Aside0.mk hb2; have HO2 := Aside0.mk ho2; have HL2 := Aside0.mk hB2; clear hb2 ho2 hB2)
          go_roundw
          case rel => exact ⟨i + 1, k, _, v', by go_num, rfl, ⟨rel_left hin hk hkm X.out hol HE.out HB2.out HO2.out ((pw_below_drewN HL.out _).trans HL2.out)⟩⟩
          case measure => simp [intOf]; omega
      · have b1 : decide ((i : Int) < (l0.length : Int)) = false := decide_eq_false (by omega)
        have b1n : decide (i < l0.length) = false := decide_eq_false hin
        by_cases hkm : k < l1.length
        · have b2 : decide ((k : Int) < (l1.length : Int)) = true := decide_eq_true (by omega)
          have b2n : decide (k < l1.length) = true := decide_eq_true hkm
          have b4 : ((k : Int) == (l1.length : Int)) = false := beq_eq_false_iff_ne.2 (by omega)
          have b4n : (k == l1.length) = false := beq_eq_false_iff_ne.2 (by omega)
          obtain ⟨bd, e2, hy⟩ := Kd.at_string hrb (k : Int) (by omega) (by omega)
          subst e2
          rw [Int.toNat_natCast] at hy
          obtain ⟨y, hy'⟩ : ∃ y, y = rdOf ByteArray.empty l1 (k : Int) := ⟨_, rfl⟩
          rw [← hy'] at hy
          have Y := Aside0.mk hy'
          clear hy'
          go_wp2
          go_quiet (fail)
          go_wp2
          go_quiet (fail)
          go_wp2_with (go_at_call 53; refine (put_any w0.heap.size _ 2 y v out (blk_drewN HX.out _) (Kd.R_drewN HO.out _) (by omega)).mono ?_; rintro e w2 ⟨v', rfl, hb2, ho2, hB2⟩; have HB2 := Aside0.mk hb2; have HO2 := Aside0.mk ho2; have HL2 := Aside0.mk hB2; clear hb2 ho2 hB2)
          go_roundw
          case rel => exact ⟨i, k + 1, _, v', rfl, by go_num, ⟨rel_right hi hin hkm Y.out hol HE.out HB2.out HO2.out ((pw_below_drewN HL.out _).trans HL2.out)⟩⟩
          case measure => simp [intOf]; omega
        · have b2 : decide ((k : Int) < (l1.length : Int)) = false := decide_eq_false (by omega)
          have b2n : decide (k < l1.length) = false := decide_eq_false hkm
          obtain rfl : i = l0.length := by omega
          obtain rfl : k = l1.length := by omega
          obtain ⟨A6, c6, e6⟩ := Kd.R_slice HO.out
          subst e6
          go_wp2
          go_ret
          have hE := HE.out
          rw [List.drop_length, List.drop_length, linesOf_nil, List.append_nil] at hE
          rw [hE]
          exact ⟨_, rfl, Kd.R_lower HO.out (by have := HB.out.size; omega), HB.out.trans (HL.out.mono HB.out.size)⟩
  · rw [if_neg hb] at h
    cases h

end Go.Proofs.Ytacglolggaobdab.PAll
