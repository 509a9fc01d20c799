/- octet.Fold compares two names without regard to case; the predicate that header.named makes. slices.ContainsFunc over names with whatever predicate; the predicate that header.named makes of names. -/
import Derived.Test.YtacglolggaobdabPAllx0
import Derived.Test.YtacglolggaobdabOct
import Derived.BigQuiet
section
namespace Go.Proofs.Ytacglolggaobdab.Hn
open Go.RowKit Go.Proofs.YtacglolggaobdabW.PrintWords Go.Proofs.YtacglolggaobdabW.PrintLast Go.Proofs.YtacglolggaobdabW.PrintMore Go.Proofs.Ytacglolggaobdab.PAll
set_option linter.unusedVariables false
set_option linter.unusedSimpArgs false

def low (c : UInt8) : UInt8 := if 65 ≤ c.toNat ∧ c.toNat ≤ 90 then c + 32 else c
def lowL (s : ByteArray) : List UInt8 := s.data.toList.map low
def foldB (a b : ByteArray) : Bool := decide (lowL a = lowL b)

theorem low_nat (c : UInt8) : ((low c).toNat : Int) = if 65 ≤ c.toNat ∧ c.toNat ≤ 90 then (c.toNat : Int) + 32 else (c.toNat : Int) := by
  unfold low
  split
  · have := c.toNat_lt
    rw [UInt8.toNat_add]
    simp
    omega
  · rfl

theorem lower_any (c : UInt8) (w : World) : Calls Try.prog 71 #[.int .u8 (c.toNat : Int)] w fun e w' => e = .returned (.int .u8 ((low c).toNat : Int)) ∧ w = w' := by
  have h0 := low_nat c
  have h1 := c.toNat_lt
  by_cases h : 65 ≤ c.toNat ∧ c.toNat ≤ 90
  · rw [if_pos h] at h0
    obtain ⟨ha, hb⟩ := h
    rw [h0]
    obtain ⟨n, hn⟩ : ∃ n : Nat, n = c.toNat := ⟨_, rfl⟩
    rw [← hn] at ha hb h1 ⊢
    clear h0 hn
    go_enter Try.func71, Try.ntmps71
    go_wp2
    go_ret
    refine ⟨?_, rfl⟩
    refine congrArg (fun z => Ending.returned (.int .u8 z)) ?_
    first | omega | (simp [IntKind.wrap, IntKind.bits, IntKind.signed]; omega)
  · rw [if_neg h] at h0
    rw [h0]
    obtain ⟨n, hn⟩ : ∃ n : Nat, n = c.toNat := ⟨_, rfl⟩
    rw [← hn] at h ⊢
    clear h0 hn
    by_cases h3 : 65 ≤ n
    · have h4 : ¬ n ≤ 90 := fun h4 => h ⟨h3, h4⟩
      clear h
      go_enter Try.func71, Try.ntmps71
      go_wp2
      go_ret
      exact ⟨rfl, rfl⟩
    · clear h
      go_enter Try.func71, Try.ntmps71
      go_wp2
      go_ret
      exact ⟨rfl, rfl⟩

theorem index_at (s : ByteArray) (i : Nat) (h : i < s.data.toList.length) (W : World) : (Instr.index 9 (.string s) (.int .i64 (i : Int))).run Try.prog W = .ok (.int .u8 ((s.data.toList[i]).toNat : Int)) W := by
  have hs : i < s.size := by simpa using h
  rw [run_index_string W 9 _ .i64 _ Try.underlying9, dif_pos ⟨by omega, by omega⟩]
  rfl
theorem lowL_get (s : ByteArray) (i : Nat) (h : i < s.data.toList.length) : (lowL s)[i]? = some (low (s.data.toList[i])) := by
  unfold lowL
  rw [List.getElem?_map, List.getElem?_eq_getElem h]; rfl

set_option maxHeartbeats 1000000 in
set_option maxRecDepth 100000 in
theorem fold_any (a b : ByteArray) (w : World) (ha : a.size ≤ 9223372036854775807) (hb : b.size ≤ 9223372036854775807) : Calls Try.prog 43 #[.string a, .string b] w fun e w' => e = .returned (.bool (foldB a b)) ∧ Drawn0 w w' := by
  by_cases hl : a.size = b.size
  · obtain ⟨r, hr⟩ : ∃ r, r = foldB a b := ⟨_, rfl⟩
    rw [← hr]
    have HR := Aside0.mk hr
    have hsa : a.size = a.data.toList.length := by simp
    have hsb : b.size = b.data.toList.length := by simp
    have SA := Aside0.mk hsa
    have SB := Aside0.mk hsb
    clear hr hsa hsb
    go_enter Try.func43, Try.ntmps43
    go_wp2
    go_loopw [13] (fun v13 wr => ∃ (i : Nat), v13 = .int .i64 (i : Int) ∧ Aside0 (i ≤ a.size ∧ (lowL a).take i = (lowL b).take i ∧ Drawn0 w wr)) (fun v13 _ => a.size - (intOf v13).toNat)
    case atStart => exact ⟨0, rfl, ⟨by omega, by simp, Drawn0.refl _⟩⟩
    case round =>
      obtain ⟨i, rfl, HA⟩ := hrel
      obtain ⟨hi, heq, ⟨m1, rfl⟩⟩ := HA.out
      clear HA
      have HE := Aside0.mk heq
      clear heq
      by_cases hlt : i < a.size
      · have hia : i < a.data.toList.length := by rw [← SA.out]; exact hlt
        have hib : i < b.data.toList.length := by rw [← SB.out]; omega
        have hxa := index_at a i hia
        have hxb := index_at b i hib
        have ga := lowL_get a i hia
        have gb := lowL_get b i hib
        obtain ⟨x, hx⟩ : ∃ x, x = a.data.toList[i] := ⟨_, rfl⟩
        obtain ⟨y, hy⟩ : ∃ y, y = b.data.toList[i] := ⟨_, rfl⟩
        rw [← hx] at hxa ga
        rw [← hy] at hxb gb
        have GA := Aside0.mk ga
        have GB := Aside0.mk gb
        clear ga gb hx hy
        by_cases he : low x = low y
        · have he1 : (((low x).toNat : Int) != ((low y).toNat : Int)) = false := by rw [he]; simp
          have HE2 := Aside0.mk he
          clear he
          go_wp2
          go_quiet (first | (go_at_call 71; (with_reducible refine (lower_any x _).mono ?_); rintro e w' ⟨rfl, rfl⟩; try exact ⟨rfl, _, rfl⟩) | (go_at_call 71; (with_reducible refine (lower_any y _).mono ?_); rintro e w' ⟨rfl, rfl⟩; try exact ⟨rfl, _, rfl⟩))
          go_wp2
          go_roundw
          case rel =>
            refine ⟨i + 1, by go_num, ⟨by omega, ?_, ?_⟩⟩
            · rw [List.take_add_one, List.take_add_one, HE.out, GA.out, GB.out, HE2.out]
            · exact ⟨m1 + nq, rfl⟩
          case measure => simp [intOf]; omega
        · have he1 : (((low x).toNat : Int) != ((low y).toNat : Int)) = true := by
            refine bne_iff_ne.2 (fun h => he ?_)
            exact UInt8.toNat_inj.1 (Int.ofNat_inj.1 h)
          have hr : r = false := by
            rw [HR.out]; unfold foldB
            refine decide_eq_false (fun h => he ?_)
            have g := GA.out
            rw [h, GB.out] at g
            exact (Option.some.inj g).symm
          subst hr
          clear he
          go_wp2
          go_quiet (first | (go_at_call 71; (with_reducible refine (lower_any x _).mono ?_); rintro e w' ⟨rfl, rfl⟩; try exact ⟨rfl, _, rfl⟩) | (go_at_call 71; (with_reducible refine (lower_any y _).mono ?_); rintro e w' ⟨rfl, rfl⟩; try exact ⟨rfl, _, rfl⟩))
          go_wp2
          go_ret
          exact ⟨rfl, m1 + nq, World.drewN_drewN _ _ _⟩
      · have hr : r = true := by
          rw [HR.out]; unfold foldB
          refine decide_eq_true ?_
          have e := HE.out
          rw [List.take_of_length_le (by unfold lowL; rw [List.length_map, ← SA.out]; omega), List.take_of_length_le (by unfold lowL; rw [List.length_map, ← SB.out]; omega)] at e
          exact e
        subst hr
        go_wp2
        go_ret
        exact ⟨rfl, _, rfl⟩
  · have hr : foldB a b = false := by
      unfold foldB
      refine decide_eq_false (fun h => hl ?_)
      have := congrArg List.length h
      simpa [lowL] using this
    rw [hr]
    clear hr
    go_enter Try.func43, Try.ntmps43
    go_wp2
    go_ret
    exact ⟨rfl, Drawn0.refl _⟩
end Go.Proofs.Ytacglolggaobdab.Hn
end

section
namespace Go.Proofs.Ytacglolggaobdab.Hn
open Go.RowKit Go.Proofs.YtacglolggaobdabW.PrintWords Go.Proofs.YtacglolggaobdabW.PrintLast Go.Proofs.YtacglolggaobdabW.PrintMore Go.Proofs.Ytacglolggaobdab.PAll
set_option linter.unusedVariables false
set_option linter.unusedSimpArgs false

/-- What is asked of a predicate, at the values of L: it answers p, and turns nothing that lay in w. -/
def Pred {α : Type} (g F : Nat) (enc : α → Value) (p : α → Bool) (L : List α) (w : World) : Prop :=
  ∀ (W : World) (x : α), x ∈ L → Below w.heap.size w W → Calls Try.prog g #[enc x, .pointer (some ⟨F, 0, none⟩)] W fun e w' => e = .returned (.bool (p x)) ∧ Below W.heap.size W w'
theorem Pred.mono {α : Type} {g F : Nat} {enc : α → Value} {p : α → Bool} {L : List α} {w w' : World} (h : Pred g F enc p L w) (hb : Below w.heap.size w w') : Pred g F enc p L w' :=
  fun W x hx hW => h W x hx (below_step hb hW)

/-- the place of the first of which p holds; -1: none -/
def idx {α : Type} (p : α → Bool) (l : List α) : Int := match l.findIdx? p with | some i => (i : Int) | none => -1
theorem idx_hit {α : Type} (p : α → Bool) (l : List α) (i : Nat) (hi : i < l.length) (hp : p l[i] = true) (h : ∀ j (hj : j < i), p (l[j]'(by omega)) = false) : idx p l = (i : Int) := by
  unfold idx
  rw [List.findIdx?_eq_some_iff_getElem.2 ⟨hi, hp, fun j hj => by rw [h j hj]; simp⟩]
theorem idx_miss {α : Type} (p : α → Bool) (l : List α) (h : ∀ j (hj : j < l.length), p l[j] = false) : idx p l = -1 := by
  unfold idx
  rw [List.findIdx?_eq_none_iff.2 (fun x hx => by obtain ⟨j, hj, rfl⟩ := List.mem_iff_getElem.1 hx; exact h j hj)]
theorem idx_any {α : Type} (p : α → Bool) (l : List α) : decide (0 ≤ idx p l) = l.any p := by
  unfold idx
  cases h : l.findIdx? p with
  | some i =>
    obtain ⟨hi, hp, _⟩ := List.findIdx?_eq_some_iff_getElem.1 h
    rw [decide_eq_true (by simp), List.any_eq_true.2 ⟨_, List.getElem_mem hi, hp⟩]
  | none =>
    rw [decide_eq_false (by simp), eq_comm, Bool.eq_false_iff]
    intro h2
    obtain ⟨x, hx, hp⟩ := List.any_eq_true.1 h2
    have := List.findIdx?_eq_none_iff.1 h x hx
    simp [hp] at this

set_option maxHeartbeats 1000000 in
set_option maxRecDepth 100000 in
theorem indexS_named (A : Option Addr) (c : Nat) (l : List ByteArray) (F : Nat) (p : ByteArray → Bool) (w : World)
    (hr : Kd.C Kd.string w A l.length l) (hlen : l.length ≤ 1000000) (hp : Pred 115 F Value.string p l w) :
    Calls Try.prog 94 #[.slice A l.length c, .func (.func 115) #[] #[.pointer (some ⟨F, 0, none⟩)]] w fun e w' => e = .returned (.int .i64 (idx p l)) ∧ Below w.heap.size w w' := by
  have HR := Aside0.mk hr
  have HP := Aside0.mk hp
  clear hr hp
  go_enter Try.func94, Try.ntmps94
  go_wp2
  go_loopw [8] (fun v8 wr => ∃ i : Nat, v8 = .int .i64 (i : Int) ∧ Aside0 (i ≤ l.length ∧ (∀ j (hj : j < l.length), j < i → p l[j] = false) ∧ Below w.heap.size w wr)) (fun v8 _ => l.length - (intOf v8).toNat)
  case atStart => exact ⟨0, rfl, ⟨by omega, fun j hj h => absurd h (by omega), Below.refl _ _⟩⟩
  case round =>
    obtain ⟨i, rfl, HA⟩ := hrel
    obtain ⟨hi, hno, hbel⟩ := HA.out
    clear HA
    have HN := Aside0.mk hno
    clear hno
    by_cases hlt : i < l.length
    · obtain ⟨ad, rfl, hx⟩ := Kd.at_string (Kd.C_below HR.out hbel) (i : Int) (by omega) (by omega)
      have hget : rdOf ByteArray.empty l (i : Int) = l[i] := by
        unfold rdOf; rw [Int.toNat_natCast, List.getD_eq_getElem?_getD, List.getElem?_eq_getElem hlt]; rfl
      rw [hget, Int.toNat_natCast] at hx
      obtain ⟨x, hxe⟩ : ∃ x, x = l[i] := ⟨_, rfl⟩
      have HX := Aside0.mk hxe
      have HL := Aside0.mk hbel
      rw [← hxe] at hx
      have hcall := HP.out wr x (by rw [hxe]; exact List.getElem_mem _) hbel
      clear hxe hbel hget
      cases hq : p x with
      | true =>
        have HQ := Aside0.mk hq
        rw [hq] at hcall
        clear hq
        go_wp2_with (go_at_call 115; refine hcall.mono ?_; rintro e w' ⟨rfl, hb'⟩; have HB := Aside0.mk hb'; clear hb')
        go_ret
        refine ⟨?_, below_step HL.out HB.out⟩
        rw [idx_hit p l i hlt (by rw [← HX.out]; exact HQ.out) (fun j hj => HN.out j (by omega) hj)]
        rfl
      | false =>
        have HQ := Aside0.mk hq
        rw [hq] at hcall
        clear hq
        go_wp2_with (go_at_call 115; refine hcall.mono ?_; rintro e w' ⟨rfl, hb'⟩; have HB := Aside0.mk hb'; clear hb')
        go_roundw
        case rel =>
          refine ⟨i + 1, by go_num, ⟨by omega, fun j hj h => ?_, below_step HL.out HB.out⟩⟩
          by_cases e : j = i
          · subst e; rw [← HX.out]; exact HQ.out
          · exact HN.out j hj (by omega)
        case measure => simp [intOf]; omega
    · have HL := Aside0.mk hbel
      clear hbel
      go_wp2
      go_ret
      refine ⟨?_, HL.out⟩
      rw [idx_miss p l (fun j hj => HN.out j hj (by omega))]
      rfl

set_option maxHeartbeats 1000000 in
set_option maxRecDepth 100000 in
theorem containsS_named (A : Option Addr) (c : Nat) (l : List ByteArray) (F : Nat) (p : ByteArray → Bool) (w : World)
    (hr : Kd.C Kd.string w A l.length l) (hlen : l.length ≤ 1000000) (hp : Pred 115 F Value.string p l w) :
    Calls Try.prog 69 #[.slice A l.length c, .func (.func 115) #[] #[.pointer (some ⟨F, 0, none⟩)]] w fun e w' => e = .returned (.bool (l.any p)) ∧ Below w.heap.size w w' := by
  rw [← idx_any]
  have HR := Aside0.mk hr
  have HP := Aside0.mk hp
  clear hr hp
  go_enter Try.func69, Try.ntmps69
  go_wp2_with (go_at_call 94; refine (indexS_named A c l F p _ HR.out hlen HP.out).mono ?_; rintro e w' ⟨rfl, hb'⟩; have HB := Aside0.mk hb'; clear hb')
  go_ret
  exact ⟨rfl, HB.out⟩

/-! ### the predicate of header.named -/
def sizes (l : List ByteArray) : Prop := l.length ≤ 1000000 ∧ ∀ s ∈ l, s.size ≤ 9223372036854775807

/-- named$1$1: 'octet.Fold(n, f.Name)', f in the block F. -/
theorem inner_any (F : Nat) (nm val : ByteArray) (L : List ByteArray) (w : World) (hF : w.heap[F]? = some (.cells #[.string nm, .string val] 83 (0, 0))) (hn : nm.size ≤ 9223372036854775807) (hL : ∀ s ∈ L, s.size ≤ 9223372036854775807) :
    Pred 115 F Value.string (fun n => foldB n nm) L w := by
  intro W x hx hW
  have hF' : W.heap[F]? = some (.cells #[.string nm, .string val] 83 (0, 0)) := (hW.block F (blk_lt hF)).trans hF
  have hc : W.cell? ⟨F, 0, none⟩ = some (.string nm) := (blk_cell hF' 0).trans rfl
  have hxs := hL x hx
  obtain ⟨p, hp⟩ : ∃ p, p = foldB x nm := ⟨_, rfl⟩
  have hfold := fold_any x nm
  rw [← hp] at hfold
  have HF := Aside0.mk hfold
  show Calls Try.prog _ _ _ fun e w' => e = .returned (.bool (foldB x nm)) ∧ _
  rw [← hp]
  clear hF hF' hfold hp hL hx hW
  go_enter Try.func115, Try.ntmps115
  go_wp2_with (go_at_call 43; refine (HF.out _ hxs hn).mono ?_; rintro e w' ⟨rfl, ⟨m, rfl⟩⟩)
  go_ret
  exact ⟨rfl, pw_below_drewN (Below.refl _ _) m⟩

set_option maxHeartbeats 1000000 in
set_option maxRecDepth 100000 in
/-- named$1, the names in a row, their slice in the block B. -/
theorem outer_any (B : Nat) (A : Option Addr) (c : Nat) (names : List ByteArray) (x : S83) (W : World) (hB : W.heap[B]? = some (.cells #[.slice A names.length c] 22 (0, 0))) (hr : Kd.C Kd.string W A names.length names) (hs : sizes names) (hx : x.f0.size ≤ 9223372036854775807) :
    Calls Try.prog 114 #[.agg #[.string x.f0, .string x.f1], .pointer (some ⟨B, 0, none⟩)] W fun e w' => e = .returned (.bool (names.any fun n => foldB n x.f0)) ∧ Below W.heap.size W w' := by
  have hBl := blk_lt hB
  have hc : W.cell? ⟨B, 0, none⟩ = some (.slice A names.length c) := (blk_cell hB 0).trans rfl
  have HR := Aside0.mk hr
  have HS := Aside0.mk hs
  clear hB hr hs
  go_enter Try.func114, Try.ntmps114
  go_wp2_with (go_at_call 69; refine (containsS_named A c names W.heap.size (fun n => foldB n x.f0) _ (Kd.C_below HR.out ((Below.refl _ _).alloc (Nat.le_refl _) _)) HS.out.1 (inner_any W.heap.size x.f0 x.f1 names _ (heap_alloc_new W _) hx HS.out.2)).mono ?_; rintro e w' ⟨rfl, hb'⟩; have HB := Aside0.mk hb'; clear hb')
  go_ret
  exact ⟨rfl, below_weaken ((Below.refl _ _).alloc (Nat.le_refl _) _) (by simp) HB.out⟩

/-- header.named: the names' slice goes into a block of its own. -/
theorem named_any (A : Option Addr) (n c : Nat) (w : World) : Calls Try.prog 96 #[.slice A n c] w fun e w' => e = .returned (.func (.func 114) #[] #[.pointer (some ⟨w.heap.size, 0, none⟩)]) ∧ w' = w.alloc (.cells #[.slice A n c] 22) := by
  go_enter Try.func96, Try.ntmps96
  go_wp2
  go_ret
  exact ⟨rfl, rfl⟩
theorem one_name (w : World) (k : Nat) (s : ByteArray) (t : TypeId) (h : w.heap[k]? = some (.cells #[.string s] t (0, 0))) : Kd.C Kd.string w (some ⟨k, 0, none⟩) [s].length [s] := by
  refine Kd.C_of_reads (d := ByteArray.empty) ⟨rfl, by simp, fun _ => ⟨_, rfl, fun j hj => ?_⟩⟩
  obtain rfl : j = 0 := by simpa using hj
  exact (blk_cell h 0).trans rfl
end Go.Proofs.Ytacglolggaobdab.Hn
end
