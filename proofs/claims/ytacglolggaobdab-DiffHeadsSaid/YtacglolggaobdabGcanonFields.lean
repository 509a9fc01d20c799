/- octet.Trim: the octets without blanks and tabs at their ends. canon.Fields$1: one more field behind those that are there. What canon.Fields gathers, row by row; a map that counts names. canon.Fields comes to what canon_Fields.f says: each name once, in canonical form. -/
import Derived.Test.YtacglolggaobdabHpred
import Derived.Test.YtacglolggaobdabGcanonName
import Derived.Test.YtacglolggaobdabFRow
import Derived.Deep.RegionHeld3
import Derived.Deep.RegionLaw
import Derived.Test.YtacglolggaobdabGcanonSingle
import Derived.Test.YtacglolggaobdabGlistsJoin
import Derived.Maps.OwnOps
import Derived.Maps.Views
section
namespace Go.Proofs.Ytacglolggaobdab.Hn
open Go.RowKit Go.Proofs.YtacglolggaobdabW.PrintWords Go.Proofs.YtacglolggaobdabW.PrintLast Go.Proofs.YtacglolggaobdabW.PrintMore Go.Proofs.Ytacglolggaobdab.PAll
set_option linter.unusedVariables false
set_option linter.unusedSimpArgs false

def isBl (c : UInt8) : Bool := decide (c.toNat = 32) || decide (c.toNat = 9)
def trimL (l : List UInt8) : List UInt8 := ((l.dropWhile isBl).reverse.dropWhile isBl).reverse
def lead (l : List UInt8) : Nat := (l.takeWhile isBl).length

theorem blank_any (c : UInt8) (w : World) : Calls Try.prog 95 #[.int .u8 (c.toNat : Int)] w fun e w' => e = .returned (.bool (isBl c)) ∧ w = w' := by
  unfold isBl
  obtain ⟨n, hn⟩ : ∃ n : Nat, n = c.toNat := ⟨_, rfl⟩
  rw [← hn]
  clear hn
  by_cases h : n = 32
  · subst h
    go_enter Try.func95, Try.ntmps95
    go_wp2
    go_ret
    exact ⟨rfl, rfl⟩
  · have h1 : ((n : Int) == 32) = false := beq_eq_false_iff_ne.2 (by omega)
    have h2 : decide (n = 32) = false := decide_eq_false h
    by_cases h9 : n = 9
    · subst h9
      go_enter Try.func95, Try.ntmps95
      go_wp2
      go_ret
      exact ⟨rfl, rfl⟩
    · have h3 : ((n : Int) == 9) = false := beq_eq_false_iff_ne.2 (by omega)
      have h4 : decide (n = 9) = false := decide_eq_false h9
      rw [h2, h4]
      go_enter Try.func95, Try.ntmps95
      go_wp2
      go_ret
      exact ⟨rfl, rfl⟩

theorem lead_of : ∀ (l : List UInt8) (i : Nat) (hi : i ≤ l.length), (∀ j (hj : j < l.length), j < i → isBl l[j] = true) → (∀ h : i < l.length, isBl l[i] = false) → lead l = i
  | [], i, hi, _, _ => by simp at hi; subst hi; rfl
  | c :: cs, 0, hi, _, h2 => by
    have := h2 (by simp)
    simp only [List.getElem_cons_zero] at this
    simp [lead, List.takeWhile_cons, this]
  | c :: cs, i + 1, hi, h1, h2 => by
    have h0 := h1 0 (by simp) (by omega)
    simp only [List.getElem_cons_zero] at h0
    have := lead_of cs i (by simpa using hi) (fun j hj hji => by have := h1 (j + 1) (by simpa using hj) (by omega); simpa using this) (fun h => by have := h2 (by simpa using h); simpa using this)
    unfold lead at this ⊢
    rw [List.takeWhile_cons, h0]
    simp [this]
theorem drop_lead (l : List UInt8) : l.drop (lead l) = l.dropWhile isBl := by
  have h := List.takeWhile_append_dropWhile (p := isBl) (l := l)
  conv => lhs; rw [← h]
  unfold lead
  rw [List.drop_left' (by rw [h])]
theorem dropWhile_all : ∀ (a b : List UInt8), (∀ c ∈ a, isBl c = true) → (a ++ b).dropWhile isBl = b.dropWhile isBl
  | [], b, _ => rfl
  | c :: a, b, h => by
    rw [List.cons_append, List.dropWhile_cons, h c (List.mem_cons_self ..)]
    exact dropWhile_all a b (fun x hx => h x (List.mem_cons_of_mem _ hx))
theorem trim_of (l : List UInt8) (t : Nat) (h1 : lead l ≤ t) (h2 : t ≤ l.length) (h3 : ∀ j (hj : j < l.length), t ≤ j → isBl l[j] = true) (h4 : t = lead l ∨ ∃ h : t - 1 < l.length, 1 ≤ t ∧ isBl l[t - 1] = false) :
    (l.drop (lead l)).take (t - lead l) = trimL l := by
  unfold trimL
  rw [← drop_lead l]
  obtain ⟨M, hM⟩ : ∃ M, M = l.drop (lead l) := ⟨_, rfl⟩
  rw [← hM]
  have hml : M.length = l.length - lead l := by rw [hM, List.length_drop]
  have e : M = M.take (t - lead l) ++ M.drop (t - lead l) := (List.take_append_drop _ _).symm
  conv => rhs; rw [e]
  rw [List.reverse_append, dropWhile_all]
  · rcases h4 with h4 | ⟨h, h5, h6⟩
    · rw [h4, Nat.sub_self]; rfl
    · by_cases hz : t = lead l
      · rw [hz, Nat.sub_self]; rfl
      · have hlast : M.take (t - lead l) = M.take (t - 1 - lead l) ++ [l[t - 1]] := by
          have : t - lead l = (t - 1 - lead l) + 1 := by omega
          rw [this, List.take_succ_eq_append_getElem (by omega)]
          congr 2
          simp only [hM]
          rw [List.getElem_drop]
          congr 1
          omega
        rw [hlast, List.reverse_append]
        simp [List.dropWhile_cons, h6]
  · intro c hc
    rw [List.mem_reverse, hM, List.drop_drop] at hc
    obtain ⟨j, hj, rfl⟩ := List.mem_iff_getElem.1 hc
    rw [List.getElem_drop]
    exact h3 _ _ (by omega)

set_option maxHeartbeats 2000000 in
set_option maxRecDepth 100000 in
theorem trim_any (s : ByteArray) (w : World) (hs : s.size ≤ 1000000000) : Calls Try.prog 73 #[.string s] w fun e w' => e = .returned (.string ⟨(trimL s.data.toList).toArray⟩) ∧ Drawn0 w w' := by
  obtain ⟨l, hl⟩ : ∃ l, l = s.data.toList := ⟨_, rfl⟩
  have hsz : l.length = s.size := by rw [hl]; simp
  have HSZ := Aside0.mk hsz
  have HL := Aside0.mk hl
  rw [← hl]
  clear hsz hl
  go_enter Try.func73, Try.ntmps73
  go_wp2
  go_loopw [3] (fun v3 wr => ∃ (i : Nat), v3 = .int .i64 (i : Int) ∧ Aside0 (i ≤ s.size ∧ (∀ j (hj : j < l.length), j < i → isBl l[j] = true) ∧ Drawn0 w wr)) (fun v3 _ => s.size - (intOf v3).toNat)
  case atStart => exact ⟨0, rfl, ⟨by omega, fun j hj h => absurd h (by omega), Drawn0.refl _⟩⟩
  case round =>
    obtain ⟨i, rfl, HA⟩ := hrel
    obtain ⟨hi, hbl, ⟨m, rfl⟩⟩ := HA.out
    clear HA
    have HBL := Aside0.mk hbl
    clear hbl
    by_cases hlt : i < s.size
    · have hil : i < s.data.toList.length := by simpa using hlt
      have hix := index_at s i hil
      obtain ⟨x, hx⟩ : ∃ x, x = s.data.toList[i] := ⟨_, rfl⟩
      rw [← hx] at hix
      have hxl : ∃ h : i < l.length, l[i] = x := ⟨by rw [HSZ.out]; exact hlt, by rw [hx]; simp [HL.out]⟩
      have HXL := Aside0.mk hxl
      have hbb := blank_any x
      obtain ⟨q, hq⟩ : ∃ q, q = isBl x := ⟨_, rfl⟩
      rw [← hq] at hbb
      have HBB := Aside0.mk hbb
      have HQ := Aside0.mk hq
      clear hx hxl hbb hq
      cases q with
      | true =>
        go_wp2_with (go_at_call 95; refine (HBB.out _).mono ?_; rintro e w' ⟨rfl, rfl⟩)
        go_roundw
        case rel =>
          refine ⟨i + 1, by go_num, ⟨by omega, fun j hj h => ?_, m, rfl⟩⟩
          by_cases e : j = i
          · subst e
            obtain ⟨hh, he⟩ := HXL.out
            rw [he]; exact HQ.out.symm
          · exact HBL.out j hj (by omega)
        case measure => simp [intOf]; omega
      | false =>
        have hld := lead_of l i (by rw [HSZ.out]; exact hi) HBL.out (fun h => by
          obtain ⟨hh, he⟩ := HXL.out
          rw [he]; exact HQ.out.symm)
        have HLD := Aside0.mk hld
        clear hld
        go_wp2_with (go_at_call 95; refine (HBB.out _).mono ?_; rintro e w' ⟨rfl, rfl⟩)
        go_loopw [4] (fun v4 wr => ∃ (t : Nat), v4 = .int .i64 (t : Int) ∧ Aside0 (i ≤ t ∧ t ≤ s.size ∧ (∀ j (hj : j < l.length), t ≤ j → isBl l[j] = true) ∧ Drawn0 w wr)) (fun v4 _ => (intOf v4).toNat)
        case atStart => exact ⟨s.size, rfl, ⟨hi, Nat.le_refl _, fun j hj h => absurd h (by have := HSZ.out; omega), ⟨m, rfl⟩⟩⟩
        case round =>
          obtain ⟨t, rfl, HA⟩ := hrel
          obtain ⟨hit, htn, hbt, ⟨m2, rfl⟩⟩ := HA.out
          clear HA
          have HBT := Aside0.mk hbt
          clear hbt
          have hfin : (∃ h : t - 1 < l.length, 1 ≤ t ∧ isBl l[t - 1] = false) ∨ t = i → s.extract i t = ⟨(trimL l).toArray⟩ := fun h4 => by
            have hld := HLD.out
            have := trim_of l t (by omega) (by rw [HSZ.out]; exact htn) HBT.out (by rw [hld]; exact h4.symm)
            refine ByteArray.ext (Array.toList_inj.1 ?_)
            rw [ByteArray.data_extract, Array.toList_extract, List.extract_eq_take_drop, ← HL.out, ← hld, this]
          have HFIN := Aside0.mk hfin
          clear hfin
          by_cases hlt2 : i < t
          · have hil2 : t - 1 < s.data.toList.length := by rw [← HL.out, HSZ.out]; omega
            have hix2 := index_at s (t - 1) hil2
            have hcast : ((t - 1 : Nat) : Int) = (t : Int) - 1 := by omega
            rw [hcast] at hix2
            obtain ⟨y, hy⟩ : ∃ y, y = s.data.toList[t - 1] := ⟨_, rfl⟩
            rw [← hy] at hix2
            have hyl : ∃ h : t - 1 < l.length, l[t - 1] = y := ⟨by rw [HSZ.out]; omega, by rw [hy]; simp [HL.out]⟩
            have HYL := Aside0.mk hyl
            have hbb2 := blank_any y
            obtain ⟨q2, hq2⟩ : ∃ q, q = isBl y := ⟨_, rfl⟩
            rw [← hq2] at hbb2
            have HBB2 := Aside0.mk hbb2
            have HQ2 := Aside0.mk hq2
            clear hy hyl hbb2 hq2 hcast
            cases q2 with
            | true =>
              go_wp2_with (go_at_call 95; refine (HBB2.out _).mono ?_; rintro e w' ⟨rfl, rfl⟩)
              go_roundw
              case rel =>
                refine ⟨t - 1, by go_num, ⟨by omega, by omega, fun j hj h => ?_, m2, rfl⟩⟩
                by_cases e : j = t - 1
                · subst e
                  obtain ⟨hh, he⟩ := HYL.out
                  rw [he]; exact HQ2.out.symm
                · exact HBT.out j hj (by omega)
              case measure => simp [intOf]; omega
            | false =>
              have hx2 : s.extract i t = ⟨(trimL l).toArray⟩ := HFIN.out (Or.inl (by
                obtain ⟨hh, he⟩ := HYL.out
                exact ⟨hh, by omega, by rw [he]; exact HQ2.out.symm⟩))
              have HX2 := Aside0.mk hx2
              clear hx2
              go_wp2_with (go_at_call 95; refine (HBB2.out _).mono ?_; rintro e w' ⟨rfl, rfl⟩)
              go_ret
              exact ⟨congrArg (fun s => Ending.returned (.string s)) HX2.out, m2, rfl⟩
          · have hx2 : s.extract i t = ⟨(trimL l).toArray⟩ := HFIN.out (Or.inr (by omega))
            have HX2 := Aside0.mk hx2
            clear hx2
            go_wp2
            go_ret
            exact ⟨congrArg (fun s => Ending.returned (.string s)) HX2.out, m2, rfl⟩
    · have hld := lead_of l i (by rw [HSZ.out]; exact hi) HBL.out (fun h => absurd h (by rw [HSZ.out]; exact hlt))
      have HLD := Aside0.mk hld
      clear hld
      go_wp2
      go_loopw [4] (fun v4 wr => ∃ (t : Nat), v4 = .int .i64 (t : Int) ∧ Aside0 (i ≤ t ∧ t ≤ s.size ∧ (∀ j (hj : j < l.length), t ≤ j → isBl l[j] = true) ∧ Drawn0 w wr)) (fun v4 _ => (intOf v4).toNat)
      case atStart => exact ⟨s.size, rfl, ⟨hi, Nat.le_refl _, fun j hj h => absurd h (by have := HSZ.out; omega), ⟨m, rfl⟩⟩⟩
      case round =>
        obtain ⟨t, rfl, HA⟩ := hrel
        obtain ⟨hit, htn, hbt, ⟨m2, rfl⟩⟩ := HA.out
        clear HA
        have HBT := Aside0.mk hbt
        clear hbt
        have hfin : (∃ h : t - 1 < l.length, 1 ≤ t ∧ isBl l[t - 1] = false) ∨ t = i → s.extract i t = ⟨(trimL l).toArray⟩ := fun h4 => by
          have hld := HLD.out
          have := trim_of l t (by omega) (by rw [HSZ.out]; exact htn) HBT.out (by rw [hld]; exact h4.symm)
          refine ByteArray.ext (Array.toList_inj.1 ?_)
          rw [ByteArray.data_extract, Array.toList_extract, List.extract_eq_take_drop, ← HL.out, ← hld, this]
        have HFIN := Aside0.mk hfin
        clear hfin
        by_cases hlt2 : i < t
        · have hil2 : t - 1 < s.data.toList.length := by rw [← HL.out, HSZ.out]; omega
          have hix2 := index_at s (t - 1) hil2
          have hcast : ((t - 1 : Nat) : Int) = (t : Int) - 1 := by omega
          rw [hcast] at hix2
          obtain ⟨y, hy⟩ : ∃ y, y = s.data.toList[t - 1] := ⟨_, rfl⟩
          rw [← hy] at hix2
          have hyl : ∃ h : t - 1 < l.length, l[t - 1] = y := ⟨by rw [HSZ.out]; omega, by rw [hy]; simp [HL.out]⟩
          have HYL := Aside0.mk hyl
          have hbb2 := blank_any y
          obtain ⟨q2, hq2⟩ : ∃ q, q = isBl y := ⟨_, rfl⟩
          rw [← hq2] at hbb2
          have HBB2 := Aside0.mk hbb2
          have HQ2 := Aside0.mk hq2
          clear hy hyl hbb2 hq2 hcast
          cases q2 with
          | true =>
            go_wp2_with (go_at_call 95; refine (HBB2.out _).mono ?_; rintro e w' ⟨rfl, rfl⟩)
            go_roundw
            case rel =>
              refine ⟨t - 1, by go_num, ⟨by omega, by omega, fun j hj h => ?_, m2, rfl⟩⟩
              by_cases e : j = t - 1
              · subst e
                obtain ⟨hh, he⟩ := HYL.out
                rw [he]; exact HQ2.out.symm
              · exact HBT.out j hj (by omega)
            case measure => simp [intOf]; omega
          | false =>
            have hx2 : s.extract i t = ⟨(trimL l).toArray⟩ := HFIN.out (Or.inl (by
              obtain ⟨hh, he⟩ := HYL.out
              exact ⟨hh, by omega, by rw [he]; exact HQ2.out.symm⟩))
            have HX2 := Aside0.mk hx2
            clear hx2
            go_wp2_with (go_at_call 95; refine (HBB2.out _).mono ?_; rintro e w' ⟨rfl, rfl⟩)
            go_ret
            exact ⟨congrArg (fun s => Ending.returned (.string s)) HX2.out, m2, rfl⟩
        · have hx2 : s.extract i t = ⟨(trimL l).toArray⟩ := HFIN.out (Or.inr (by omega))
          have HX2 := Aside0.mk hx2
          clear hx2
          go_wp2
          go_ret
          exact ⟨congrArg (fun s => Ending.returned (.string s)) HX2.out, m2, rfl⟩
end Go.Proofs.Ytacglolggaobdab.Hn
end

section
namespace Go.Proofs.Ytacglolggaobdab.Hn
open Go.RowKit Go.Proofs.YtacglolggaobdabW.PrintWords Go.Proofs.YtacglolggaobdabW.PrintLast Go.Proofs.YtacglolggaobdabW.PrintMore Go.Proofs.Ytacglolggaobdab.PAll
set_option linter.unusedVariables false
set_option linter.unusedSimpArgs false

def trimB (s : ByteArray) : ByteArray := ⟨(trimL s.data.toList).toArray⟩
set_option maxHeartbeats 2000000 in
set_option maxRecDepth 100000 in
theorem cput_any (Bx : Nat) (W : World) (nm val : ByteArray) (v : Value) (xs : List S83) (hbox : W.heap[Bx]? = some (.cells #[v] 39 (0, 0))) (hown : Kd.R k83 83 W (Bx + 1) (fun _ => True) v xs) (hlen : xs.length ≤ 100000000) (hnm : nm.size ≤ 1000000) (hval : val.size ≤ 1000000000) :
    Calls Try.prog 72 #[.string nm, .string val, .pointer (some ⟨Bx, 0, none⟩)] W fun e w' => ∃ v' : Value, e = .returned (.tuple #[]) ∧ w'.heap[Bx]? = some (.cells #[v'] 39 (0, 0)) ∧ Kd.R k83 83 w' (Bx + 1) (fun _ => True) v' (xs ++ [⟨nameOf nm, trimB val⟩]) ∧ Below Bx W w' ∧ (∀ k, k < W.heap.size → k ≠ Bx → some k ≠ v.ownBlock → w'.heap[k]? = W.heap[k]?) ∧ (v'.ownBlock = v.ownBlock ∨ ∃ b, v'.ownBlock = some b ∧ W.heap.size ≤ b) := by
  have hlt := blk_lt hbox
  have hc : W.cell? ⟨Bx, 0, none⟩ = some v := (blk_cell hbox 0).trans rfl
  have hN : canon_Name.f nm = some (nameOf nm) := by unfold canon_Name.f; rw [if_pos hnm]
  have hT := fun w => trim_any val w hval
  obtain ⟨A, c, rfl⟩ := Kd.R_slice hown
  have HX := Aside0.mk hbox
  have HO := Aside0.mk hown
  have HN := Aside0.mk hN
  have HT := Aside0.mk hT
  clear hbox hown hN hT
  go_enter Try.func72, Try.ntmps72
  go_wp2
  -- region
  refine start_ (n := 9) (S := fun w' => w'.cell? ⟨Bx, 0, none⟩ = some (.slice A xs.length c)) (ds := [7, 8]) #[false, false, false, false, false, false, false, false, false] (by kernel_rfl) rfl rfl hc (fun hHeld => ?_)
  refine pure_ (i := 1) (N := (some 6)) (v := ?_) (a' := ?_) #[false, true, false, false, false, false, false, false, false] rfl rfl (by kernel_rfl) (fun _ _ _ h => h) (Or.inl ⟨by rfl, ?_⟩) ?_ ?_
  rotate_left
  · intro w'
    go_simp
    with_reducible rfl
  rotate_left
  · simp only [Act.put, List.setIfInBounds_toArray, List.set_cons_zero, List.set_cons_succ, i64_w, i32_w]
    rfl
  refine pure_ (i := 3) (N := (some 8)) (v := ?_) (a' := ?_) #[false, true, false, true, false, false, false, false, false] rfl rfl (by kernel_rfl) (fun _ _ _ h => h) (Or.inl ⟨by rfl, ?_⟩) ?_ ?_
  rotate_left
  · intro w'
    go_simp
    with_reducible rfl
  rotate_left
  · simp only [Act.put, List.setIfInBounds_toArray, List.set_cons_zero, List.set_cons_succ, i64_w, i32_w]
    rfl
  refine take_ (i := 0) (N := (some 5)) (v := ?_) (a' := ?_) #[true, true, false, true, false, false, false, false, false] rfl rfl (by kernel_rfl) (fun _ _ _ h => h) (Or.inl ⟨by rfl, ?_⟩) hHeld ?_ ?_
  rotate_left
  · rintro w' s0
    go_simp
    with_reducible rfl
  rotate_left
  · simp only [Act.put, List.setIfInBounds_toArray, List.set_cons_zero, List.set_cons_succ, i64_w, i32_w]
    rfl
  refine one_ (i := 2) (N := (some 7)) #[true, true, true, true, false, false, false, false, false] rfl rfl (by kernel_rfl) (by decide) (fun K hK => ?_)
  refine goes_ Try.func39 (by kernel_rfl) rfl #[.string nm] (by rfl) rfl rfl (by (try simp only [List.map_toArray, List.map_cons, List.map_nil]); first | done | rfl) ?_
  with_reducible refine (canon_Name.calls nm _ _ HN.out).mono ?_
  rintro e w1 ⟨rfl, hb⟩
  have HS1 := (hb.cell (World.block_lt_of_cell? _ _ hHeld)).trans hHeld
  refine ⟨_, rfl, ?_⟩
  have HO1 := Aside0.mk (Kd.R_below (Kd.R_drew HO.out) hb)
  have HX1 := Aside0.mk ((hb.block Bx hlt).trans HX.out)
  have HB1 := Aside0.mk (((Below.refl W.heap.size W).drew).trans hb)
  clear hb
  refine hK.out _ _ HS1 (fun hHeld => ?_)
  clear hK K
  refine norm_ (a' := ?_) ?_ ?_
  rotate_left
  · show Act.put _ (some 7) _ = _
    simp only [Act.put, List.setIfInBounds_toArray, List.set_cons_zero, List.set_cons_succ, i64_w, i32_w]
    rfl
  refine one_ (i := 4) (N := (some 9)) #[true, true, true, true, true, false, false, false, false] rfl rfl (by kernel_rfl) (by decide) (fun K hK => ?_)
  refine goes_ Try.func73 (by kernel_rfl) rfl #[.string val] (by rfl) rfl rfl (by (try simp only [List.map_toArray, List.map_cons, List.map_nil]); first | done | rfl) ?_
  refine (HT.out _).mono ?_
  rintro e w' ⟨rfl, ⟨nd, rfl⟩⟩
  refine ⟨_, rfl, ?_⟩
  refine hK.out _ _ hHeld (fun hHeld => ?_)
  clear hK K
  refine norm_ (a' := ?_) ?_ ?_
  rotate_left
  · show Act.put _ (some 9) _ = _
    simp only [Act.put, List.setIfInBounds_toArray, List.set_cons_zero, List.set_cons_succ, i64_w, i32_w]
    rfl
  refine pure_ (i := 5) (N := (some 10)) (v := ?_) (a' := ?_) #[true, true, true, true, true, true, false, false, false] rfl rfl (by kernel_rfl) (fun _ _ _ h => h) (Or.inl ⟨by rfl, ?_⟩) ?_ ?_
  rotate_left
  · intro w'
    go_simp
    with_reducible rfl
  rotate_left
  · simp only [Act.put, List.setIfInBounds_toArray, List.set_cons_zero, List.set_cons_succ, i64_w, i32_w]
    rfl
  refine one_ (i := 6) (N := (some 11)) #[true, true, true, true, true, true, true, false, false] rfl rfl (by kernel_rfl) (by decide) (fun K hK => ?_)
  refine value_ (w1 := ?_) (v := ?_) (by rfl) rfl ?_ ?_
  rotate_left 2
  · go_simp
    constructor
    · rfl
    · rfl
  refine hK.out _ _ ((below_alloc (Below.refl _ _) _).cell (World.block_lt_of_cell? _ _ hHeld) |>.trans hHeld) (fun hHeld => ?_)
  clear hK K
  refine norm_ (a' := ?_) ?_ ?_
  rotate_left
  · show Act.put _ (some 11) _ = _
    simp only [Act.put, List.setIfInBounds_toArray, List.set_cons_zero, List.set_cons_succ, i64_w, i32_w]
    rfl
  refine last_ (i := 7) (N := (some 12)) #[true, true, true, true, true, true, true, true, false] rfl rfl (by kernel_rfl) (by decide) (fun K hK => ?_)
  refine Kd.R_append_step k83 (w0 := W) (Bx + 1) (by rfl) (.tmp 5) (.tmp 11) 39 83 (.agg #[(.string ⟨#[]⟩), (.string ⟨#[]⟩)]) 32 rfl Try.underlying39 FR.infoF rfl (by decide) (by omega) (.slice A xs.length c) xs (⟨nameOf nm, trimB val⟩ : S83) [.string (nameOf nm), .string (trimB val)] (fun _ => True) (fun _ => False) rfl rfl ?aP (fun _ hk => hk.elim) (fun _ _ => trivial) ?aO ?aB ?aS (by omega) ?_
  (case aP => exact k83_mkM _ _ _ (⟨nameOf nm, trimB val⟩ : S83))
  (case aO => exact (by (with_reducible repeat (first | apply Kd.R_alloc | apply Kd.R_drewN | apply Kd.R_drew)); exact HO1.out))
  (case aB => exact (pw_below_drewN (Below.mono HB1.out (show Bx + 1 ≤ W.heap.size by omega)) nd))
  (case aS => (have := HB1.out.size; show Bx + 1 ≤ w1.heap.size; omega))
  intro v1 w2 ho hb2 hg hat
  have hbx2 := blk_grown (show (w1.drewN nd).heap[Bx]? = _ from HX1.out) hg (fun e_ => absurd (Kd.R_base HO.out Bx e_.symm) (by omega))
  have hc1 : w2.cell? ⟨Bx, 0, none⟩ = some (.slice A xs.length c) := (blk_cell hbx2 0).trans rfl
  have hf1 := blk_frozen hbx2 0
  obtain ⟨A1, c1, rfl⟩ := Kd.R_slice ho
  have HAT := Aside0.mk hat
  have HB3 := Aside0.mk hbx2
  have HO3 := Aside0.mk ho
  have HG3 := Aside0.mk hg
  have HL3 := Aside0.mk hb2
  clear hbx2 ho hg hat hb2
  refine hK.out _ _ ?_
  clear hK K
  refine norm_ (a' := ?_) ?_ ?_
  rotate_left
  · show Act.put _ (some 12) _ = _
    simp only [Act.put, List.setIfInBounds_toArray, List.set_cons_zero, List.set_cons_succ, i64_w, i32_w]
    rfl
  refine last_ (i := 8) (N := none) #[true, true, true, true, true, true, true, true, true] rfl rfl (by kernel_rfl) (by decide) (fun K hK => ?_)
  refine skip_ (w1 := ?_) (by rfl) rfl ?_ ?_
  rotate_left
  · go_simp
    rfl
  refine hK.out _ _ ?_
  clear hK K
  refine done_ (by kernel_rfl) ?_
  -- end region
  go_wp2
  go_end0
  have hl : (xs ++ [(⟨nameOf nm, trimB val⟩ : S83)]).length = xs.length + 1 := by simp
  have hR := Kd.R_set HO3.out HB3.out (by intro q hq; simp [k83, Kd.iso, Kd.pair, Kd.int, Kd.string, Kd.scalar] at hq; omega) 0 (.slice A1 (xs.length + 1) c1)
  rw [hl] at hR
  refine ⟨_, rfl, blk_set HB3.out 0 _, hR, ?_, fun k hk hne hnv => ?_, ?_⟩
  rotate_left
  · refine (Below.heap_setCell w2 ⟨Bx, 0, none⟩ _ k hne).trans ?_
    exact (HG3.out.block k (by have := HB1.out.size; show k < w1.heap.size; omega) hnv).trans (HB1.out.block k hk)
  · have h5 := HAT.out
    rw [hl] at h5
    rcases h5 with h5 | ⟨b, h5, h6⟩
    · exact Or.inl h5
    · exact Or.inr ⟨b, h5, by have := HB1.out.size; have h7 : w1.heap.size ≤ b := h6; omega⟩
  have h1 : Below Bx W w1 := Below.mono HB1.out (by omega)
  exact ((pw_below_drewN h1 nd).grown HG3.out (by have := HB1.out.size; show Bx ≤ w1.heap.size; omega) (fun k hk => Nat.le_of_succ_le (Kd.R_base HO.out k hk))).setCell (Nat.le_refl _) _
end Go.Proofs.Ytacglolggaobdab.Hn
end

section
namespace Go.Proofs.Ytacglolggaobdab.CF
open Go.RowKit Go.Proofs.YtacglolggaobdabW.PrintWords Go.Proofs.YtacglolggaobdabW.PrintLast Go.Proofs.YtacglolggaobdabW.PrintMore Go.Proofs.Ytacglolggaobdab.PAll Go.Proofs.Ytacglolggaobdab.Hn Go.Maps
set_option linter.unusedVariables false
set_option linter.unusedSimpArgs false

/-- the rows that one name gives -/
def emit (l : List S83) (f : S83) : List S83 := if singleB f.f0 = true then (allOf l f.f0).map (fun v => ⟨nameOf f.f0, trimB v⟩) else [⟨nameOf f.f0, trimB ⟨(joinL (allOf l f.f0)).toArray⟩⟩]
/-- has the name come up among these -/
def had (pre : List S83) (f : S83) : Bool := pre.any fun g => decide (lowL g.f0 = lowL f.f0)
def cfTo (l : List S83) : Nat → List S83
  | 0 => []
  | i + 1 => if h : i < l.length then cfTo l i ++ (if had (l.take i) l[i] = true then [] else emit l l[i]) else cfTo l i
def canonF (l : List S83) : List S83 := cfTo l l.length

theorem cfTo_succ (l : List S83) (i : Nat) (h : i < l.length) : cfTo l (i + 1) = cfTo l i ++ (if had (l.take i) l[i] = true then [] else emit l l[i]) := by rw [cfTo, dif_pos h]

def cnt (l : List S83) (i : Nat) (key : List UInt8) : Nat := (l.take i).countP (fun f => decide (lowL f.f0 = key))
theorem cnt_succ (l : List S83) (i : Nat) (h : i < l.length) (key : List UInt8) : cnt l (i + 1) key = cnt l i key + if lowL l[i].f0 = key then 1 else 0 := by
  unfold cnt
  rw [List.take_succ_eq_append_getElem h, List.countP_append, List.countP_singleton]
  simp
theorem cnt_le (l : List S83) (i : Nat) (key : List UInt8) : cnt l i key ≤ i := Nat.le_trans List.countP_le_length (by rw [List.length_take]; omega)
theorem cnt_had (l : List S83) (i : Nat) (f : S83) : had (l.take i) f = decide (0 < cnt l i (lowL f.f0)) := by
  unfold had cnt
  rw [Bool.eq_iff_iff, List.any_eq_true, decide_eq_true_eq, List.countP_pos_iff]

/-- block M is a map that holds how often each name has come up among the first i -/
def MapCnt (w : World) (M : Nat) (l : List S83) (i : Nat) : Prop :=
  ∃ D : DataW Unit, w.ownsMap Try.prog 9 (plainElem Try.prog 3) M i D ∧ IsMap D ∧ ∀ key : List UInt8, D.atKey (.string key) (.lit (.int .i64 0)) = .lit (.int .i64 (cnt l i key : Int))
theorem MapCnt.start (w : World) (l : List S83) : MapCnt (w.alloc (.map #[] 0)) w.heap.size l 0 :=
  ⟨.map [], World.ownsMap_made _ _ _ _, isMap_empty, fun key => by simp [cnt]; rfl⟩
theorem MapCnt.heap {w w' : World} {M : Nat} {l : List S83} {i : Nat} (h : MapCnt w M l i) (he : w'.heap[M]? = w.heap[M]?) : MapCnt w' M l i := by
  obtain ⟨D, ⟨es, clock, hb, F, hs, hD⟩, h2, h3⟩ := h
  exact ⟨D, ⟨es, clock, he.trans hb, F, hs, hD⟩, h2, h3⟩
theorem MapCnt.lt {w : World} {M : Nat} {l : List S83} {i : Nat} (h : MapCnt w M l i) : M < w.heap.size := by
  obtain ⟨D, ⟨es, clock, hb, F, hs, hD⟩, h2, h3⟩ := h
  exact blk_lt hb
theorem MapCnt.ne {w : World} {M : Nat} {l : List S83} {i : Nat} (h : MapCnt w M l i) {base : Nat} {ok : Nat → Prop} {v : Value} {xs : List S83} (ho : Kd.R k83 83 w base ok v xs) : some M ≠ v.ownBlock := by
  intro e
  obtain ⟨D, ⟨es, clock, hb, F, hs, hD⟩, h2, h3⟩ := h
  obtain ⟨_, inner, hown, _⟩ := ho
  obtain ⟨cells, hc⟩ := own_typed hown M e.symm
  rw [hb] at hc
  cases hc
theorem law9 : Keyed Try.prog 9 := string_keyed Try.underlying9
theorem zero3 (w : World) : (zeroValue 3).run Try.prog w = .ok (.int .i64 0) w := by kernel_rfl
theorem under92 : Try.prog.underlying 92 = some (.map 9 3) := by kernel_rfl

set_option maxRecDepth 100000 in
/-- seen[key]++; seen[key] > 1 -/
theorem MapCnt.round {w : World} {M : Nat} {l : List S83} {i : Nat} (h : MapCnt w M l i) (hi : i < l.length) (hl : l.length ≤ 1000) (hs : (lowL l[i].f0).length ≤ 1000000) :
    ∃ w' : World, (Instr.lookup 92 (.map (some M)) (.string ⟨(lowL l[i].f0).toArray⟩) false).run Try.prog w = .ok (.int .i64 (cnt l i (lowL l[i].f0) : Int)) w ∧
      (Instr.mapUpdate 92 (.map (some M)) (.string ⟨(lowL l[i].f0).toArray⟩) (.int .i64 ((cnt l i (lowL l[i].f0) : Int) + 1))).run Try.prog w = .ok () w' ∧
      (Instr.lookup 92 (.map (some M)) (.string ⟨(lowL l[i].f0).toArray⟩) false).run Try.prog w' = .ok (.int .i64 ((cnt l i (lowL l[i].f0) : Int) + 1)) w' ∧
      MapCnt w' M l (i + 1) ∧ w.grownBy w' (some M) := by
  obtain ⟨D, h1, h2, h3⟩ := h
  have hcl := cnt_le l i (lowL l[i].f0)
  have hkey : keyOf Try.prog 9 (.string ⟨(lowL l[i].f0).toArray⟩) = some (.string (lowL l[i].f0)) := by
    have := Go.WideMaps.keyOf_string_mk Try.underlying9 (s := ⟨(lowL l[i].f0).toArray⟩) (by show (lowL l[i].f0).toArray.size ≤ _; rw [List.size_toArray]; unfold maxLen; omega)
    simpa using this
  obtain ⟨c, hl1, hc1, _⟩ := h1.lookup_int law9 under92 Try.underlying3 (zero3 w) hkey
  rw [h3] at hc1
  obtain rfl : (cnt l i (lowL l[i].f0) : Int) = c := by
    injection hc1 with hc1
    injection hc1
  have hwf : (Lit.int .i64 ((cnt l i (lowL l[i].f0) : Int) + 1)).wf = true := by
    simp [Lit.wf, IntKind.min, IntKind.max, IntKind.bits, IntKind.signed]
    omega
  obtain ⟨w', hup, ho2, hg⟩ := h1.update law9 under92 (by unfold maxLen; omega) hkey (plainElem_int (H := Unit) Try.underlying3 hwf)
  have h3' : ∀ key : List UInt8, (D.put (.string (lowL l[i].f0)) (.lit (.int .i64 ((cnt l i (lowL l[i].f0) : Int) + 1)))).atKey (.string key) (.lit (.int .i64 0)) = .lit (.int .i64 (cnt l (i + 1) key : Int)) := by
    intro key
    rw [cnt_succ l i hi key]
    by_cases e : lowL l[i].f0 = key
    · subst e
      rw [atKey_put_same h2 (show WideAt.IsKeyLit (.string _) from trivial), if_pos rfl]
      exact congrArg (fun z => DataW.lit (.int .i64 z)) (by omega)
    · rw [atKey_put_other (by intro h; injection h with h; exact e h.symm), h3, if_neg e]
      exact congrArg (fun z => DataW.lit (.int .i64 z)) (by omega)
  obtain ⟨c2, hl2, hc2, _⟩ := ho2.lookup_int law9 under92 Try.underlying3 (zero3 w') hkey
  rw [h3', cnt_succ l i hi, if_pos rfl] at hc2
  obtain rfl : ((cnt l i (lowL l[i].f0) : Int) + 1) = c2 := by
    simp only [DataW.lit.injEq, Lit.int.injEq, true_and] at hc2
    omega
  exact ⟨w', hl1, hup, hl2, ⟨_, ho2, h2.put _ _, h3'⟩, hg⟩
end Go.Proofs.Ytacglolggaobdab.CF
end

section
namespace Go.Proofs.Ytacglolggaobdab.PAll
open Go.RowKit Go.Proofs.YtacglolggaobdabW.PrintWords Go.Proofs.YtacglolggaobdabW.PrintLast Go.Proofs.YtacglolggaobdabW.PrintMore Go.Proofs.Ytacglolggaobdab.Hn Go.Proofs.Ytacglolggaobdab.CF Go.Maps
set_option linter.unusedVariables false
set_option linter.unusedSimpArgs false

/-- sizes that go: names and values short, not too many -/
def okF (l : List S83) : Prop := l.length ≤ 1000 ∧ ∀ x ∈ l, x.f0.size ≤ 100000 ∧ x.f1.size ≤ 100000
instance (l : List S83) : Decidable (okF l) := by unfold okF; infer_instance
def canon_Fields.f (l0 : List (S83)) : Option ((List (S83))) := if okF l0 then some (canonF l0) else none

/-- What the loop holds at every head. -/
structure At (l : List S83) (w wr : World) (v : Value) (i : Nat) : Prop where
  le : i ≤ l.length
  box : wr.heap[w.heap.size]? = some (.cells #[v] 39 (0, 0))
  own : Kd.R k83 83 wr (w.heap.size + 1) (fun _ => True) v (cfTo l i)
  map : MapCnt wr (w.heap.size + 1) l i
  bel : Below w.heap.size w wr

theorem R_notmap {w : World} {base M i : Nat} {ok : Nat → Prop} {v : Value} {xs : List S83} {l : List S83} (h : Kd.R k83 83 w base ok v xs) (hM : MapCnt w M l i) : Kd.R k83 83 w base (fun k => ok k ∧ k ≠ M) v xs :=
  Kd.R_mono (Kd.R_bound h) (fun k hk => ⟨hk.1, by
    obtain ⟨_, _, _, q, _, cells, hc⟩ := hk
    rintro rfl
    obtain ⟨D, ⟨es, clock, hb, F, hs, hD⟩, h2, h3⟩ := hM
    rw [hb] at hc
    cases hc⟩)

/-- What stands while one name's rows are put. -/
structure Mid (l : List S83) (w : World) (i F : Nat) (x : S83) (wx : World) (v : Value) (done : List S83) : Prop where
  box : wx.heap[w.heap.size]? = some (.cells #[v] 39 (0, 0))
  own : Kd.R k83 83 wx (w.heap.size + 1) (fun _ => True) v (cfTo l i ++ done)
  map : MapCnt wx (w.heap.size + 1) l (i + 1)
  bel : Below w.heap.size w wx
  fbox : wx.heap[F]? = some (.cells #[.string x.f0, .string x.f1] 83 (0, 0))
  fne : some F ≠ v.ownBlock
theorem Mid.below {l : List S83} {w : World} {i F : Nat} {x : S83} {wx wy : World} {v : Value} {done : List S83} (h : Mid l w i F x wx v done) (hb : Below wx.heap.size wx wy) : Mid l w i F x wy v done :=
  ⟨(hb.block _ (blk_lt h.box)).trans h.box, Kd.R_below h.own hb, h.map.heap (hb.block _ h.map.lt), below_step h.bel hb, (hb.block _ (blk_lt h.fbox)).trans h.fbox, h.fne⟩
theorem Mid.cell {l : List S83} {w : World} {i F : Nat} {x : S83} {wx : World} {v : Value} {done : List S83} (h : Mid l w i F x wx v done) : wx.cell? ⟨F, 0, none⟩ = some (.string x.f0) := (blk_cell h.fbox 0).trans rfl
theorem Mid.put {l : List S83} {w : World} {i F : Nat} {x y : S83} {wx wy : World} {v v' : Value} {done : List S83} (h : Mid l w i F x wx v done) (hbox : wy.heap[w.heap.size]? = some (.cells #[v'] 39 (0, 0)))
    (hown : Kd.R k83 83 wy (w.heap.size + 1) (fun _ => True) v' ((cfTo l i ++ done) ++ [y])) (hbel : Below w.heap.size wx wy) (hfr : ∀ k, k < wx.heap.size → k ≠ w.heap.size → some k ≠ v.ownBlock → wy.heap[k]? = wx.heap[k]?) (hat : v'.ownBlock = v.ownBlock ∨ ∃ b, v'.ownBlock = some b ∧ wx.heap.size ≤ b) :
    Mid l w i F x wy v' (done ++ [y]) := by
  have hFB : w.heap.size ≠ F := blk_ne h.box h.fbox (by decide)
  have hFlt := blk_lt h.fbox
  refine ⟨hbox, by rw [← List.append_assoc]; exact hown, h.map.heap (hfr _ h.map.lt (by omega) (h.map.ne h.own)), h.bel.trans hbel, (hfr F hFlt (Ne.symm hFB) h.fne).trans h.fbox, ?_⟩
  rcases hat with e | ⟨b, e, hb⟩
  · rw [e]; exact h.fne
  · rw [e]; intro e2; injection e2 with e2; omega
/-- .. and a row of texts that was made behind: it stays over a put. -/
theorem Mid.texts {l : List S83} {w : World} {i F : Nat} {x : S83} {wx wy : World} {v : Value} {done : List S83} (h : Mid l w i F x wx v done) {base : Nat} {u : Value} {ts : List ByteArray} (ht : Kd.R Kd.string 9 wx (w.heap.size + 1) (fun _ => True) u ts)
    (hfr : ∀ k, k < wx.heap.size → k ≠ w.heap.size → some k ≠ v.ownBlock → wy.heap[k]? = wx.heap[k]?) : Kd.R Kd.string 9 wy (w.heap.size + 1) (fun _ => True) u ts := by
  have h1 := Kd.R_apartR ht h.own (by intro q hq; simp [Kd.string, Kd.scalar] at hq; omega)
  have h2 := Kd.R_types h1 h.box (by intro q hq; simp [Kd.string, Kd.scalar] at hq; omega)
  exact Kd.R_mono (Kd.R_step h2 (fun k hk hlt => hfr k hlt hk.2 hk.1.2)) (fun _ _ => trivial)
theorem At.mid {l : List S83} {w wr wa wb wc : World} {v : Value} {i : Nat} {x : S83} (h : At l w wr v i) (hwa : Below wr.heap.size wr wa) (hF : wa.heap[wr.heap.size]? = some (.cells #[.string x.f0, .string x.f1] 83 (0, 0))) (hb : Below wa.heap.size wa wb) (hg : wb.grownBy wc (some (w.heap.size + 1))) (hM : MapCnt wc (w.heap.size + 1) l (i + 1)) :
    Mid l w i wr.heap.size x wc v [] := by
  have hbel := below_step hwa hb
  have hM0 := h.map.heap (hbel.block _ h.map.lt)
  have hown := R_notmap (Kd.R_below h.own hbel) hM0
  have hsz := h.bel.size
  have hlt := h.map.lt
  have hFb := (hb.block _ (blk_lt hF)).trans hF
  refine ⟨(hg.block _ (by have := hbel.size; omega) (by intro e; injection e with e; omega)).trans ((hbel.block _ (blk_lt h.box)).trans h.box), ?_, hM, ?_, (hg.block _ (blk_lt hFb) (by intro e; injection e with e; omega)).trans hFb, ?_⟩
  · rw [List.append_nil]
    exact Kd.R_mono (Kd.R_grown hown hg (fun k hk e => hk.2 (by injection e))) (fun _ _ => trivial)
  · exact (below_step h.bel hbel).trans ((Below.refl _ wb).grown hg (by have := hbel.size; omega) (fun k hk => by injection hk with hk; omega))
  · have := Kd.R_ne_new h.own 0
    simpa using this

theorem emit_len (l : List S83) (f : S83) : (emit l f).length ≤ l.length + 1 := by
  have := allOf_len l f.f0
  unfold emit
  split
  · rw [List.length_map]; omega
  · simp
theorem cfTo_len (l : List S83) : ∀ i, (cfTo l i).length ≤ i * (l.length + 1)
  | 0 => by simp [cfTo]
  | i + 1 => by
    have := cfTo_len l i
    rw [Nat.succ_mul]
    rw [cfTo]
    split
    · rename_i h
      have h2 := emit_len l l[i]
      rw [List.length_append]
      split <;> simp <;> omega
    · omega

set_option maxHeartbeats 2000000 in
set_option maxRecDepth 100000 in
theorem canon_Fields.calls (A0 : Option Addr) (c0 : Nat) (l0 : List (S83)) (r : List (S83)) (w : World) (hr0 : Kd.C k83 w A0 l0.length l0) (hc0 : l0.length ≤ c0) (h : canon_Fields.f l0 = some r) :
    Calls Try.prog 45 #[.slice A0 l0.length c0] w fun e w' => ∃ v0_ : Value, e = .returned (v0_) ∧ Kd.R k83 83 w' w.heap.size (fun _ => True) v0_ r ∧ Below w.heap.size w w' := by
  unfold canon_Fields.f at h
  by_cases hb : okF l0
  · rw [if_pos hb] at h
    obtain rfl := Option.some.inj h
    clear h
    have hlen := hb.1
    have HR := Aside0.mk hr0
    have HB := Aside0.mk hb.2
    have HFIT : Aside0 (fit l0) := ⟨by omega, fun x hx => by have := (hb.2 x hx).1; omega⟩
    have hmm := @run_makeMap Try.prog
    clear hr0 hb
    go_enter Try.func45, Try.ntmps45
    go_wp2
    go_loopw [16] (fun v16 wr => ∃ (i : Nat) (v : Value), v16 = .int .i64 (i : Int) ∧ Aside0 (At l0 w wr v i)) (fun v16 _ => l0.length - (intOf v16).toNat)
    case atStart =>
      have e1 := heap_alloc_new w (.cells #[.slice none 0 0] 39)
      refine ⟨0, .slice none 0 0, rfl, ⟨⟨by omega, ?_, Kd.R_nil _ _ _ _ _, ?_, ((Below.refl _ _).alloc (Nat.le_refl _) _).alloc (by simp [World.size_alloc]) _⟩⟩⟩
      · exact (Below.heap_alloc _ _ _ (by simp [World.size_alloc])).trans e1
      · have := MapCnt.start (w.alloc (.cells #[.slice none 0 0] 39)) l0
        rwa [World.size_alloc] at this
    case round =>
      obtain ⟨i, v, rfl, HA⟩ := hrel
      obtain ⟨w1, hw1⟩ : ∃ w1, w1 = wr := ⟨_, rfl⟩
      subst hw1
      have hi := HA.out.le
      by_cases hlt : i < l0.length
      · have hC := Kd.C_below HR.out HA.out.bel
        obtain ⟨ad, e, hx0, hx1⟩ := at_T83 hC (i : Int) (by omega) (by omega)
        cases e
        rw [rd_at l0 i hlt, Int.toNat_natCast] at hx0 hx1
        obtain ⟨x, hxe⟩ : ∃ x, x = l0[i] := ⟨_, rfl⟩
        rw [← hxe] at hx0 hx1
        obtain ⟨hxs0, hxs1⟩ := HB.out x (by rw [hxe]; exact List.getElem_mem _)
        have HX := Aside0.mk hxe
        have hsz := HA.out.bel.size
        have hMlt := HA.out.map.lt
        have hLL : octet_Lower.f x.f0 = some ⟨(lowL x.f0).toArray⟩ := by unfold octet_Lower.f; rw [if_pos (by omega)]
        have HLL := Aside0.mk hLL
        obtain ⟨wa, hwa⟩ : ∃ wa, wa = w1.alloc (.cells #[.string x.f0, .string x.f1] 83) := ⟨_, rfl⟩
        have hbwa : Below w1.heap.size w1 wa := by rw [hwa]; exact (Below.refl _ _).alloc (Nat.le_refl _) _
        have hFa : wa.heap[w1.heap.size]? = some (.cells #[.string x.f0, .string x.f1] 83 (0, 0)) := by rw [hwa]; exact heap_alloc_new w1 _
        have HWA := Aside0.mk hwa
        have HBWA := Aside0.mk hbwa
        have HFA := Aside0.mk hFa
        clear hC hLL hwa hbwa hFa
        obtain ⟨q, hq⟩ : ∃ q, q = had (l0.take i) x := ⟨_, rfl⟩
        have HQ := Aside0.mk hq
        clear hq
        have hlk : (lowL l0[i].f0).length ≤ 1000000 := by
          rw [← hxe]; unfold lowL; rw [List.length_map, len_data]; omega
        clear hxe
        obtain ⟨ct, hct⟩ : ∃ ct : Nat, ct = cnt l0 i (lowL x.f0) := ⟨_, rfl⟩
        have hcb : ct ≤ i := by rw [hct]; exact cnt_le _ _ _
        have HCT := Aside0.mk hct
        have HLK := Aside0.mk hlk
        clear hct hlk
        have step : ∀ wb, Below wa.heap.size wa wb → ∃ wc : World, (Instr.lookup 92 (.map (some (w.heap.size + 1))) (.string ⟨(lowL x.f0).toArray⟩) false).run Try.prog wb = .ok (.int .i64 (ct : Int)) wb ∧
            (Instr.mapUpdate 92 (.map (some (w.heap.size + 1))) (.string ⟨(lowL x.f0).toArray⟩) (.int .i64 ((ct : Int) + 1))).run Try.prog wb = .ok () wc ∧
            (Instr.lookup 92 (.map (some (w.heap.size + 1))) (.string ⟨(lowL x.f0).toArray⟩) false).run Try.prog wc = .ok (.int .i64 ((ct : Int) + 1)) wc ∧
            MapCnt wc (w.heap.size + 1) l0 (i + 1) ∧ wb.grownBy wc (some (w.heap.size + 1)) := fun wb hb1 => by
          have hM := HA.out.map.heap ((hb1.block (w.heap.size + 1) (Nat.lt_of_lt_of_le hMlt HBWA.out.size)).trans (HBWA.out.block (w.heap.size + 1) hMlt))
          have := hM.round hlt hlen HLK.out
          rw [← HX.out, ← HCT.out] at this
          exact this
        have HST := Aside0.mk step
        clear step
        by_cases hz : ct = 0
        · have hct1 : ¬ (1 : Int) < (ct : Int) + 1 := by omega
          have hhad : had (l0.take i) x = false := by rw [cnt_had, ← HCT.out]; exact decide_eq_false (by omega)
          have hcs : cfTo l0 (i + 1) = cfTo l0 i ++ emit l0 x := by rw [cfTo_succ l0 i hlt, ← HX.out, hhad]; rfl
          have HCS := Aside0.mk hcs
          have hall : header_All.f l0 x.f0 = some (allOf l0 x.f0) := by unfold header_All.f; rw [if_pos ⟨HFIT.out, by omega⟩]
          have HALL := Aside0.mk hall
          obtain ⟨sg, hsg⟩ : ∃ sg, sg = singleB x.f0 := ⟨_, rfl⟩
          have hsi : canon_Single.f x.f0 = some sg := by unfold canon_Single.f; rw [if_pos (by omega), hsg]
          have HSI := Aside0.mk hsi
          have HSG := Aside0.mk hsg
          clear hz hhad hcs hall hsi hsg
          cases sg with
          | true =>
            go_wp2_with (first | (go_at_call 58; rw [← HWA.out]; refine (octet_Lower.calls x.f0 _ _ HLL.out).mono ?_; rintro e wb ⟨rfl, hb1⟩; obtain ⟨wc, hl1, hup, hl2, hM2, hg2⟩ := HST.out wb hb1; have hmid := HA.out.mid HBWA.out HFA.out hb1 hg2 hM2; have hF0 := hmid.cell; have HMID := Aside0.mk hmid; clear hM2 hg2 hb1 hmid) | (go_at_call 74; refine (header_All.calls (some ad) c0 l0 x.f0 _ _ (Kd.C_below HR.out HMID.out.bel) hc0 HALL.out).mono ?_; rintro e wd ⟨v9, rfl, hro, hb2⟩; obtain ⟨A9, c9, rfl⟩ := Kd.R_slice hro; have hmid2 := HMID.out.below hb2; have hF1 := hmid2.cell; have HMID2 := Aside0.mk hmid2; have HRO := Aside0.mk (Kd.R_lower hro (show w.heap.size + 1 ≤ wc.heap.size by have := HMID.out.map.lt; omega)); clear hro hb2 hmid2) | (go_at_call 41; refine (canon_Single.calls x.f0 _ _ HSI.out).mono ?_; rintro e we ⟨rfl, hb3⟩; have hmid3 := HMID2.out.below hb3; have hF2 := hmid3.cell; have HMID3 := Aside0.mk hmid3; have HRO3 := Aside0.mk (Kd.R_below HRO.out hb3); clear hb3 hmid3))
            have hal0 := allOf_len l0 x.f0
            have HEM := Aside0.mk (show emit l0 x = (allOf l0 x.f0).map (fun s => (⟨nameOf x.f0, trimB s⟩ : S83)) by unfold emit; rw [← HSG.out, if_pos rfl])
            go_loopw [40] (fun v40 wx => ∃ (t : Nat) (v' : Value), v40 = .int .i64 (t : Int) ∧ Aside0 (t ≤ (allOf l0 x.f0).length ∧ Mid l0 w i w1.heap.size x wx v' (((allOf l0 x.f0).take t).map (fun s => (⟨nameOf x.f0, trimB s⟩ : S83))) ∧ Kd.R Kd.string 9 wx (w.heap.size + 1) (fun _ => True) (.slice A9 (allOf l0 x.f0).length c9) (allOf l0 x.f0))) (fun v40 _ => (allOf l0 x.f0).length - (intOf v40).toNat)
            case atStart => exact ⟨0, v, rfl, ⟨by omega, by simpa using HMID3.out, HRO3.out⟩⟩
            case round =>
              obtain ⟨t, v', rfl, HA2⟩ := hrel
              obtain ⟨htl, hm2, hr2⟩ := HA2.out
              clear HA2
              by_cases htlt : t < (allOf l0 x.f0).length
              · obtain ⟨ad2, e2, hy⟩ := Kd.at_string (Kd.R_reads' hr2).2.2 (t : Int) (by omega) (by omega)
                cases e2
                rw [rd_str (allOf l0 x.f0) t htlt, Int.toNat_natCast] at hy
                obtain ⟨y, hye⟩ : ∃ y, y = (allOf l0 x.f0)[t] := ⟨_, rfl⟩
                rw [← hye] at hy
                have hys : y.size ≤ 1000000000 := by
                  have hm : y ∈ allOf l0 x.f0 := by rw [hye]; exact List.getElem_mem _
                  unfold allOf at hm
                  obtain ⟨z, hz1, rfl⟩ := List.mem_map.1 hm
                  have := (HB.out z ((List.mem_filter.1 hz1).1)).2
                  omega
                have htk : (((allOf l0 x.f0).take (t + 1)).map (fun s => (⟨nameOf x.f0, trimB s⟩ : S83))) = (((allOf l0 x.f0).take t).map (fun s => (⟨nameOf x.f0, trimB s⟩ : S83))) ++ [⟨nameOf x.f0, trimB y⟩] := by
                  rw [List.take_succ_eq_append_getElem htlt, List.map_append, hye]; rfl
                have hcl : (cfTo l0 i ++ ((allOf l0 x.f0).take t).map (fun s => (⟨nameOf x.f0, trimB s⟩ : S83))).length ≤ 100000000 := by
                  have h1 := cfTo_len l0 i
                  have h2 := allOf_len l0 x.f0
                  have h3 : i * (l0.length + 1) ≤ 1000 * 1001 := Nat.mul_le_mul (by omega) (by omega)
                  rw [List.length_append, List.length_map, List.length_take]
                  omega
                have hF3 := hm2.cell
                have HM2 := Aside0.mk hm2
                have HR2 := Aside0.mk hr2
                have HTK := Aside0.mk htk
                have HCL := Aside0.mk hcl
                clear hm2 hr2 htk hcl hye
                go_wp2_with (go_at_call 72; refine (cput_any w.heap.size wr x.f0 y v' _ HM2.out.box HM2.out.own HCL.out (by omega) hys).mono ?_; rintro e wg ⟨v5, rfl, hbx5, hown5, hbel5, hfr5, hat5⟩; have HMID5 := Aside0.mk (HM2.out.put hbx5 hown5 hbel5 hfr5 hat5); have HR5 := Aside0.mk (HM2.out.texts (base := 0) HR2.out hfr5); clear hbx5 hown5 hbel5 hfr5 hat5)
                go_roundw
                case rel => exact ⟨t + 1, v5, by go_num, ⟨by omega, by rw [HTK.out]; exact HMID5.out, HR5.out⟩⟩
                case measure => simp [intOf]; omega
              · have hm3 : Mid l0 w i w1.heap.size x wr v' (emit l0 x) := by
                  rw [HEM.out]
                  rwa [List.take_of_length_le (by omega)] at hm2
                have HM3 := Aside0.mk hm3
                clear hm2 hr2 hm3
                go_wp2
                go_roundw
                case rel => exact ⟨i + 1, v', by go_num, ⟨⟨by omega, HM3.out.box, by rw [HCS.out]; exact HM3.out.own, HM3.out.map, HM3.out.bel⟩⟩⟩
                case measure => simp [intOf]; omega
          | false =>
            go_wp2_with (first | (go_at_call 58; rw [← HWA.out]; refine (octet_Lower.calls x.f0 _ _ HLL.out).mono ?_; rintro e wb ⟨rfl, hb1⟩; obtain ⟨wc, hl1, hup, hl2, hM2, hg2⟩ := HST.out wb hb1; have hmid := HA.out.mid HBWA.out HFA.out hb1 hg2 hM2; have hF0 := hmid.cell; have HMID := Aside0.mk hmid; clear hM2 hg2 hb1 hmid) | (go_at_call 74; refine (header_All.calls (some ad) c0 l0 x.f0 _ _ (Kd.C_below HR.out HMID.out.bel) hc0 HALL.out).mono ?_; rintro e wd ⟨v9, rfl, hro, hb2⟩; obtain ⟨A9, c9, rfl⟩ := Kd.R_slice hro; have hmid2 := HMID.out.below hb2; have hF1 := hmid2.cell; have HMID2 := Aside0.mk hmid2; have HRO := Aside0.mk (Kd.R_lower hro (show w.heap.size + 1 ≤ wc.heap.size by have := HMID.out.map.lt; omega)); clear hro hb2 hmid2) | (go_at_call 41; refine (canon_Single.calls x.f0 _ _ HSI.out).mono ?_; rintro e we ⟨rfl, hb3⟩; have hmid3 := HMID2.out.below hb3; have hF2 := hmid3.cell; have HMID3 := Aside0.mk hmid3; have HRO3 := Aside0.mk (Kd.R_below HRO.out hb3); clear hb3 hmid3))
            have hem : emit l0 x = [⟨nameOf x.f0, trimB ⟨(joinL (allOf l0 x.f0)).toArray⟩⟩] := by unfold emit; rw [← HSG.out, if_neg (by decide)]
            have hsum : sumL (allOf l0 x.f0) ≤ 100000000 := by
              have h1 : ∀ ts : List ByteArray, (∀ z ∈ ts, z.size ≤ 100000) → sumL ts ≤ 100000 * ts.length := by
                intro ts
                induction ts with
                | nil => intro _; simp [sumL]
                | cons z ts ih =>
                  intro h
                  have h2 := ih (fun y hy => h y (List.mem_cons_of_mem _ hy))
                  have h3 := h z (List.mem_cons_self ..)
                  rw [sumL, List.length_cons]
                  omega
              have h2 := h1 (allOf l0 x.f0) (fun y hy => by
                unfold allOf at hy
                obtain ⟨z, hz1, rfl⟩ := List.mem_map.1 hy
                exact (HB.out z ((List.mem_filter.1 hz1).1)).2)
              have h3 := allOf_len l0 x.f0
              omega
            have hal := allOf_len l0 x.f0
            have HJ := Aside0.mk (show lists_Join.f (allOf l0 x.f0) = some ⟨(joinL (allOf l0 x.f0)).toArray⟩ by unfold lists_Join.f; rw [if_pos ⟨by omega, by omega⟩])
            have HJS := Aside0.mk (show (⟨(joinL (allOf l0 x.f0)).toArray⟩ : ByteArray).size ≤ 1000000000 by
              have hjl : (joinL (allOf l0 x.f0)).length ≤ 2 * (allOf l0 x.f0).length + sumL (allOf l0 x.f0) := by
                cases allOf l0 x.f0 with
                | nil => simp [joinL]
                | cons z zs => rw [joinL, List.length_append, tailJ_len, len_data, sumL, List.length_cons]; omega
              show (joinL (allOf l0 x.f0)).toArray.size ≤ _
              rw [List.size_toArray]; omega)
            have HC9 := Aside0.mk (Kd.R_reads' HRO3.out).2.2
            have HC9c := Aside0.mk (show (allOf l0 x.f0).length ≤ c9 by
              obtain ⟨A', c', he', hle', _⟩ := Kd.R_reads HRO3.out
              injection he' with _ _ he'
              omega)
            have HLN := Aside0.mk (show (cfTo l0 i ++ ([] : List S83)).length ≤ 100000000 by
              have h1 := cfTo_len l0 i
              have h3 : i * (l0.length + 1) ≤ 1000 * 1001 := Nat.mul_le_mul (by omega) (by omega)
              rw [List.append_nil]; omega)
            have HEM := Aside0.mk hem
            clear hem hsum
            -- region
            refine start_ (n := 6) (S := fun w' => w'.cell? ⟨w1.heap.size, 0, none⟩ = some (.string x.f0)) (ds := [5]) #[false, false, false, false, false, false] (by kernel_rfl) rfl rfl HMID3.out.cell (fun hHeld => ?_)
            refine pure_ (i := 0) (N := (some 50)) (v := ?_) (a' := ?_) #[true, false, false, false, false, false] rfl rfl (by kernel_rfl) (fun _ _ _ h => h) (Or.inl ⟨by rfl, ?_⟩) ?_ ?_
            rotate_left
            · intro w'
              go_simp
              with_reducible rfl
            rotate_left
            · simp only [Act.put, List.setIfInBounds_toArray, List.set_cons_zero, List.set_cons_succ, i64_w, i32_w]
              rfl
            refine pure_ (i := 1) (N := (some 51)) (v := ?_) (a' := ?_) #[true, true, false, false, false, false] rfl rfl (by kernel_rfl) (fun _ _ _ h => h) (Or.inl ⟨by rfl, ?_⟩) ?_ ?_
            rotate_left
            · intro w'
              go_simp
              with_reducible rfl
            rotate_left
            · simp only [Act.put, List.setIfInBounds_toArray, List.set_cons_zero, List.set_cons_succ, i64_w, i32_w]
              rfl
            refine pure_ (i := 3) (N := (some 53)) (v := ?_) (a' := ?_) #[true, true, false, true, false, false] rfl rfl (by kernel_rfl) (fun _ _ _ h => h) (Or.inl ⟨by rfl, ?_⟩) ?_ ?_
            rotate_left
            · intro w'
              go_simp
              with_reducible rfl
            rotate_left
            · simp only [Act.put, List.setIfInBounds_toArray, List.set_cons_zero, List.set_cons_succ, i64_w, i32_w]
              rfl
            refine take_ (i := 2) (N := (some 52)) (v := ?_) (a' := ?_) #[true, true, true, true, false, false] rfl rfl (by kernel_rfl) (fun _ _ _ h => h) (Or.inl ⟨by rfl, ?_⟩) hHeld ?_ ?_
            rotate_left
            · rintro w' s0
              go_simp
              with_reducible rfl
            rotate_left
            · simp only [Act.put, List.setIfInBounds_toArray, List.set_cons_zero, List.set_cons_succ, i64_w, i32_w]
              rfl
            refine one_ (i := 4) (N := (some 54)) #[true, true, true, true, true, false] rfl rfl (by kernel_rfl) (by decide) (fun K hK => ?_)
            refine goes_ Try.func75 (by kernel_rfl) rfl #[.slice A9 (allOf l0 x.f0).length c9] (by rfl) rfl rfl (by (try simp only [List.map_toArray, List.map_cons, List.map_nil]); first | done | rfl) ?_
            refine (lists_Join.calls A9 c9 (allOf l0 x.f0) _ _ (Kd.C_drew HC9.out) HC9c.out HJ.out).mono ?_
            rintro e wf ⟨rfl, hb4⟩
            have hmid4 := HMID3.out.below (((Below.refl we.heap.size we).drew).trans hb4)
            have HMID4 := Aside0.mk hmid4
            refine ⟨_, rfl, ?_⟩
            refine hK.out _ _ hmid4.cell (fun hHeld => ?_)
            clear hmid4 hb4
            clear hK K
            refine norm_ (a' := ?_) ?_ ?_
            rotate_left
            · show Act.put _ (some 54) _ = _
              simp only [Act.put, List.setIfInBounds_toArray, List.set_cons_zero, List.set_cons_succ, i64_w, i32_w]
              rfl
            refine last_ (i := 5) (N := (some 55)) #[true, true, true, true, true, true] rfl rfl (by kernel_rfl) (by decide) (fun K hK => ?_)
            refine call_ 72 #[.string x.f0, .string ⟨(joinL (allOf l0 x.f0)).toArray⟩, .pointer (some ⟨w.heap.size, 0, none⟩)] (by rfl) rfl ?hrun ?_
            case hrun => go_simp
            refine (cput_any w.heap.size wf x.f0 ⟨(joinL (allOf l0 x.f0)).toArray⟩ v _ HMID4.out.box HMID4.out.own HLN.out (by omega) HJS.out).mono ?_
            rintro e wg ⟨v5, rfl, hbx5, hown5, hbel5, hfr5, hat5⟩
            have hmid5 := HMID4.out.put hbx5 hown5 hbel5 hfr5 hat5
            have HMID5 := Aside0.mk hmid5
            refine ⟨_, rfl, ?_⟩
            refine hK.out _ _ ?_
            clear hbx5 hown5 hbel5 hfr5 hat5 hmid5
            clear hK K
            refine norm_ (a' := ?_) ?_ ?_
            rotate_left
            · show Act.put _ (some 55) _ = _
              simp only [Act.put, List.setIfInBounds_toArray, List.set_cons_zero, List.set_cons_succ, i64_w, i32_w]
              rfl
            refine done_ (by kernel_rfl) ?_
            -- end region
            go_wp2
            go_roundw
            case rel => exact ⟨i + 1, v5, by go_num, ⟨⟨by omega, HMID5.out.box, by rw [HCS.out, HEM.out]; exact HMID5.out.own, HMID5.out.map, HMID5.out.bel⟩⟩⟩
            case measure => simp [intOf]; omega
        · have hct1 : (1 : Int) < (ct : Int) + 1 := by omega
          have hhad : had (l0.take i) x = true := by rw [cnt_had, ← HCT.out]; exact decide_eq_true (by omega)
          have hcs : cfTo l0 (i + 1) = cfTo l0 i := by rw [cfTo_succ l0 i hlt, ← HX.out, hhad]; simp
          have HCS := Aside0.mk hcs
          clear hhad hcs
          go_wp2_with (go_at_call 58; rw [← HWA.out]; refine (octet_Lower.calls x.f0 _ _ HLL.out).mono ?_; rintro e wb ⟨rfl, hb1⟩; obtain ⟨wc, hl1, hup, hl2, hM2, hg2⟩ := HST.out wb hb1; have hmid := HA.out.mid HBWA.out HFA.out hb1 hg2 hM2; have hF0 := hmid.cell; have HMID := Aside0.mk hmid; clear hM2 hg2 hb1 hmid)
          go_roundw
          case rel =>
            have hm := HMID.out
            exact ⟨i + 1, v, by go_num, ⟨⟨by omega, hm.box, by rw [HCS.out]; simpa using hm.own, hm.map, hm.bel⟩⟩⟩
          case measure => simp [intOf]; omega
      · have hie : i = l0.length := by omega
        have hbx := (blk_cell HA.out.box 0).trans rfl
        have hfin : Kd.R k83 83 w1 (w.heap.size + 1) (fun _ => True) v (canonF l0) := by unfold canonF; rw [← hie]; exact HA.out.own
        have HFIN := Aside0.mk hfin
        have HL := Aside0.mk HA.out.bel
        clear HA hfin
        go_wp2
        go_ret
        exact ⟨_, rfl, Kd.R_lower HFIN.out (by omega), HL.out⟩
  · rw [if_neg hb] at h
    exact absurd h (by simp)
end Go.Proofs.Ytacglolggaobdab.PAll
end
