/- canon.Name comes to what canon_Name.f says: one of four names as it is written, else a capital behind each hyphen. -/
import Derived.Test.YtacglolggaobdabGoctetLower
import Derived.Lib.OthersKept
namespace Go.Proofs.Ytacglolggaobdab.PAll
open Go.RowKit Go.Proofs.YtacglolggaobdabW.PrintWords Go.Proofs.YtacglolggaobdabW.PrintLast Go.Proofs.YtacglolggaobdabW.PrintMore Go.Proofs.Ytacglolggaobdab.Hn Go.Proofs.Ytacglolggaobdab.Oct
set_option linter.unusedVariables false
set_option linter.unusedSimpArgs false

def specials : List ByteArray := [⟨#[69, 84, 97, 103]⟩, ⟨#[84, 69]⟩, ⟨#[87, 87, 87, 45, 65, 117, 116, 104, 101, 110, 116, 105, 99, 97, 116, 101]⟩, ⟨#[68, 78, 84]⟩]
def up (b : Bool) (c : UInt8) : UInt8 := if b = true ∧ 97 ≤ c.toNat ∧ c.toNat ≤ 122 then c - 32 else c
def capL : Bool → List UInt8 → List UInt8
  | _, [] => []
  | b, c :: cs => up b c :: capL (decide (c = 45)) cs
def nameOf (s : ByteArray) : ByteArray := match specials.find? (fun n => foldB n s) with | some n => n | none => ⟨(capL true (lowL s)).toArray⟩
def canon_Name.f (a0 : ByteArray) : Option (ByteArray) := if a0.size ≤ 1000000 then some (nameOf a0) else none

theorem capL_len : ∀ (b : Bool) (l : List UInt8), (capL b l).length = l.length
  | _, [] => rfl
  | b, c :: cs => by rw [capL, List.length_cons, List.length_cons, capL_len]
/-- does a word begin at i -/
def flagAt (l : List UInt8) (b : Bool) (i : Nat) : Bool := match i with | 0 => b | i + 1 => decide (l[i]? = some 45)
theorem capL_get : ∀ (b : Bool) (l : List UInt8) (i : Nat) (h : i < l.length), (capL b l)[i]? = some (up (flagAt l b i) l[i])
  | b, c :: cs, 0, h => rfl
  | b, c :: cs, 1, h => by
    have := capL_get (decide (c = 45)) cs 0 (by simpa using h)
    rw [capL]
    show (capL (decide (c = 45)) cs)[0]? = _
    rw [this]
    simp [flagAt]
  | b, c :: cs, i + 2, h => by
    have := capL_get (decide (c = 45)) cs (i + 1) (by rw [List.length_cons] at h; omega)
    rw [capL]
    show (capL (decide (c = 45)) cs)[i + 1]? = _
    rw [this]
    simp [flagAt]

theorem special_any (w : World) : Calls Try.prog 67 #[] w fun e w' => e = .returned (.agg #[.string ⟨#[69, 84, 97, 103]⟩, .string ⟨#[84, 69]⟩, .string ⟨#[87, 87, 87, 45, 65, 117, 116, 104, 101, 110, 116, 105, 99, 97, 116, 101]⟩, .string ⟨#[68, 78, 84]⟩]) ∧ Below w.heap.size w w' := by
  go_enter Try.func67, Try.ntmps67
  go_wp2
  (try simp only [Exit.inBlock, Exit.then])
  refine bodyPost_ret (results_cell_row rfl _ _ w.heap.size 105 _ (0, 0) _ rfl (heap_alloc_new w _) Try.underlying105 rfl (by kernel_rfl)) rfl ⟨rfl, (Below.refl _ _).alloc (Nat.le_refl _) _⟩

theorem upper_any (c : UInt8) (w : World) : Calls Try.prog 68 #[.int .i32 (c.toNat : Int)] w fun e w' => e = .returned (.int .i32 ((up true c).toNat : Int)) ∧ w = w' := by
  have hc := c.toNat_lt
  have h0 : ((up true c).toNat : Int) = if 97 ≤ c.toNat ∧ c.toNat ≤ 122 then (c.toNat : Int) - 32 else (c.toNat : Int) := by
    unfold up
    by_cases h : 97 ≤ c.toNat ∧ c.toNat ≤ 122
    · rw [if_pos ⟨rfl, h⟩, if_pos h, UInt8.toNat_sub]
      simp
      omega
    · rw [if_neg (fun x => h x.2), if_neg h]
  rw [h0]
  obtain ⟨n, hn⟩ : ∃ n : Nat, n = c.toNat := ⟨_, rfl⟩
  rw [← hn] at hc ⊢
  clear h0 hn
  go_enter Try.func68, Try.ntmps68
  go_wp2
  all_goals (go_ret; refine ⟨?_, rfl⟩; refine congrArg (fun z => Ending.returned (.int .i32 z)) ?_; repeat' split)
  all_goals omega

/-- the octets of a rune of many octets are none of ASCII's -/
theorem get_bang (s : ByteArray) (j : Nat) (h : j < s.size) : s.get! j = s.data.toList[j]'(by simpa using h) := by
  simp [ByteArray.get!, getElem!_pos, h]
theorem decode_cont (s : ByteArray) (pos : Nat) (h : pos < s.size) (ha : 128 ≤ (s.get! pos).toNat) : pos + (Utf8.decode s pos).2 ≤ s.size ∧ (∀ k, k < (Utf8.decode s pos).2 → 128 ≤ (s.get! (pos + k)).toNat) := by
  have hn : ¬ (s.get! (pos + 0)).toNat < 128 := by rw [Nat.add_zero]; omega
  simp only [Utf8.decode, hn, if_false]
  repeat' split
  all_goals (simp only [Bool.and_eq_true, decide_eq_true_eq, beq_iff_eq] at *)
  all_goals refine ⟨by omega, fun k hk => ?_⟩
  all_goals
    have h4 : k = 0 ∨ k = 1 ∨ k = 2 ∨ k = 3 := by omega
    rcases h4 with rfl | rfl | rfl | rfl
  all_goals first | (rw [Nat.add_zero]; exact ha) | omega

theorem low_hi {c : UInt8} (h : 128 ≤ c.toNat) : low c = c := by unfold low; rw [if_neg (by omega)]
theorem low_lt {c : UInt8} (h : c.toNat < 128) : (low c).toNat < 128 := by
  have := low_nat c
  split at this <;> omega
theorem low_45 (c : UInt8) : low c = 45 ↔ c = 45 := by
  have : ∀ n : Fin 256, (low (UInt8.ofNat n.1) = 45 ↔ UInt8.ofNat n.1 = 45) := by decide +kernel
  have h := this ⟨c.toNat, c.toNat_lt⟩
  simpa using h
theorem up_hi {b : Bool} {c : UInt8} (h : 128 ≤ c.toNat) : up b c = c := by unfold up; rw [if_neg (by omega)]
theorem up_false (c : UInt8) : up false c = c := by unfold up; rw [if_neg (by simp)]

theorem BRow.heap {w w' : World} {g : Nat} {xs : List UInt8} (h : BRow w g xs) (he : w'.heap[g]? = w.heap[g]?) : BRow w' g xs := by
  obtain ⟨tl, m, hm, hg⟩ := h
  exact ⟨tl, m, hm, he.trans hg⟩
theorem beq_int (a b : Int) : (a == b) = decide (a = b) := by by_cases h : a = b <;> simp [h]
theorem data_at (s : ByteArray) (i : Nat) (h : i < s.size) : s[i]'h = s.data.toList[i]'(by simpa using h) := rfl
/-- the first i octets are done -/
def capAt (L : List UInt8) (i : Nat) : List UInt8 := (capL true L).take i ++ L.drop i
theorem capAt_len (L : List UInt8) (i : Nat) (h : i ≤ L.length) : (capAt L i).length = L.length := by
  unfold capAt
  rw [List.length_append, List.length_take, capL_len, List.length_drop]
  omega
theorem capAt_get (L : List UInt8) (i : Nat) (h : i < L.length) (h2 : i < (capAt L i).length) : (capAt L i)[i] = L[i] := by
  have hl : ((capL true L).take i).length = i := by rw [List.length_take, capL_len]; omega
  have e : (capAt L i)[i]? = L[i]? := by
    unfold capAt
    rw [List.getElem?_append_right (by omega), hl, Nat.sub_self, List.getElem?_drop, Nat.add_zero]
  rw [List.getElem?_eq_getElem h2, List.getElem?_eq_getElem h] at e
  exact Option.some.inj e
theorem capAt_step (L : List UInt8) (i : Nat) (h : i < L.length) : (capAt L i).set i (up (flagAt L true i) L[i]) = capAt L (i + 1) := by
  have hl : i < (capL true L).length := by rw [capL_len]; exact h
  have hg := capL_get true L i h
  rw [List.getElem?_eq_getElem hl] at hg
  unfold capAt
  rw [List.take_succ_eq_append_getElem hl, List.set_append_right _ _ (by rw [List.length_take]; omega), List.length_take, Nat.min_eq_left (by omega), Nat.sub_self, List.drop_eq_getElem_cons h, List.set_cons_zero, Option.some.inj hg]
  simp
theorem capAt_same (L : List UInt8) (i : Nat) (h : i < L.length) (hu : up (flagAt L true i) L[i] = L[i]) : capAt L (i + 1) = capAt L i := by
  rw [← capAt_step L i h, hu]
  refine List.ext_getElem? fun j => ?_
  rw [List.getElem?_set]
  split
  · rename_i e
    subst e
    have h2 : i < (capAt L i).length := by rw [capAt_len L i (by omega)]; exact h
    rw [if_pos h2, List.getElem?_eq_getElem h2, capAt_get L i h h2]
  · rfl
theorem capAt_skip (L : List UInt8) (i : Nat) : ∀ (d : Nat), (∀ k, k < d → ∃ h : i + k < L.length, 128 ≤ (L[i + k]).toNat) → capAt L (i + d) = capAt L i
  | 0, _ => rfl
  | d + 1, hk => by
    obtain ⟨h, hx⟩ := hk d (by omega)
    rw [← Nat.add_assoc, capAt_same L (i + d) h (up_hi hx)]
    exact capAt_skip L i d (fun k hk' => hk k (by omega))

def spAgg : Value := .agg #[.string ⟨#[69, 84, 97, 103]⟩, .string ⟨#[84, 69]⟩, .string ⟨#[87, 87, 87, 45, 65, 117, 116, 104, 101, 110, 116, 105, 99, 97, 116, 101]⟩, .string ⟨#[68, 78, 84]⟩]
theorem sp_index (i : Nat) (h : i < 4) (W : World) : (Instr.index 105 spAgg (.int .i64 (i : Int))).run Try.prog W = .ok (.string (specials[i]'h)) W := by
  obtain ⟨i0, hi, hz0, hz1, hz2⟩ := info_parts (show (Try.prog.info? 9).map (fun i => (i.zero, i.size, i.bytes)) = some (some (.string ⟨#[]⟩), 1, 16) by kernel_rfl)
  have e : Try.prog.underlying 105 = some (.array 4 9) := by kernel_rfl
  have e3 : (Go.sizeOf 9).run Try.prog W = .ok 1 W := by simp [sizeOf, typeInfo, hi, hz1]
  have h4 : i = 0 ∨ i = 1 ∨ i = 2 ∨ i = 3 := by omega
  rcases h4 with rfl | rfl | rfl | rfl
  all_goals
    simp [Instr.index, spAgg, run_underlying e, asIntOf, e3, part, isAgg, run_underlying Try.underlying9, specials]

set_option maxHeartbeats 2000000 in
set_option maxRecDepth 100000 in
/-- the second half: the name in small letters, a capital behind each hyphen -/
theorem canon_Name.calls (a0 : ByteArray) (r : ByteArray) (w : World) (h : canon_Name.f a0 = some r) :
    Calls Try.prog 39 #[.string a0] w fun e w' => e = .returned (.string r) ∧ Below w.heap.size w w' := by
  unfold canon_Name.f at h
  by_cases hb : a0.size ≤ 1000000
  · rw [if_pos hb] at h
    have h := Option.some.inj h
    have hfold := fun n : ByteArray => fold_any n a0
    have f0 : ∀ w, Calls Try.prog 43 #[.string ⟨#[69, 84, 97, 103]⟩, .string a0] w fun e w' => e = .returned (.bool (foldB ⟨#[69, 84, 97, 103]⟩ a0)) ∧ Drawn0 w w' := fun w => fold_any _ a0 w (by decide) (by omega)
    have f1 : ∀ w, Calls Try.prog 43 #[.string ⟨#[84, 69]⟩, .string a0] w fun e w' => e = .returned (.bool (foldB ⟨#[84, 69]⟩ a0)) ∧ Drawn0 w w' := fun w => fold_any _ a0 w (by decide) (by omega)
    have f2 : ∀ w, Calls Try.prog 43 #[.string ⟨#[87, 87, 87, 45, 65, 117, 116, 104, 101, 110, 116, 105, 99, 97, 116, 101]⟩, .string a0] w fun e w' => e = .returned (.bool (foldB ⟨#[87, 87, 87, 45, 65, 117, 116, 104, 101, 110, 116, 105, 99, 97, 116, 101]⟩ a0)) ∧ Drawn0 w w' := fun w => fold_any _ a0 w (by decide) (by omega)
    have f3 : ∀ w, Calls Try.prog 43 #[.string ⟨#[68, 78, 84]⟩, .string a0] w fun e w' => e = .returned (.bool (foldB ⟨#[68, 78, 84]⟩ a0)) ∧ Drawn0 w w' := fun w => fold_any _ a0 w (by decide) (by omega)
    obtain ⟨q0, hq0⟩ : ∃ q, q = foldB ⟨#[69, 84, 97, 103]⟩ a0 := ⟨_, rfl⟩
    obtain ⟨q1, hq1⟩ : ∃ q, q = foldB ⟨#[84, 69]⟩ a0 := ⟨_, rfl⟩
    obtain ⟨q2, hq2⟩ : ∃ q, q = foldB ⟨#[87, 87, 87, 45, 65, 117, 116, 104, 101, 110, 116, 105, 99, 97, 116, 101]⟩ a0 := ⟨_, rfl⟩
    obtain ⟨q3, hq3⟩ : ∃ q, q = foldB ⟨#[68, 78, 84]⟩ a0 := ⟨_, rfl⟩
    rw [← hq0] at f0
    rw [← hq1] at f1
    rw [← hq2] at f2
    rw [← hq3] at f3
    unfold nameOf at h
    simp only [specials, List.find?_cons, ← hq0, ← hq1, ← hq2, ← hq3, List.find?_nil] at h
    have F0 := Aside0.mk f0
    have F1 := Aside0.mk f1
    have F2 := Aside0.mk f2
    have F3 := Aside0.mk f3
    have HR := Aside0.mk h
    clear hfold f0 f1 f2 f3 h hq0 hq1 hq2 hq3
    have hLL : octet_Lower.f a0 = some ⟨(lowL a0).toArray⟩ := by unfold octet_Lower.f; rw [if_pos (by omega)]
    have HLL := Aside0.mk hLL
    clear hLL
    go_enter Try.func39, Try.ntmps39
    go_wp2_with (go_at_call 67; refine (special_any _).mono ?_; rintro e w0 ⟨rfl, hb0⟩; have HB0 := Aside0.mk hb0; clear hb0)
    go_loopw [11] (fun v11 wr => ∃ (i : Nat), v11 = .int .i64 (i : Int) ∧ Aside0 (i ≤ 4 ∧ (0 < i → q0 = false) ∧ (1 < i → q1 = false) ∧ (2 < i → q2 = false) ∧ (3 < i → q3 = false) ∧ Drawn0 w0 wr)) (fun v11 _ => 4 - (intOf v11).toNat)
    case atStart => exact ⟨0, rfl, ⟨by omega, fun h => absurd h (by omega), fun h => absurd h (by omega), fun h => absurd h (by omega), fun h => absurd h (by omega), Drawn0.refl _⟩⟩
    case round =>
      obtain ⟨i, rfl, HA⟩ := hrel
      obtain ⟨hi, n0, n1, n2, n3, ⟨m, rfl⟩⟩ := HA.out
      clear HA
      have hi5 : i = 0 ∨ i = 1 ∨ i = 2 ∨ i = 3 ∨ i = 4 := by omega
      rcases hi5 with rfl | rfl | rfl | rfl | rfl
      · have hix : ∀ W, (Instr.index 105 (.agg #[.string ⟨#[69, 84, 97, 103]⟩, .string ⟨#[84, 69]⟩, .string ⟨#[87, 87, 87, 45, 65, 117, 116, 104, 101, 110, 116, 105, 99, 97, 116, 101]⟩, .string ⟨#[68, 78, 84]⟩]) (.int .i64 0)).run Try.prog W = .ok (.string ⟨#[69, 84, 97, 103]⟩) W := fun W => sp_index 0 (by omega) W
        clear n0 n1 n2 n3
        cases q0 with
        | true =>
          go_wp2_with (go_at_call 43; refine (F0.out _).mono ?_; rintro e w' ⟨rfl, ⟨m2, rfl⟩⟩)
          go_ret
          exact ⟨congrArg (fun s => Ending.returned (.string s)) HR.out, by first | exact pw_below_drewN (pw_below_drewN HB0.out m) m2 | exact pw_below_drewN HB0.out (m + m2)⟩
        | false =>
          go_wp2_with (go_at_call 43; refine (F0.out _).mono ?_; rintro e w' ⟨rfl, ⟨m2, rfl⟩⟩)
          go_roundw
          case rel => exact ⟨1, rfl, ⟨by omega, fun _ => by trivial, fun h => absurd h (by omega), fun h => absurd h (by omega), fun h => absurd h (by omega), m + m2, by first | rfl | exact World.drewN_drewN _ _ _⟩⟩
          case measure => simp [intOf]
      · have hix : ∀ W, (Instr.index 105 (.agg #[.string ⟨#[69, 84, 97, 103]⟩, .string ⟨#[84, 69]⟩, .string ⟨#[87, 87, 87, 45, 65, 117, 116, 104, 101, 110, 116, 105, 99, 97, 116, 101]⟩, .string ⟨#[68, 78, 84]⟩]) (.int .i64 1)).run Try.prog W = .ok (.string ⟨#[84, 69]⟩) W := fun W => sp_index 1 (by omega) W
        obtain rfl := n0 (by omega)
        clear n0 n1 n2 n3
        cases q1 with
        | true =>
          go_wp2_with (go_at_call 43; refine (F1.out _).mono ?_; rintro e w' ⟨rfl, ⟨m2, rfl⟩⟩)
          go_ret
          exact ⟨congrArg (fun s => Ending.returned (.string s)) HR.out, by first | exact pw_below_drewN (pw_below_drewN HB0.out m) m2 | exact pw_below_drewN HB0.out (m + m2)⟩
        | false =>
          go_wp2_with (go_at_call 43; refine (F1.out _).mono ?_; rintro e w' ⟨rfl, ⟨m2, rfl⟩⟩)
          go_roundw
          case rel => exact ⟨2, rfl, ⟨by omega, fun _ => by trivial, fun _ => by trivial, fun h => absurd h (by omega), fun h => absurd h (by omega), m + m2, by first | rfl | exact World.drewN_drewN _ _ _⟩⟩
          case measure => simp [intOf]
      · have hix : ∀ W, (Instr.index 105 (.agg #[.string ⟨#[69, 84, 97, 103]⟩, .string ⟨#[84, 69]⟩, .string ⟨#[87, 87, 87, 45, 65, 117, 116, 104, 101, 110, 116, 105, 99, 97, 116, 101]⟩, .string ⟨#[68, 78, 84]⟩]) (.int .i64 2)).run Try.prog W = .ok (.string ⟨#[87, 87, 87, 45, 65, 117, 116, 104, 101, 110, 116, 105, 99, 97, 116, 101]⟩) W := fun W => sp_index 2 (by omega) W
        obtain rfl := n0 (by omega)
        obtain rfl := n1 (by omega)
        clear n0 n1 n2 n3
        cases q2 with
        | true =>
          go_wp2_with (go_at_call 43; refine (F2.out _).mono ?_; rintro e w' ⟨rfl, ⟨m2, rfl⟩⟩)
          go_ret
          exact ⟨congrArg (fun s => Ending.returned (.string s)) HR.out, by first | exact pw_below_drewN (pw_below_drewN HB0.out m) m2 | exact pw_below_drewN HB0.out (m + m2)⟩
        | false =>
          go_wp2_with (go_at_call 43; refine (F2.out _).mono ?_; rintro e w' ⟨rfl, ⟨m2, rfl⟩⟩)
          go_roundw
          case rel => exact ⟨3, rfl, ⟨by omega, fun _ => by trivial, fun _ => by trivial, fun _ => by trivial, fun h => absurd h (by omega), m + m2, by first | rfl | exact World.drewN_drewN _ _ _⟩⟩
          case measure => simp [intOf]
      · have hix : ∀ W, (Instr.index 105 (.agg #[.string ⟨#[69, 84, 97, 103]⟩, .string ⟨#[84, 69]⟩, .string ⟨#[87, 87, 87, 45, 65, 117, 116, 104, 101, 110, 116, 105, 99, 97, 116, 101]⟩, .string ⟨#[68, 78, 84]⟩]) (.int .i64 3)).run Try.prog W = .ok (.string ⟨#[68, 78, 84]⟩) W := fun W => sp_index 3 (by omega) W
        obtain rfl := n0 (by omega)
        obtain rfl := n1 (by omega)
        obtain rfl := n2 (by omega)
        clear n0 n1 n2 n3
        cases q3 with
        | true =>
          go_wp2_with (go_at_call 43; refine (F3.out _).mono ?_; rintro e w' ⟨rfl, ⟨m2, rfl⟩⟩)
          go_ret
          exact ⟨congrArg (fun s => Ending.returned (.string s)) HR.out, by first | exact pw_below_drewN (pw_below_drewN HB0.out m) m2 | exact pw_below_drewN HB0.out (m + m2)⟩
        | false =>
          go_wp2_with (go_at_call 43; refine (F3.out _).mono ?_; rintro e w' ⟨rfl, ⟨m2, rfl⟩⟩)
          go_roundw
          case rel => exact ⟨4, rfl, ⟨by omega, fun _ => by trivial, fun _ => by trivial, fun _ => by trivial, fun _ => by trivial, m + m2, by first | rfl | exact World.drewN_drewN _ _ _⟩⟩
          case measure => simp [intOf]
      · obtain rfl := n0 (by omega)
        obtain rfl := n1 (by omega)
        obtain rfl := n2 (by omega)
        obtain rfl := n3 (by omega)
        clear n0 n1 n2 n3
        have hr : (⟨(capL true (lowL a0)).toArray⟩ : ByteArray) = r := HR.out
        have HRR := Aside0.mk hr
        have hsL : (lowL a0).length = a0.size := by unfold lowL; rw [List.length_map]; simp
        have HSL := Aside0.mk hsL
        clear hr hsL
        go_wp2_with (go_at_call 58; refine (octet_Lower.calls a0 _ _ HLL.out).mono ?_; rintro e w1 ⟨rfl, hb1⟩; obtain ⟨c, W, hc, hcv, hrow, hbel⟩ := bytes_of ⟨(lowL a0).toArray⟩ w1; have hBW := below_step (below_step (pw_below_drewN HB0.out m) hb1) hbel; have HBW := Aside0.mk hBW; have HRW := Aside0.mk hrow; have hsz : (⟨(lowL a0).toArray⟩ : ByteArray).size = a0.size := (by rw [← HSL.out]; simp [ByteArray.size]); rw [hsz] at hcv; have hww := (below_step (pw_below_drewN HB0.out m) hb1).size; clear hsz hrow hbel hBW hb1)
        obtain ⟨L, hL⟩ : ∃ L, L = lowL a0 := ⟨_, rfl⟩
        have hgk : w1.heap.size < W.heap.size := HRW.out.lt
        have HLE := Aside0.mk hL
        replace HSL := Aside0.mk (show L.length = a0.size by rw [hL]; exact HSL.out)
        replace HRW := Aside0.mk (show BRow W w1.heap.size L by rw [hL]; exact HRW.out)
        replace HRR := Aside0.mk (show (⟨(capL true L).toArray⟩ : ByteArray) = r by rw [hL]; exact HRR.out)
        clear hL
        go_loopw [6] (fun v6 wr => ∃ (pos : Nat), v6 = .bool (flagAt L true pos) ∧ Aside0 (pos ≤ a0.size ∧ wr.heap[W.heap.size]? = some (.stringIter a0 pos) ∧ BRow wr w1.heap.size (capAt L pos) ∧ Below w.heap.size w wr)) (fun _ wr => a0.size - wr.iterPos W.heap.size)
        case atStart =>
          refine ⟨0, rfl, ⟨by omega, World.iter_heap _ _ _, ?_, HBW.out.alloc (by have := HBW.out.size; omega) _⟩⟩
          have h0 : capAt L 0 = L := by simp [capAt]
          rw [h0]
          have hrw : BRow W w1.heap.size L := HRW.out
          exact hrw.heap (Below.heap_alloc _ _ _ hgk)
        case round =>
          obtain ⟨pos, rfl, HA⟩ := hrel
          obtain ⟨hpl, hit, hrow, hbel⟩ := HA.out
          clear HA
          have hcl := capAt_len L pos (by rw [HSL.out]; exact hpl)
          rw [HSL.out] at hcl
          by_cases hp : pos < a0.size
          · have hpL : pos < L.length := by rw [HSL.out]; exact hp
            have hpd : pos < a0.data.toList.length := by simpa using hp
            obtain ⟨x, hx⟩ : ∃ x, x = L[pos] := ⟨_, rfl⟩
            obtain ⟨d, hd⟩ : ∃ d, d = a0[pos]'hp := ⟨_, rfl⟩
            have hxd : x = low d := by
              rw [hx, hd, data_at]
              have := lowL_get a0 pos hpd
              rw [← HLE.out, List.getElem?_eq_getElem hpL] at this
              exact Option.some.inj this
            have hcx := hrow.cell pos (by rw [hcl]; exact hp)
            rw [capAt_get L pos hpL, ← hx] at hcx
            have hfx := hrow.fz pos (by rw [hcl]; exact hp)
            have hputx := fun u => hrow.put pos (by rw [hcl]; exact hp) u
            have hstep := capAt_step L pos hpL
            rw [← hx] at hstep
            by_cases ha : (a0[pos]'hp).toNat < 128
            · have hnx : ∀ ty, (Instr.next (.pointer (some ⟨W.heap.size, 0, none⟩)) true ty).run Try.prog wr = _ := fun ty => Lib.run_next_ascii_at wr W.heap.size a0 pos ty hit hp ha
              obtain ⟨w2, hw2⟩ : ∃ w2, w2 = wr.iterAt W.heap.size a0 (pos + 1) := ⟨_, rfl⟩
              rw [← hw2, ← hd] at hnx
              rw [← hd] at ha
              have hit2 : w2.heap[W.heap.size]? = some (.stringIter a0 (pos + 1)) := by rw [hw2]; exact Lib.iterAt_heap wr W.heap.size a0 pos (pos + 1) hit
              have hrow2 : BRow w2 w1.heap.size (capAt L pos) := hrow.heap (by rw [hw2]; exact Lib.iterAt_other wr W.heap.size w1.heap.size a0 (pos + 1) (by omega))
              have hbel2 : Below w.heap.size w w2 := by rw [hw2]; exact Lib.below_iterAt hbel (by have := HBW.out.size; omega) a0 (pos + 1)
              have hcx2 := hrow2.cell pos (by rw [hcl]; exact hp)
              rw [capAt_get L pos hpL, ← hx] at hcx2
              have hfx2 := hrow2.fz pos (by rw [hcl]; exact hp)
              have hput2 := hrow2.put pos (by rw [hcl]; exact hp) (up true x)
              have hxl : (x.toNat : Int) < 128 := by rw [hxd]; have := low_lt ha; omega
              have hub : ((up true x).toNat : Int) ≤ 255 := by have := (up true x).toNat_lt; omega
              have hfl : ((d.toNat : Int) == 45) = flagAt L true (pos + 1) := by
                rw [beq_int]
                show _ = decide (L[pos]? = some 45)
                rw [List.getElem?_eq_getElem hpL, ← hx]
                refine decide_eq_decide.2 ?_
                rw [Option.some.injEq, hxd, low_45]
                constructor
                · intro h
                  have h2 : d.toNat = 45 := by omega
                  exact UInt8.toNat_inj.1 h2
                · rintro rfl; rfl
              have hpos : wr.iterPos W.heap.size = pos := by simp [World.iterPos, hit]
              have HI2 := Aside0.mk hit2
              have HR2 := Aside0.mk hrow2
              have HP2 := Aside0.mk hput2
              have HL2 := Aside0.mk hbel2
              have HST := Aside0.mk hstep
              have HXE := Aside0.mk hx
              have HFL := Aside0.mk hfl
              have HPO := Aside0.mk hpos
              have hg2 := hrow2.lt
              clear hit hrow hbel hit2 hrow2 hput2 hbel2 hstep hfl hpos hcx hfx hputx hw2 hxd hx hd
              obtain ⟨fl, hf⟩ : ∃ fl, fl = flagAt L true pos := ⟨_, rfl⟩
              rw [← hf]
              have HF := Aside0.mk hf
              clear hf
              cases fl with
              | true =>
                go_wp2_with (go_at_call 68; refine (upper_any x _).mono ?_; rintro e w' ⟨rfl, rfl⟩)
                go_roundw
                case rel =>
                  refine ⟨pos + 1, congrArg Value.bool HFL.out, ⟨by omega, ?_, ?_, HL2.out.setCell (p := ⟨w1.heap.size, pos, none⟩) (by omega) _⟩⟩
                  · exact (Below.heap_setCell w2 ⟨w1.heap.size, pos, none⟩ _ W.heap.size (by show W.heap.size ≠ w1.heap.size; omega)).trans HI2.out
                  · have := HST.out
                    rw [← HF.out] at this
                    rw [← this]
                    exact HP2.out
                case measure =>
                  have e2 : (w2.setCell ⟨w1.heap.size, pos, none⟩ (.int .u8 ((up true x).toNat : Int))).heap[W.heap.size]? = some (.stringIter a0 (pos + 1)) := (Below.heap_setCell w2 ⟨w1.heap.size, pos, none⟩ _ W.heap.size (by show W.heap.size ≠ w1.heap.size; omega)).trans HI2.out
                  rw [HPO.out]
                  simp only [World.iterPos, e2]
                  omega
              | false =>
                go_wp2
                go_roundw
                case rel =>
                  refine ⟨pos + 1, congrArg Value.bool HFL.out, ⟨by omega, HI2.out, ?_, HL2.out⟩⟩
                  have h1 : capAt L (pos + 1) = capAt L pos := by
                    have h2 : x = L[pos] := HXE.out
                    refine capAt_same L pos hpL ?_
                    rw [← HF.out, up_false]
                  rw [h1]
                  exact HR2.out
                case measure =>
                  rw [HPO.out]
                  simp only [World.iterPos, HI2.out]
                  omega
            · have hga : a0.get! pos = d := by rw [hd, get_bang a0 pos hp, data_at]
              have hda : 128 ≤ d.toNat := by rw [hd]; omega
              obtain ⟨hc1, hc2⟩ := decode_cont a0 pos hp (by rw [hga]; exact hda)
              obtain ⟨hh1, hh2⟩ := decode_high a0 pos hp (by omega)
              have hnx : ∀ ty, (Instr.next (.pointer (some ⟨W.heap.size, 0, none⟩)) true ty).run Try.prog wr = _ := fun ty => Lib.run_next_any_at wr W.heap.size a0 pos ty hit hp
              have hskip : ∀ k, k < (Utf8.decode a0 pos).2 → ∃ h : pos + k < L.length, 128 ≤ (L[pos + k]).toNat := by
                intro k hk
                have hks : pos + k < a0.size := by omega
                refine ⟨by rw [HSL.out]; exact hks, ?_⟩
                have h1 := hc2 k hk
                rw [get_bang a0 (pos + k) hks] at h1
                have h2 := lowL_get a0 (pos + k) (by simpa using hks)
                rw [low_hi h1, ← HLE.out, List.getElem?_eq_getElem (by rw [HSL.out]; exact hks)] at h2
                rw [Option.some.inj h2]
                exact h1
              have hsk := capAt_skip L pos _ hskip
              obtain ⟨v, hv⟩ : ∃ v, v = (Utf8.decode a0 pos).2 := ⟨_, rfl⟩
              obtain ⟨u, hu⟩ : ∃ u, u = (Utf8.decode a0 pos).1 := ⟨_, rfl⟩
              rw [← hv] at hnx hc1 hc2 hh2 hskip hsk
              rw [← hu] at hnx hh1
              have hfl : ((u : Int) == 45) = flagAt L true (pos + v) := by
                obtain ⟨v', rfl⟩ : ∃ v', v = v' + 1 := ⟨v - 1, by omega⟩
                obtain ⟨hl, hx2⟩ := hskip v' (by omega)
                rw [beq_int, decide_eq_false (by omega), ← Nat.add_assoc]
                show _ = decide (L[pos + v']? = some 45)
                rw [List.getElem?_eq_getElem hl, decide_eq_false]
                intro h
                rw [Option.some.inj h] at hx2
                exact absurd hx2 (by decide)
              obtain ⟨w2, hw2⟩ : ∃ w2, w2 = wr.iterAt W.heap.size a0 (pos + v) := ⟨_, rfl⟩
              rw [← hw2] at hnx
              have hit2 : w2.heap[W.heap.size]? = some (.stringIter a0 (pos + v)) := by rw [hw2]; exact Lib.iterAt_heap wr W.heap.size a0 pos (pos + v) hit
              have hrow2 : BRow w2 w1.heap.size (capAt L pos) := hrow.heap (by rw [hw2]; exact Lib.iterAt_other wr W.heap.size w1.heap.size a0 (pos + v) (by omega))
              have hbel2 : Below w.heap.size w w2 := by rw [hw2]; exact Lib.below_iterAt hbel (by have := HBW.out.size; omega) a0 (pos + v)
              have hcx2 := hrow2.cell pos (by rw [hcl]; exact hp)
              rw [capAt_get L pos hpL, ← hx] at hcx2
              have hxh : 128 ≤ (x.toNat : Int) := by rw [hxd, low_hi hda]; omega
              have hxb : (x.toNat : Int) ≤ 255 := by have := x.toNat_lt; omega
              have hpos : wr.iterPos W.heap.size = pos := by simp [World.iterPos, hit]
              have hur : (u : Int) ≤ 2147483647 := by have := decode_le a0 pos; omega
              have HI2 := Aside0.mk hit2
              have HR2 := Aside0.mk hrow2
              have HL2 := Aside0.mk hbel2
              have HFL := Aside0.mk hfl
              have HPO := Aside0.mk hpos
              have HSK := Aside0.mk hsk
              clear hit hrow hbel hit2 hrow2 hbel2 hstep hfl hpos hcx hfx hputx hw2 hxd hx hd hskip hsk hga hv hu hc2 ha
              obtain ⟨fl, hf⟩ : ∃ fl, fl = flagAt L true pos := ⟨_, rfl⟩
              rw [← hf]
              clear hf
              cases fl with
              | true =>
                go_wp2
                go_roundw
                case rel => exact ⟨pos + v, congrArg Value.bool HFL.out, ⟨by omega, HI2.out, by rw [HSK.out]; exact HR2.out, HL2.out⟩⟩
                case measure =>
                  rw [HPO.out]
                  simp only [World.iterPos, HI2.out]
                  omega
              | false =>
                go_wp2
                go_roundw
                case rel => exact ⟨pos + v, congrArg Value.bool HFL.out, ⟨by omega, HI2.out, by rw [HSK.out]; exact HR2.out, HL2.out⟩⟩
                case measure =>
                  rw [HPO.out]
                  simp only [World.iterPos, HI2.out]
                  omega
          · have hpe : pos = a0.size := by omega
            have hnx : ∀ ty, (Instr.next (.pointer (some ⟨W.heap.size, 0, none⟩)) true ty).run Try.prog wr = _ := fun ty => Lib.run_next_end_at wr W.heap.size a0 pos ty hit hp
            have hfin : capAt L pos = capL true L := by
              unfold capAt
              rw [List.take_of_length_le (by rw [capL_len, HSL.out]; omega), List.drop_eq_nil_of_le (by rw [HSL.out]; omega), List.append_nil]
            rw [hfin] at hrow hcl
            have hback := run_convert_bytes_back (P := Try.prog) wr 107 9 5 ⟨w1.heap.size, 0, none⟩ c (capL true L) Try.underlying107 Try.underlying5 Try.underlying9 (fun j hj => by
              have := hrow.cell j hj
              unfold Addr.add
              split
              · subst_vars; simpa using this
              · simpa using this)
            rw [hcl, HRR.out] at hback
            have HL3 := Aside0.mk hbel
            clear hit hrow hbel hfin hcl
            generalize flagAt L true pos = fl
            go_wp2
            go_ret
            exact ⟨rfl, HL3.out⟩
  · rw [if_neg hb] at h
    exact absurd h (by simp)
end Go.Proofs.Ytacglolggaobdab.PAll
