/- The contracts of the queue's methods (Len, Most, Room, Put, Peek, Take) and of New, over the model's memory: a queue is a block of three cells and a block of octets. -/
import Derived.Test.YtacglolggaobdaaProg
import Derived.Test.YtacglolggaobdaaQPlain
import Derived.Test.YtacglolggaobdaaWWords
import Derived.Test.YtacglolggaobdaaWKept
import Derived.Test.YtacglolggaobdaaWMore
import Derived.Lib.LazyBuf
import Derived.WalkLawsBesides
import Derived.StillTailTactics
import Derived.Outline
import Derived.Deep.DeepMust
namespace Go.Proofs.Ytacglolggaobdaa.Qu
open Go.RowKit Go.Proofs.YtacglolggaobdaaW.PrintWords Go.Proofs.YtacglolggaobdaaW.PrintLast Go.Proofs.YtacglolggaobdaaW.PrintMore
attribute [local go_sem] max2_int min2_int max_two min_two max_three min_three max_four min_four
set_option linter.unusedVariables false
set_option linter.unusedSimpArgs false

/-- octets as cells -/
def bv (xs : List UInt8) : List Value := xs.map fun x => Value.int .u8 (x.toNat : Int)
theorem bv_length (xs : List UInt8) : (bv xs).length = xs.length := by simp [bv]

/-- Nothing but new blocks and blocks of S has turned. -/
structure Only (w w' : World) (S : Nat → Prop) : Prop where
  os : w'.os = w.os
  tape : w'.tape = w.tape
  output : w'.output = w.output
  size : w.heap.size ≤ w'.heap.size
  block : ∀ k, k < w.heap.size → ¬ S k → w'.heap[k]? = w.heap[k]?
theorem Only.refl (w : World) (S : Nat → Prop) : Only w w S := ⟨rfl, rfl, rfl, Nat.le_refl _, fun _ _ _ => rfl⟩
theorem Only.trans {a b c : World} {S : Nat → Prop} (h : Only a b S) (k : Only b c S) : Only a c S :=
  ⟨k.os.trans h.os, k.tape.trans h.tape, k.output.trans h.output, Nat.le_trans h.size k.size, fun i hi hs => (k.block i (Nat.lt_of_lt_of_le hi h.size) hs).trans (h.block i hi hs)⟩
theorem Only.mono {a b : World} {S T : Nat → Prop} (h : Only a b S) (hs : ∀ k, k < a.heap.size → S k → T k) : Only a b T := ⟨h.os, h.tape, h.output, h.size, fun k hk ht => h.block k hk (fun s => ht (hs k hk s))⟩
theorem Only.drewN {a b : World} {S : Nat → Prop} (h : Only a b S) (n : Nat) : Only a (b.drewN n) S := ⟨h.os, h.tape, h.output, h.size, h.block⟩
theorem Only.drew {a b : World} {S : Nat → Prop} (h : Only a b S) : Only a b.drew S := ⟨h.os, h.tape, h.output, h.size, h.block⟩
theorem Only.alloc {a b : World} {S : Nat → Prop} (h : Only a b S) (o : Obj) : Only a (b.alloc o) S :=
  h.trans ⟨rfl, rfl, rfl, by simp, fun k hk _ => Below.heap_alloc _ _ _ hk⟩
theorem Only.setCell {a b : World} {S : Nat → Prop} (h : Only a b S) {p : Addr} (hp : S p.block) (u : Value) : Only a (b.setCell p u) S :=
  h.trans ⟨rfl, rfl, rfl, by simp [World.setCell], fun k hk hs => Below.heap_setCell _ _ _ _ (fun e => hs (e ▸ hp))⟩
theorem Only.setCells {a b : World} {S : Nat → Prop} (h : Only a b S) {g : Nat} (hp : S g) (o : Nat) (vs : List Value) : Only a (b.setCells g o vs) S := by
  obtain ⟨h1, h2, h3, h4⟩ := setCells_same g vs o b
  exact h.trans ⟨h1, h2, h3, by rw [h4]; exact Nat.le_refl _, fun k hk hs => setCells_far vs o k (fun e => hs (e ▸ hp))⟩
theorem Only.of_below {a b : World} {S : Nat → Prop} (h : Below a.heap.size a b) : Only a b S := ⟨h.os, h.tape, h.output, h.size, fun k hk _ => h.block k hk⟩
theorem Only.below {a b : World} {S : Nat → Prop} {B : Nat} (h : Only a b S) (hB : B ≤ a.heap.size) (hs : ∀ k, S k → B ≤ k) : Below B a b :=
  ⟨h.os, h.tape, h.output, h.size, fun k hk => h.block k (by omega) (fun s => by have := hs k s; omega)⟩
theorem Only.blk {a b : World} {S : Nat → Prop} (h : Only a b S) {g : Nat} {o : Obj} (hg : a.heap[g]? = some o) (hs : ¬ S g) : b.heap[g]? = some o := (h.block g (blk_lt hg) hs).trans hg

/-- the header of a queue -/
def Hdr (w : World) (g : Nat) (A : Option Addr) (m fr n : Nat) : Prop := w.heap[g]? = some (.cells #[.slice A m m, .int .i64 (fr : Int), .int .i64 (n : Int)] 37 (0, 0))
theorem Hdr.c0 {w : World} {g : Nat} {A : Option Addr} {m fr n : Nat} (h : Hdr w g A m fr n) : w.cell? ⟨g, 0, none⟩ = some (.slice A m m) := (blk_cell h 0).trans rfl
theorem Hdr.c1 {w : World} {g : Nat} {A : Option Addr} {m fr n : Nat} (h : Hdr w g A m fr n) : w.cell? ⟨g, 1, none⟩ = some (.int .i64 (fr : Int)) := (blk_cell h 1).trans rfl
theorem Hdr.c2 {w : World} {g : Nat} {A : Option Addr} {m fr n : Nat} (h : Hdr w g A m fr n) : w.cell? ⟨g, 2, none⟩ = some (.int .i64 (n : Int)) := (blk_cell h 2).trans rfl
theorem Hdr.fz {w : World} {g : Nat} {A : Option Addr} {m fr n : Nat} (h : Hdr w g A m fr n) (i : Nat) : w.frozen? ⟨g, i, none⟩ = false := blk_frozen h i

/-! ### Len, Most, Room -/
theorem len_nil (w : World) : Calls Try.prog 22 #[.pointer none] w fun e w' => e = .returned (.int .i64 0) ∧ w = w' := by
  go_enter Try.func22, Try.ntmps22
  go_wp2
  go_ret
  exact ⟨rfl, rfl⟩
theorem len_any (w : World) (g : Nat) (A : Option Addr) (m fr n : Nat) (h : Hdr w g A m fr n) : Calls Try.prog 22 #[.pointer (some ⟨g, 0, none⟩)] w fun e w' => e = .returned (.int .i64 (n : Int)) ∧ w = w' := by
  have c2 := h.c2
  clear h
  go_enter Try.func22, Try.ntmps22
  go_wp2
  go_ret
  exact ⟨rfl, rfl⟩
theorem most_nil (w : World) : Calls Try.prog 24 #[.pointer none] w fun e w' => e = .returned (.int .i64 0) ∧ w = w' := by
  go_enter Try.func24, Try.ntmps24
  go_wp2
  go_ret
  exact ⟨rfl, rfl⟩
theorem most_any (w : World) (g : Nat) (A : Option Addr) (m fr n : Nat) (h : Hdr w g A m fr n) : Calls Try.prog 24 #[.pointer (some ⟨g, 0, none⟩)] w fun e w' => e = .returned (.int .i64 (m : Int)) ∧ w = w' := by
  have c0 := h.c0
  clear h
  go_enter Try.func24, Try.ntmps24
  go_wp2
  go_ret
  exact ⟨rfl, rfl⟩
theorem room_nil (w : World) : Calls Try.prog 23 #[.pointer none] w fun e w' => e = .returned (.int .i64 0) ∧ w = w' := by
  go_enter Try.func23, Try.ntmps23
  go_wp2_with (first | (go_at_call 24; refine (most_nil _).mono ?_; rintro e w' ⟨rfl, rfl⟩) | (go_at_call 22; refine (len_nil _).mono ?_; rintro e w' ⟨rfl, rfl⟩))
  go_ret
  exact ⟨rfl, rfl⟩
theorem room_any (w : World) (g : Nat) (A : Option Addr) (m fr n : Nat) (h : Hdr w g A m fr n) (hn : n ≤ m) (hm : m ≤ 65536) : Calls Try.prog 23 #[.pointer (some ⟨g, 0, none⟩)] w fun e w' => e = .returned (.int .i64 ((m : Int) - (n : Int))) ∧ w = w' := by
  have H := Aside0.mk h
  clear h
  go_enter Try.func23, Try.ntmps23
  go_wp2_with (first | (go_at_call 24; refine (most_any _ g A m fr n H.out).mono ?_; rintro e w' ⟨rfl, rfl⟩) | (go_at_call 22; refine (len_any _ g A m fr n H.out).mono ?_; rintro e w' ⟨rfl, rfl⟩))
  go_ret
  exact ⟨rfl, rfl⟩

/-! ### Put -/
theorem empty_cut (s : ByteArray) : (s.extract 0 0).toList.isEmpty = true := by
  simp [ByteArray.toList_eq]
set_option maxHeartbeats 4000000 in
theorem put_none (w : World) (v : Value) (s : ByteArray) (hs : s.size ≤ 9223372036854775807) (ro : Int) (h0 : 0 ≤ ro) (h1 : ro ≤ 65536) (hz : s.size = 0 ∨ ro = 0) (hroom : ∀ W, W = w → Calls Try.prog 23 #[v] W fun e w' => e = .returned (.int .i64 ro) ∧ W = w') :
    Calls Try.prog 16 #[v, .string s] w fun e w' => e = .returned (.int .i64 0) ∧ w = w' := by
  have HR := Aside0.mk hroom
  clear hroom
  have he := empty_cut s
  by_cases hp : 0 < s.size
  · obtain rfl : ro = 0 := by omega
    go_enter Try.func16, Try.ntmps16
    go_wp2_with (go_at_call 23; refine (HR.out _ rfl).mono ?_; rintro e w' ⟨rfl, rfl⟩)
    go_ret
    exact ⟨rfl, rfl⟩
  · have hz0 : s.size = 0 := by omega
    have hz1 : (s.extract 0 s.size).toList.isEmpty = true := by rw [hz0]; exact he
    have hz2 : s.toList.isEmpty = true := by simp [ByteArray.toList_eq]; rw [← Array.size_eq_zero_iff]; show s.size = 0; omega
    have hz3 : (if ro < (s.size : Int) then ro else (s.size : Int)) = 0 := by split <;> omega
    clear hz
    have HZ := Aside0.mk hz0
    clear hz0
    go_enter Try.func16, Try.ntmps16
    go_wp2_with (go_at_call 23; refine (HR.out _ rfl).mono ?_; rintro e w' ⟨rfl, rfl⟩)
    go_ret
    exact ⟨rfl, rfl⟩

theorem bv_splice (xs : List UInt8) (o : Nat) (ys : List UInt8) : (bv xs).take o ++ bv ys ++ (bv xs).drop (o + (bv ys).length) = bv (splice xs o ys) := by
  unfold bv splice; simp

def Row (w : World) (r : Nat) (xs : List UInt8) : Prop := w.heap[r]? = some (.cells (bv xs).toArray 5 (0, 0))
theorem Row.set {w : World} {r : Nat} {xs : List UInt8} (h : Row w r xs) (o : Nat) (ys : List UInt8) (hl : o + ys.length ≤ xs.length) : Row (w.setCells r o (bv ys)) r (splice xs o ys) := by
  obtain ⟨cur', h1, h2, h3⟩ := setCells_row (bv ys) o w _ h (by rw [bv_length, List.size_toArray, bv_length]; exact hl)
  unfold Row
  rw [h1]
  congr 2
  refine Array.toList_inj.1 ?_
  rw [h3]
  exact bv_splice xs o ys
theorem Row.cell {w : World} {r : Nat} {xs : List UInt8} (h : Row w r xs) (i : Nat) (hi : i < xs.length) : w.cell? ⟨r, i, none⟩ = some (.int .u8 (xs[i].toNat : Int)) := by
  rw [blk_cell h i]
  simp [bv, hi]

theorem info5 : (Try.prog.info? 5).map (fun i => (i.zero, i.size, i.bytes)) = some (some (.int .u8 0), 1, 1) := by kernel_rfl
theorem size5 : ∀ w, (Go.sizeOf 5).run Try.prog w = .ok 1 w := by
  intro w
  obtain ⟨i0, hi, hz0, hz1, hz2⟩ := info_parts info5
  simp [sizeOf, typeInfo, hi, hz1]

/-- 'copy(row[o:], t)', as many octets as fit -/
theorem run_copy_str (w : World) (r o dLen dCap : Nat) (t : ByteArray) (ty : TypeId) (xs : List UInt8) (hr : Row w r xs) (hd : o + dLen ≤ xs.length) :
    (Builtin.copy_ #[35, 9] ty #[.slice (some ⟨r, o, none⟩) dLen dCap, .string t]).run Try.prog w = .ok (goInt ((min t.size dLen : Nat) : Int)) (w.setCells r o (bv (t.data.toList.take (min t.size dLen)))) := by
  have hl : (bv (t.data.toList.take (min t.size dLen))).length = min t.size dLen := by rw [bv_length, List.length_take, data_length]; omega
  have hst := run_storeCells_cells (P := Try.prog) r o (bv (t.data.toList.take (min t.size dLen))) 0 w (fun j hj => by
      rw [hl] at hj
      have hjx : o + j < xs.length := by omega
      rw [Nat.add_zero, Row.cell hr (o + j) hjx]; rfl) (fun j hj => blk_frozen hr _) (by
    intro v hv
    obtain ⟨x, _, rfl⟩ := List.mem_map.1 hv
    rfl)
  simp [Builtin.copy_, run_underlying Try.underlying35, Builtin.lenOf, Builtin.firstCells, size5]
  have e : (List.take (t.size.min dLen) (t.data.toList)).map (fun x => Value.int .u8 (x.toNat : Int)) = bv (t.data.toList.take (min t.size dLen)) := rfl
  rw [List.map_take] at e
  rw [e, hst]
  rfl

/-- A queue: header, row, what stands in it. -/
structure QS (w : World) (g r : Nat) (xs : List UInt8) (fr : Nat) (s : List UInt8) : Prop where
  hdr : Hdr w g (some ⟨r, 0, none⟩) xs.length fr s.length
  row : Row w r xs
  le : s.length ≤ xs.length
  lt : fr ≤ xs.length
  lt' : 0 < xs.length → fr < xs.length
  cap : xs.length ≤ 65536
  ring : Ring xs fr s
theorem QS.ne {w : World} {g r : Nat} {xs : List UInt8} {fr : Nat} {s : List UInt8} (h : QS w g r xs fr s) : g ≠ r := blk_ne h.hdr h.row (by decide)
/-- block g is a queue with room for m octets, its row in block r, and s stands in it -/
def IsQ (w : World) (g r m : Nat) (s : List UInt8) : Prop := ∃ xs fr, xs.length = m ∧ QS w g r xs fr s

theorem add0 (r tt : Nat) : (⟨r, 0, none⟩ : Addr).add tt = ⟨r, tt, none⟩ := by
  unfold Addr.add
  by_cases h : tt = 0
  · simp [h]
  · simp [h]
theorem cut_row (r m tt : Nat) (h : tt < m) : ∀ W : World, (Instr.slice 35 (.slice (some ⟨r, 0, none⟩) m m) (some (.int .i64 (tt : Int))) none none).run Try.prog W = .ok (.slice (some ⟨r, tt, none⟩) (m - tt) (m - tt)) W := by
  intro W
  obtain ⟨i0, hi, hz0, hz1, hz2⟩ := info_parts info5
  have := cut_from (P := Try.prog) 35 5 .i64 Try.underlying35 hi 1 hz1 (some ⟨r, 0, none⟩) m m (tt : Int) (by omega) (by omega) W
  rw [Int.toNat_natCast, if_neg (by omega)] at this
  simpa [add0] using this

set_option maxHeartbeats 8000000 in
set_option maxRecDepth 100000 in
theorem put_some (w : World) (g r : Nat) (xs : List UInt8) (fr : Nat) (q : List UInt8) (k : Nat) (s : ByteArray) (h : QS w g r xs fr q) (hs : s.size ≤ 9223372036854775807) (hk : k = min s.size (xs.length - q.length)) (hpos : 0 < k) :
    Calls Try.prog 16 #[.pointer (some ⟨g, 0, none⟩), .string s] w fun e w' => e = .returned (.int .i64 (k : Int)) ∧
      IsQ w' g r xs.length (q ++ s.data.toList.take k) ∧ Only w w' (fun b => b = g ∨ b = r) := by
  have hle := h.le
  have hcap := h.cap
  have hlt := h.lt' (by omega)
  have HQ := Aside0.mk h
  have c0 := h.hdr.c0
  have c1 := h.hdr.c1
  have c2 := h.hdr.c2
  have f2 := h.hdr.fz 2
  have HK := Aside0.mk hk
  clear h
  have hsz : (s.extract 0 k).size = k := by rw [ByteArray.size_extract]; omega
  have hze : (s.extract 0 k).toList.isEmpty = false := by
    rw [ByteArray.toList_eq]
    cases hh : (s.extract 0 k).data.toList with
    | nil => have h9 := congrArg List.length hh; rw [data_length, hsz] at h9; simp at h9; omega
    | cons => rfl
  obtain ⟨m, hm⟩ : ∃ m, m = xs.length := ⟨_, rfl⟩
  obtain ⟨n, hn⟩ : ∃ n, n = q.length := ⟨_, rfl⟩
  rw [← hm] at hle hcap hlt c0 ⊢
  rw [← hn] at hle c2
  have hmin : (if (m : Int) - (n : Int) < (s.size : Int) then (m : Int) - (n : Int) else (s.size : Int)) = (k : Int) := by split <;> omega
  have hkm : n + k ≤ m := by omega
  obtain ⟨tt, hto⟩ : ∃ tt, tt = (fr + n) % m := ⟨_, rfl⟩
  have hto1 : tt < m := by rw [hto]; exact Nat.mod_lt _ (by omega)
  have hsum : IntKind.i64.wrap ((fr : Int) + (n : Int)) = (fr : Int) + (n : Int) := IntWalk.i64_in _ (by omega)
  have hrem : ((fr : Int) + (n : Int)).tmod (m : Int) = (tt : Int) := by
    rw [Int.tmod_eq_emod_of_nonneg (by omega), hto]; simp
  have HM := Aside0.mk hm
  have HN := Aside0.mk hn
  have HT := Aside0.mk hto
  have hm0 : ¬ (m = 0) := by omega
  have hcut := cut_row r m tt hto1
  obtain ⟨t, ht⟩ : ∃ t, t = s.extract 0 k := ⟨_, rfl⟩
  obtain ⟨d, hd⟩ : ∃ d, d = min k (m - tt) := ⟨_, rfl⟩
  obtain ⟨W5, hW5⟩ : ∃ W5, W5 = (w.drew).setCells r tt (bv (t.data.toList.take d)) := ⟨_, rfl⟩
  have hrow : Row w.drew r xs := HQ.out.row
  have hcp : ∀ ty, (Builtin.copy_ #[35, 9] ty #[.slice (some ⟨r, tt, none⟩) (m - tt) (m - tt), .string (s.extract 0 k)]).run Try.prog w.drew = .ok (.int .i64 (d : Int)) W5 := fun ty => by
    have := run_copy_str w.drew r tt (m - tt) (m - tt) (s.extract 0 k) ty xs hrow (by omega)
    rw [hsz, ← hd, ← ht, ← hW5] at this
    rw [← ht]
    exact this
  have hne : r ≠ g := fun e => HQ.out.ne e.symm
  have hdl : (bv (t.data.toList.take d)).length = d := by rw [bv_length, List.length_take, data_length, ht, hsz]; omega
  have hh5 : Hdr W5 g (some ⟨r, 0, none⟩) m fr n := by
    rw [hW5]; unfold Hdr
    rw [setCells_far _ _ g (fun e => hne e.symm)]
    have := HQ.out.hdr
    rw [← hm, ← hn] at this
    exact this
  have c05 := hh5.c0
  have c25 := hh5.c2
  have f25 := hh5.fz 2
  have hrow5 : Row W5 r (splice xs tt (t.data.toList.take d)) := by
    rw [hW5]; exact hrow.set tt _ (by rw [bv_length] at hdl; omega)
  obtain ⟨W6, hW6⟩ : ∃ W6, W6 = (W5.drew).setCells r 0 (bv ((t.extract d k).data.toList)) := ⟨_, rfl⟩
  have hcp2 : ∀ ty, (Builtin.copy_ #[35, 9] ty #[.slice (some ⟨r, 0, none⟩) m m, .string ((s.extract 0 k).extract d k)]).run Try.prog W5.drew = .ok (.int .i64 ((k - d : Nat) : Int)) W6 := fun ty => by
    have hsl : (splice xs tt (t.data.toList.take d)).length = m := by rw [splice_length _ _ _ (by rw [bv_length] at hdl; omega)]; omega
    have hsz2 : ((s.extract 0 k).extract d k).size = k - d := by rw [ByteArray.size_extract, hsz]; omega
    have := run_copy_str W5.drew r 0 m m ((s.extract 0 k).extract d k) ty _ (show Row W5.drew r _ from hrow5) (by omega)
    rw [hsz2, Nat.min_eq_left (by omega), ← ht, List.take_of_length_le (by rw [data_length, ht, hsz2]; omega), ← hW6] at this
    rw [← ht]
    exact this
  have hh6 : Hdr W6 g (some ⟨r, 0, none⟩) m fr n := by
    rw [hW6]; unfold Hdr
    rw [setCells_far _ _ g (fun e => hne e.symm)]
    exact hh5
  have c26 := hh6.c2
  have f26 := hh6.fz 2
  have HH6 := Aside0.mk hh6
  have hrow6 : Row W6 r (splice (splice xs tt (t.data.toList.take d)) 0 ((t.extract d k).data.toList)) := by
    have hsl : (splice xs tt (t.data.toList.take d)).length = m := by rw [splice_length _ _ _ (by rw [bv_length] at hdl; omega)]; omega
    have hsz2 : ((s.extract 0 k).extract d k).size = k - d := by rw [ByteArray.size_extract, hsz]; omega
    rw [hW6]; exact (show Row W5.drew r _ from hrow5).set 0 _ (by rw [data_length, hsl, ht, hsz2]; omega)
  have HR6 := Aside0.mk hrow6
  have HW6 := Aside0.mk hW6
  have HTX := Aside0.mk ht
  have HD := Aside0.mk hd
  have HW5 := Aside0.mk hW5
  have hd1 : d ≤ k := by omega
  clear hk hm hn hto ht hd hW5 hrow hh5 hrow5 hdl hW6 hh6 hrow6
  go_enter Try.func16, Try.ntmps16
  go_wp2_with (go_at_call 23; refine (room_any _ g _ _ fr n (by first | (have := HQ.out.hdr; rwa [← HM.out, ← HN.out] at this) | exact HQ.out.hdr) hle hcap).mono ?_; rintro e w' ⟨rfl, rfl⟩)
  go_still_tail 15, (by kernel_rfl)
  go_wp2
  go_still_tail 7, (by kernel_rfl)
  go_wp2
  go_ret
  refine ⟨rfl, ?_, ?_⟩
  · have hml : xs.length = m := HM.out.symm
    have hnl : q.length = n := HN.out.symm
    have hts : t.data.toList = s.data.toList.take k := by rw [HTX.out]; simp
    have htl : t.data.toList.length = k := by rw [data_length, HTX.out, hsz]
    have e1 : t.data.toList.take d = t.data.toList.take (m - tt) := by
      rw [HD.out]
      rcases Nat.le_total k (m - tt) with h | h
      · rw [Nat.min_eq_left h, List.take_of_length_le (by omega), List.take_of_length_le (by omega)]
      · rw [Nat.min_eq_right h]
    have e2 : (t.extract d k).data.toList = t.data.toList.drop (m - tt) := by
      have : (t.extract d k).data.toList = t.data.toList.drop d := by
        simp only [ByteArray.data_extract, Array.toList_extract, List.extract_eq_take_drop]
        rw [List.take_of_length_le]
        rw [List.length_drop]; omega
      rw [this, HD.out]
      rcases Nat.le_total k (m - tt) with h | h
      · rw [Nat.min_eq_left h, List.drop_eq_nil_of_le (by omega), List.drop_eq_nil_of_le (by omega)]
      · rw [Nat.min_eq_right h]
    have hR := HQ.out.ring.put (t.data.toList) (by omega) (by omega)
    have hl1 : (t.data.toList.take (m - tt)).length = min (m - tt) t.data.toList.length := List.length_take
    have hl2 : (t.data.toList.drop (m - tt)).length = t.data.toList.length - (m - tt) := List.length_drop
    rw [← HM.out, ← HN.out, ← HT.out] at hR
    have hr6 := HR6.out
    rw [e1, e2] at hr6
    have hL1 := splice_length xs tt (t.data.toList.take (m - tt)) (by omega)
    have hL2 := splice_length (splice xs tt (t.data.toList.take (m - tt))) 0 (t.data.toList.drop (m - tt)) (by omega)
    rw [← hts]
    refine ⟨splice (splice xs tt (t.data.toList.take (m - tt))) 0 (t.data.toList.drop (m - tt)), fr, by omega, ?_, ?_, ?_, ?_, ?_, ?_, hR⟩
    · have := blk_set HH6.out 2 (.int .i64 ((n : Int) + (k : Int)))
      rw [show (splice (splice xs tt (t.data.toList.take (m - tt))) 0 (t.data.toList.drop (m - tt))).length = m by omega, show (q ++ t.data.toList).length = n + k by rw [List.length_append]; omega]
      exact this
    · exact (Below.heap_setCell _ _ _ _ hne).trans hr6
    · rw [List.length_append]; omega
    · omega
    · intro _; omega
    · omega
  · refine Only.setCell ?_ (Or.inl rfl) _
    rw [HW6.out]
    refine Only.setCells ?_ (Or.inr rfl) _ _
    refine Only.drew ?_
    rw [HW5.out]
    exact ((Only.refl w _).drew).setCells (Or.inr rfl) _ _
end Go.Proofs.Ytacglolggaobdaa.Qu
