/- tally.Tally[K].Rows: the function value that it hands back, as an iterator: the keys that were counted, rising, each with its count. Written by wip/mktr.py. -/
import Derived.Test.YtacglolggaobdabTlKeys
import Derived.Test.YtacglolggaobdabTlAdd
import Derived.RangeFuncBound
import Derived.Shelf.Abstract
import Derived.Shelf.RegionOpen
import Derived.LoopNIn
import Derived.LoopIn
import Derived.Maps.OwnIn
namespace Go.Proofs.Ytacglolggaobdab.TL
open Go.RowKit Go.Maps Go.Sort Go.Shelf
attribute [local go_sem] Oper.semAt_some
set_option linter.unusedVariables false
set_option linter.unusedSimpArgs false

theorem slice_shape {w : World} {base : Nat} {e : TypeId} {v : Value} {n : Nat} {xs : List Value} (h : w.ownsRow base e 1 v n xs) : ∃ A cap, v = .slice A n cap := by
  rcases h.2 with ⟨e1, e2⟩ | ⟨gb, cap', cur, e, _⟩
  · exact ⟨none, 0, by rw [e1, e2]⟩
  · exact ⟨_, cap', e⟩
def vi : Value → Int | .int _ q => q | _ => 0

/-- slices.Sort's two contracts, at the fence that asks nothing. -/
theorem sortsS (m : Nat) : AnyZ.SortsIn Try.prog Try.sortedS_ren Fence.wide m :=
  ⟨fun blk off cap ss W hH hblk hsz => callsIn_wide.2 (AnyM.slices_Sort_string Try.sortS blk off cap ss W hH hblk hsz),
   fun p cap W => callsIn_wide.2 (AnyM.slices_Sort_string_none Try.sortS p cap W)⟩
theorem keysCallS (n : Nat) (mb : Option Nat) (W : World) : CallsIn Fence.wide n Try.prog 108 #[.map mb] W fun e w' => e = .returned (.func (.func 124) #[] #[.pointer (some ⟨W.heap.size, 0, none⟩)]) ∧ w' = W.alloc (.cells #[.map mb] 92) := AnyZ.keys_in Try.keysS Fence.wide n trivial rfl mb W

set_option maxRecDepth 100000 in
theorem sortedCallS (n : Nat) (hn : 4 ≤ n) (Bm M nn : Nat) (f : List UInt8 → Int) (h : List UInt8 → Prop) (w : World) (hBm : w.cell? ⟨Bm, 0, none⟩ = some (.map (some M))) (hl : Bm < w.heap.size) (hM : MapF mkS 9 w M nn f h) (hnn : nn ≤ 1000000000) :
    CallsIn Fence.wide n Try.prog 107 #[.func (.func 124) #[] #[.pointer (some ⟨Bm, 0, none⟩)]] w fun e w' => ∃ (v : Value) (ss : List (List UInt8)), e = .returned v ∧ KeysL (fun a b => a < b) h ss ∧ ss.length ≤ nn ∧ (∀ x ∈ ss, keyOf Try.prog 9 (encStr x) = some (mkS x)) ∧
      w'.ownsRow w.heap.size 9 1 v ss.length (ss.map encStr) ∧ Below w.heap.size w w' := by
  obtain ⟨D, ho, ht, _, hh⟩ := hM
  have hsz := fit_len ho
  have hseq : SeqGives Fence.wide (n - 1 - 1 - 1) Try.prog 124 #[.pointer (some ⟨Bm, 0, none⟩)] encStr (fun ss => ss.Perm (strKeys D)) (Maps.size D) w :=
    AnyZ.keys_gives (ρ := Try.keysS_ren) { Try.keysS with } Fence.wide _ trivial rfl (by omega) Bm M nn D _ hl hBm ho
  have cS := AnyZ.sorted_in Try.sortedS Fence.wide n trivial trivial trivial trivial rfl hn (sortsS _) (enters_of Try.func123 (by kernel_rfl) rfl) 124 #[.pointer (some ⟨Bm, 0, none⟩)] trivial (enters_of Try.func124 (by kernel_rfl) rfl) _ _ (by unfold maxLen; omega) (by omega) _ hseq
  change CallsIn _ _ Try.prog 107 _ _ _ at cS
  refine cS.mono ?_
  rintro e w' ⟨v, ss, rfl, hS, hrow, hnil, hb⟩
  have hle : (ss.mergeSort (fun x y => decide (x ≤ y))).length = ss.length := List.length_mergeSort _
  refine ⟨v, ss.mergeSort (fun x y => decide (x ≤ y)), rfl, keysS_of ho ht hh hS, ?_, keysS_key ho hS, ?_, hb⟩
  · rw [hle, hS.length_eq]
    obtain ⟨es, rfl⟩ := ht.isMap
    show (es.map _).length ≤ nn
    rw [List.length_map]; exact hsz
  · rw [hle]; exact hrow
set_option maxRecDepth 100000 in
theorem sortedNilS (n : Nat) (hn : 4 ≤ n) (Bm : Nat) (w : World) (hBm : w.cell? ⟨Bm, 0, none⟩ = some (.map none)) (hl : Bm < w.heap.size) :
    CallsIn Fence.wide n Try.prog 107 #[.func (.func 124) #[] #[.pointer (some ⟨Bm, 0, none⟩)]] w fun e w' => e = .returned (.slice none 0 0) ∧ Below w.heap.size w w' := by
  have hseq : SeqGives Fence.wide (n - 1 - 1 - 1) Try.prog 124 #[.pointer (some ⟨Bm, 0, none⟩)] encStr (fun ss : List (List UInt8) => ss = []) 0 w :=
    AnyZ.keys_gives_nil (ρ := Try.keysS_ren) { Try.keysS with } Fence.wide _ trivial rfl Bm _ hl hBm
  have cS := AnyZ.sorted_in Try.sortedS Fence.wide n trivial trivial trivial trivial rfl hn (sortsS _) (enters_of Try.func123 (by kernel_rfl) rfl) 124 #[.pointer (some ⟨Bm, 0, none⟩)] trivial (enters_of Try.func124 (by kernel_rfl) rfl) _ 0 (Nat.zero_le _) (by omega) _ hseq
  change CallsIn _ _ Try.prog 107 _ _ _ at cS
  refine cS.mono ?_
  rintro e w' ⟨v, ss, rfl, rfl, hrow, hnil, hb⟩
  exact ⟨by rw [hnil.2 rfl], hb⟩
/-- Rows. -/
theorem rowsCallS (n : Nat) (p : Value) (hp : p.oneCell' = true) (w : World) (T : Nat) (e : p = .pointer (some ⟨T, 0, none⟩)) : CallsIn Fence.wide n Try.prog 85 #[p] w fun e w' => e = .returned (.func (.func 106) #[] #[.pointer (some ⟨w.heap.size, 0, none⟩)]) ∧ w' = w.alloc (.cells #[p] 97) := by
  subst e
  refine callsIn_of_wp Try.func85 rfl trivial ?_ rfl
  simp only [Try.ntmps85, List.size_toArray, List.length_cons, List.length_nil, Nat.reduceAdd, Nat.reduceSub, Array.replicate_succ, Array.replicate_zero, List.push_toArray, List.append_toArray, List.nil_append, List.cons_append]
  gi_wp2
  go_ret
  exact ⟨rfl, rfl⟩

set_option maxHeartbeats 2000000 in
set_option maxRecDepth 100000 in
theorem itS_some (n : Nat) (hn : 5 ≤ n) (l Bt T M nn n₀ : Nat) (f : List UInt8 → Int) (h : List UInt8 → Prop) (E : Nat → TypeId → Prop) (J Jx : List (List UInt8 × Int) → World → Prop) (W : World)
    (hBt : W.heap[Bt]? = some (.cells #[.pointer (some ⟨T, 0, none⟩)] 97 (0, 0))) (hT : W.heap[T]? = some (.cells #[.map (some M)] 94 (0, 0))) (hM : MapF mkS 9 W M nn f h) (hnn : nn ≤ 1000000000)
    (hTn : T < n₀) (hMn : M < n₀) (hn₀ : n₀ ≤ W.heap.size) (hE1 : ¬ E Bt 97) (hE2 : ∀ k, W.heap.size ≤ k → ¬ E k 9) (hJ : AbidesFrom W.heap.size J)
    (hY : ∀ pre x W1, J pre W1 → pre.length < nn → YieldAt Fence.wide (n - 1) Try.prog l #[encStr x.1, .int .i64 x.2] W1 fun e W' =>
      (e = .returned (.bool true) ∧ J (pre ++ [x]) W' ∧ KpE E n₀ W1 W') ∨ (e = .returned (.bool false) ∧ Jx (pre ++ [x]) W')) (h0 : J [] W) :
    CallsIn Fence.wide n Try.prog 106 #[.func (.yield l) #[] #[], .pointer (some ⟨Bt, 0, none⟩)] W fun e W' => (∃ v, e = .returned v) ∧
      ((∃ xs, (∃ ss, KeysL (fun a b => a < b) h ss ∧ ss.length ≤ nn ∧ xs = rowsOf f ss) ∧ J xs W') ∨ ∃ pre, (∃ ss, KeysL (fun a b => a < b) h ss ∧ pre <+: rowsOf f ss) ∧ Jx pre W') := by
  have hcB := cell0 hBt
  have hcT := cell0 hT
  have hTl := lt0 hT
  have hBl := lt0 hBt
  have hMl := hM.lt
  have bK := Below.heap_alloc W (.cells #[.map (some M)] 92)
  have cK := keysCallS (n - 1) (some M) W
  have cS := sortedCallS (n - 1) (by omega) W.heap.size M nn f h (W.alloc (.cells #[.map (some M)] 92)) (cell0 (World.alloc_heap_new W _)) (by simp) (hM.heap (bK M hMl)) hnn
  have hJ1 : J [] (W.alloc (.cells #[.map (some M)] 92)) := hJ _ _ _ none h0 (World.grownBy_alloc W _ _) (fun r e => by cases e)
  have hBelow1 : Below W.heap.size W (W.alloc (.cells #[.map (some M)] 92)) := (Below.refl _ W).alloc (Nat.le_refl _) _
  have hfK : Fence.wide.fn 108 := trivial
  have hfS : Fence.wide.fn 107 := trivial
  have h1 : 1 ≤ n := by omega
  refine callsIn_of_wp Try.func106 rfl trivial ?_ rfl
  simp only [Try.ntmps106, List.size_toArray, List.length_cons, List.length_nil, Nat.reduceAdd, Nat.reduceSub, Array.replicate_succ, Array.replicate_zero, List.push_toArray, List.append_toArray, List.nil_append, List.cons_append]
  gi_wp2_with (first
    | (gi_at_call 108; refine cK.mono ?_; rintro e w' ⟨rfl, rfl⟩)
    | (gi_at_call 107; refine cS.mono ?_; rintro e Ws ⟨v, ss, rfl, hK, hlen, hkeys, hrow, hb⟩; obtain ⟨A, cap, rfl⟩ := slice_shape hrow))
  have hJs : J [] Ws := hJ _ _ _ none hJ1 (grown_of_below hb (Nat.le_refl _)) (fun r e => by cases e)
  have hBe : Below W.heap.size W Ws := hBelow1.trans (hb.mono (by simp))
  have hBt' := (hBe.block Bt hBl).trans hBt
  have hT' := (hBe.block T hTl).trans hT
  have hM' := hM.heap (hBe.block M hMl)
  have hgk : ∀ k (hk : k < ss.length), ∃ g, A = some ⟨g, 0, none⟩ ∧ W.heap.size ≤ g ∧ ∃ cur fr, Ws.heap[g]? = some (.cells cur 9 fr) ∧ cur[k]? = some (encStr ss[k]) := by
    intro k hk
    rcases hrow.2 with ⟨e, e2⟩ | ⟨gb, cap', cur, e, hbase, hgb, r1, r2, r3, r4⟩
    · omega
    · cases e
      refine ⟨gb, rfl, by have := hbase; simp at this; omega, cur, _, hgb, ?_⟩
      have h5 := congrArg (fun l => l[k]?) r4
      simp only [List.getElem?_map, List.getElem?_eq_getElem hk, Option.map_some] at h5
      rw [List.getElem?_take_of_lt (by omega)] at h5
      rw [← h5, Array.getElem?_toList]
  clear hrow cK cS hJ1 hBelow1 hBt hT hM hcB hcT bK hb hJ h0
  gi_loopw [14] (fun i wr => ∃ k : Nat, k ≤ ss.length ∧ i = .int .i64 (k : Int) ∧ J (rowsOf f (ss.take k)) wr ∧ KpE E n₀ Ws wr) (fun i _ => ss.length - (vi i).toNat)
  case atStart => exact ⟨0, Nat.zero_le _, rfl, hJs, kpe_refl _ _ _⟩
  case round =>
    obtain ⟨k, hk, rfl, hJ2, hKp⟩ := hrel
    have hc0 := cell0 (hKp.2 Bt _ _ _ hBt' hE1)
    have hc1 := cell0 ((hKp.1.block T hTn).trans hT')
    have hM2 := hM'.heap (hKp.1.block M hMn)
    by_cases hlt : k < ss.length
    · have hx := hkeys ss[k] (List.getElem_mem _)
      have hlk := hM2.look law9 under92 hx wr rfl
      obtain ⟨g, rfl, hgW, cur, fr, hgc, hgx⟩ := hgk k hlt
      have hcx : wr.cell? ⟨g, k, none⟩ = some (encStr ss[k]) := by
        simp only [World.cell?, hKp.2 g _ _ _ hgc (hE2 g hgW)]
        exact hgx
      have hsn := rowsOf_snoc f ss k hlt
      have hln : (rowsOf f (ss.take k)).length < nn := by
        have := rowsOf_len f (ss.take k)
        rw [List.length_take] at this
        omega
      have hpr := rowsOf_pre f ss (k + 1)
      obtain ⟨x, hxe⟩ : ∃ x, x = ss[k] := ⟨_, rfl⟩
      obtain ⟨c, hce⟩ : ∃ c, c = f x := ⟨_, rfl⟩
      rw [← hxe] at hsn hlk hcx
      rw [← hce] at hsn hlk
      clear hxe hx hce
      by_cases hpos : 0 < c
      · rw [if_pos hpos] at hsn
        obtain ⟨fn, tmps, assign, body, hy, hR⟩ := hY _ (x, c) wr hJ2 hln
        dsimp only at hy
        clear hY
        gi_wp2
        refine hR.mono ?_
        rintro e W3 (⟨rfl, hJ3, hk3⟩ | ⟨rfl, hJx3⟩)
        · gi_wp2
          go_roundw
          case rel => exact ⟨k + 1, by omega, by go_num, by rw [hsn]; exact hJ3, kpe_t hKp hk3⟩
          case measure => simp [vi]; omega
        · gi_wp2
          refine bodyPost_ret (results_none rfl _ _ _) rfl ?_
          exact ⟨⟨_, rfl⟩, .inr ⟨_, ⟨ss, hK, by rw [hsn] at hpr; exact hpr⟩, hJx3⟩⟩
      · rw [if_neg hpos, List.append_nil] at hsn
        clear hY
        gi_wp2
        refine ⟨fun _ h => (by cases h), ?_⟩
        gi_wp2
        go_roundw
        case rel => exact ⟨k + 1, by omega, by go_num, by rw [hsn]; exact hJ2, hKp⟩
        case measure => simp [vi]; omega
    · obtain rfl : k = ss.length := by omega
      rw [List.take_of_length_le (Nat.le_refl _)] at hJ2
      clear hY
      gi_wp2
      go_end0
      exact ⟨⟨_, rfl⟩, .inl ⟨_, ⟨ss, hK, hlen, rfl⟩, hJ2⟩⟩

set_option maxHeartbeats 2000000 in
set_option maxRecDepth 100000 in
theorem itS_none (n : Nat) (hn : 5 ≤ n) (l Bt T : Nat) (J : List (List UInt8 × Int) → World → Prop) (W : World)
    (hBt : W.heap[Bt]? = some (.cells #[.pointer (some ⟨T, 0, none⟩)] 97 (0, 0))) (hT : W.heap[T]? = some (.cells #[.map none] 94 (0, 0))) (hJ : AbidesFrom W.heap.size J) (h0 : J [] W) :
    CallsIn Fence.wide n Try.prog 106 #[.func (.yield l) #[] #[], .pointer (some ⟨Bt, 0, none⟩)] W fun e W' => (∃ v, e = .returned v) ∧ J [] W' := by
  have hcB := cell0 hBt
  have hcT := cell0 hT
  have cK := keysCallS (n - 1) none W
  have cS := sortedNilS (n - 1) (by omega) W.heap.size (W.alloc (.cells #[.map none] 92)) (cell0 (World.alloc_heap_new W _)) (by simp)
  have hJ1 : J [] (W.alloc (.cells #[.map none] 92)) := hJ _ _ _ none h0 (World.grownBy_alloc W _ _) (fun r e => by cases e)
  have hfK : Fence.wide.fn 108 := trivial
  have hfS : Fence.wide.fn 107 := trivial
  have h1 : 1 ≤ n := by omega
  refine callsIn_of_wp Try.func106 rfl trivial ?_ rfl
  simp only [Try.ntmps106, List.size_toArray, List.length_cons, List.length_nil, Nat.reduceAdd, Nat.reduceSub, Array.replicate_succ, Array.replicate_zero, List.push_toArray, List.append_toArray, List.nil_append, List.cons_append]
  gi_wp2_with (first
    | (gi_at_call 108; refine cK.mono ?_; rintro e w' ⟨rfl, rfl⟩)
    | (gi_at_call 107; refine cS.mono ?_; rintro e Ws ⟨rfl, hb⟩))
  have hJs : J [] Ws := hJ _ _ _ none hJ1 (grown_of_below hb (Nat.le_refl _)) (fun r e => by cases e)
  clear cK cS hJ1 hb hJ h0
  gi_loopw [14] (fun i wr => i = .int .i64 0 ∧ J [] wr) (fun i _ => 0)
  case atStart => exact ⟨rfl, hJs⟩
  case round =>
    obtain ⟨rfl, hJ2⟩ := hrel
    gi_wp2
    go_end0
    exact ⟨⟨_, rfl⟩, hJ2⟩

set_option maxHeartbeats 2000000 in
theorem itS_nil (n : Nat) (hn : 1 ≤ n) (y : Value) (Bt : Nat) (W : World) (hBt : W.heap[Bt]? = some (.cells #[.pointer none] 97 (0, 0))) :
    CallsIn Fence.wide n Try.prog 106 #[y, .pointer (some ⟨Bt, 0, none⟩)] W fun e W' => (∃ v, e = .returned v) ∧ W' = W := by
  have hcB := cell0 hBt
  refine callsIn_of_wp Try.func106 rfl trivial ?_ rfl
  simp only [Try.ntmps106, List.size_toArray, List.length_cons, List.length_nil, Nat.reduceAdd, Nat.reduceSub, Array.replicate_succ, Array.replicate_zero, List.push_toArray, List.append_toArray, List.nil_append, List.cons_append]
  gi_wp2
  refine bodyPost_ret (results_none rfl _ _ _) rfl ?_
  exact ⟨⟨_, rfl⟩, rfl⟩

/-- what Rows hands back, as an iterator -/
theorem stopsS (n : Nat) (hn : 5 ≤ n) (Bt T nn base : Nat) (f : List UInt8 → Int) (h : List UInt8 → Prop) (E : Nat → TypeId → Prop) (w0 w : World) (hT : TK mkS 9 94 w0 base T nn f h) (hb : Below w0.heap.size w0 w)
    (hBt : w.heap[Bt]? = some (.cells #[.pointer (some ⟨T, 0, none⟩)] 97 (0, 0))) (hnn : nn ≤ 1000000000) (hE1 : ¬ E Bt 97) (hE2 : ∀ k, w.heap.size ≤ k → ¬ E k 9) :
    SeqStopsK Fence.wide n Try.prog 106 #[.pointer (some ⟨Bt, 0, none⟩)] (fun x : List UInt8 × Int => #[encStr x.1, .int .i64 x.2]) (KpE E w0.heap.size) (fun xs => ∃ ss, KeysL (fun a b => a < b) h ss ∧ ss.length ≤ nn ∧ xs = rowsOf f ss) (fun pre => ∃ ss, KeysL (fun a b => a < b) h ss ∧ pre <+: rowsOf f ss) nn w := by
  intro l J Jx W hW hJ hJx hY h0
  have hbW : Below w0.heap.size w0 W := hb.trans (hW.mono hb.size)
  have hBl := lt0 hBt
  have hBt2 := (hW.block Bt hBl).trans hBt
  obtain ⟨hbT, hT | ⟨M, hT, hbM, hM⟩⟩ := hT
  · obtain ⟨hT, hz, hh⟩ := hT
    refine (itS_none n hn l Bt T J W hBt2 ((hbW.block T (lt0 hT)).trans hT) hJ h0).mono ?_
    rintro e W' ⟨hv, hJ2⟩
    exact ⟨hv, .inl ⟨[], ⟨[], ⟨List.Pairwise.nil, fun x => ⟨fun hx => by simp at hx, fun hx => (hh x hx).elim⟩⟩, Nat.zero_le _, rfl⟩, hJ2⟩⟩
  · exact itS_some n hn l Bt T M nn w0.heap.size f h E J Jx W hBt2 ((hbW.block T (lt0 hT)).trans hT) (hM.heap (hbW.block M hM.lt)) hnn (lt0 hT) hM.lt hbW.size hE1 (fun k hk => hE2 k (Nat.le_trans hW.size hk)) hJ hY h0

/-- slices.Sort's two contracts, at the fence that asks nothing. -/
theorem sortsI (m : Nat) : AnyZI.SortsIn Try.prog Try.sortedI_ren Fence.wide m :=
  ⟨fun blk off cap ss W hH hblk hsz => callsIn_wide.2 (AnyM.slices_Sort_int Try.sortI blk off cap ss W hH hblk hsz),
   fun p cap W => callsIn_wide.2 (AnyM.slices_Sort_int_none Try.sortI p cap W)⟩
theorem keysCallI (n : Nat) (mb : Option Nat) (W : World) : CallsIn Fence.wide n Try.prog 66 #[.map mb] W fun e w' => e = .returned (.func (.func 93) #[] #[.pointer (some ⟨W.heap.size, 0, none⟩)]) ∧ w' = W.alloc (.cells #[.map mb] 68) := AnyZI.keys_in Try.keysI Fence.wide n trivial rfl mb W

set_option maxRecDepth 100000 in
theorem sortedCallI (n : Nat) (hn : 4 ≤ n) (Bm M nn : Nat) (f : Int → Int) (h : Int → Prop) (w : World) (hBm : w.cell? ⟨Bm, 0, none⟩ = some (.map (some M))) (hl : Bm < w.heap.size) (hM : MapF mkI 3 w M nn f h) (hnn : nn ≤ 1000000000) :
    CallsIn Fence.wide n Try.prog 65 #[.func (.func 93) #[] #[.pointer (some ⟨Bm, 0, none⟩)]] w fun e w' => ∃ (v : Value) (ss : List (Int)), e = .returned v ∧ KeysL (fun a b => a < b) h ss ∧ ss.length ≤ nn ∧ (∀ x ∈ ss, keyOf Try.prog 3 (encZ x) = some (mkI x)) ∧
      w'.ownsRow w.heap.size 3 1 v ss.length (ss.map encZ) ∧ Below w.heap.size w w' := by
  obtain ⟨D, ho, ht, _, hh⟩ := hM
  have hsz := fit_len ho
  have hseq : SeqGives Fence.wide (n - 1 - 1 - 1) Try.prog 93 #[.pointer (some ⟨Bm, 0, none⟩)] encZ (fun ss => ss.Perm (intKeys D)) (Maps.size D) w :=
    AnyZI.keys_gives (ρ := Try.keysI_ren) { Try.keysI with } Fence.wide _ trivial rfl (by omega) Bm M nn D _ hl hBm ho
  have cS := AnyZI.sorted_in Try.sortedI Fence.wide n trivial trivial trivial trivial rfl hn (sortsI _) (enters_of Try.func92 (by kernel_rfl) rfl) 93 #[.pointer (some ⟨Bm, 0, none⟩)] trivial (enters_of Try.func93 (by kernel_rfl) rfl) _ _ (by unfold maxLen; omega) (by omega) _ hseq
  change CallsIn _ _ Try.prog 65 _ _ _ at cS
  refine cS.mono ?_
  rintro e w' ⟨v, ss, rfl, hS, hrow, hnil, hb⟩
  have hle : (ss.mergeSort (fun x y => decide (x ≤ y))).length = ss.length := List.length_mergeSort _
  refine ⟨v, ss.mergeSort (fun x y => decide (x ≤ y)), rfl, keysI_of ho ht hh hS, ?_, keysI_key ho hS, ?_, hb⟩
  · rw [hle, hS.length_eq]
    obtain ⟨es, rfl⟩ := ht.isMap
    show (es.map _).length ≤ nn
    rw [List.length_map]; exact hsz
  · rw [hle]; exact hrow
set_option maxRecDepth 100000 in
theorem sortedNilI (n : Nat) (hn : 4 ≤ n) (Bm : Nat) (w : World) (hBm : w.cell? ⟨Bm, 0, none⟩ = some (.map none)) (hl : Bm < w.heap.size) :
    CallsIn Fence.wide n Try.prog 65 #[.func (.func 93) #[] #[.pointer (some ⟨Bm, 0, none⟩)]] w fun e w' => e = .returned (.slice none 0 0) ∧ Below w.heap.size w w' := by
  have hseq : SeqGives Fence.wide (n - 1 - 1 - 1) Try.prog 93 #[.pointer (some ⟨Bm, 0, none⟩)] encZ (fun ss : List (Int) => ss = []) 0 w :=
    AnyZI.keys_gives_nil (ρ := Try.keysI_ren) { Try.keysI with } Fence.wide _ trivial rfl Bm _ hl hBm
  have cS := AnyZI.sorted_in Try.sortedI Fence.wide n trivial trivial trivial trivial rfl hn (sortsI _) (enters_of Try.func92 (by kernel_rfl) rfl) 93 #[.pointer (some ⟨Bm, 0, none⟩)] trivial (enters_of Try.func93 (by kernel_rfl) rfl) _ 0 (Nat.zero_le _) (by omega) _ hseq
  change CallsIn _ _ Try.prog 65 _ _ _ at cS
  refine cS.mono ?_
  rintro e w' ⟨v, ss, rfl, rfl, hrow, hnil, hb⟩
  exact ⟨by rw [hnil.2 rfl], hb⟩
/-- Rows. -/
theorem rowsCallI (n : Nat) (p : Value) (hp : p.oneCell' = true) (w : World) (T : Nat) (e : p = .pointer (some ⟨T, 0, none⟩)) : CallsIn Fence.wide n Try.prog 36 #[p] w fun e w' => e = .returned (.func (.func 64) #[] #[.pointer (some ⟨w.heap.size, 0, none⟩)]) ∧ w' = w.alloc (.cells #[p] 64) := by
  subst e
  refine callsIn_of_wp Try.func36 rfl trivial ?_ rfl
  simp only [Try.ntmps36, List.size_toArray, List.length_cons, List.length_nil, Nat.reduceAdd, Nat.reduceSub, Array.replicate_succ, Array.replicate_zero, List.push_toArray, List.append_toArray, List.nil_append, List.cons_append]
  gi_wp2
  go_ret
  exact ⟨rfl, rfl⟩

set_option maxHeartbeats 2000000 in
set_option maxRecDepth 100000 in
theorem itI_some (n : Nat) (hn : 5 ≤ n) (l Bt T M nn n₀ : Nat) (f : Int → Int) (h : Int → Prop) (E : Nat → TypeId → Prop) (J Jx : List (Int × Int) → World → Prop) (W : World)
    (hBt : W.heap[Bt]? = some (.cells #[.pointer (some ⟨T, 0, none⟩)] 64 (0, 0))) (hT : W.heap[T]? = some (.cells #[.map (some M)] 70 (0, 0))) (hM : MapF mkI 3 W M nn f h) (hnn : nn ≤ 1000000000)
    (hTn : T < n₀) (hMn : M < n₀) (hn₀ : n₀ ≤ W.heap.size) (hE1 : ¬ E Bt 64) (hE2 : ∀ k, W.heap.size ≤ k → ¬ E k 3) (hJ : AbidesFrom W.heap.size J)
    (hY : ∀ pre x W1, J pre W1 → pre.length < nn → YieldAt Fence.wide (n - 1) Try.prog l #[encZ x.1, .int .i64 x.2] W1 fun e W' =>
      (e = .returned (.bool true) ∧ J (pre ++ [x]) W' ∧ KpE E n₀ W1 W') ∨ (e = .returned (.bool false) ∧ Jx (pre ++ [x]) W')) (h0 : J [] W) :
    CallsIn Fence.wide n Try.prog 64 #[.func (.yield l) #[] #[], .pointer (some ⟨Bt, 0, none⟩)] W fun e W' => (∃ v, e = .returned v) ∧
      ((∃ xs, (∃ ss, KeysL (fun a b => a < b) h ss ∧ ss.length ≤ nn ∧ xs = rowsOf f ss) ∧ J xs W') ∨ ∃ pre, (∃ ss, KeysL (fun a b => a < b) h ss ∧ pre <+: rowsOf f ss) ∧ Jx pre W') := by
  have hcB := cell0 hBt
  have hcT := cell0 hT
  have hTl := lt0 hT
  have hBl := lt0 hBt
  have hMl := hM.lt
  have bK := Below.heap_alloc W (.cells #[.map (some M)] 68)
  have cK := keysCallI (n - 1) (some M) W
  have cS := sortedCallI (n - 1) (by omega) W.heap.size M nn f h (W.alloc (.cells #[.map (some M)] 68)) (cell0 (World.alloc_heap_new W _)) (by simp) (hM.heap (bK M hMl)) hnn
  have hJ1 : J [] (W.alloc (.cells #[.map (some M)] 68)) := hJ _ _ _ none h0 (World.grownBy_alloc W _ _) (fun r e => by cases e)
  have hBelow1 : Below W.heap.size W (W.alloc (.cells #[.map (some M)] 68)) := (Below.refl _ W).alloc (Nat.le_refl _) _
  have hfK : Fence.wide.fn 66 := trivial
  have hfS : Fence.wide.fn 65 := trivial
  have h1 : 1 ≤ n := by omega
  refine callsIn_of_wp Try.func64 rfl trivial ?_ rfl
  simp only [Try.ntmps64, List.size_toArray, List.length_cons, List.length_nil, Nat.reduceAdd, Nat.reduceSub, Array.replicate_succ, Array.replicate_zero, List.push_toArray, List.append_toArray, List.nil_append, List.cons_append]
  gi_wp2_with (first
    | (gi_at_call 66; refine cK.mono ?_; rintro e w' ⟨rfl, rfl⟩)
    | (gi_at_call 65; refine cS.mono ?_; rintro e Ws ⟨v, ss, rfl, hK, hlen, hkeys, hrow, hb⟩; obtain ⟨A, cap, rfl⟩ := slice_shape hrow))
  have hJs : J [] Ws := hJ _ _ _ none hJ1 (grown_of_below hb (Nat.le_refl _)) (fun r e => by cases e)
  have hBe : Below W.heap.size W Ws := hBelow1.trans (hb.mono (by simp))
  have hBt' := (hBe.block Bt hBl).trans hBt
  have hT' := (hBe.block T hTl).trans hT
  have hM' := hM.heap (hBe.block M hMl)
  have hgk : ∀ k (hk : k < ss.length), ∃ g, A = some ⟨g, 0, none⟩ ∧ W.heap.size ≤ g ∧ ∃ cur fr, Ws.heap[g]? = some (.cells cur 3 fr) ∧ cur[k]? = some (encZ ss[k]) := by
    intro k hk
    rcases hrow.2 with ⟨e, e2⟩ | ⟨gb, cap', cur, e, hbase, hgb, r1, r2, r3, r4⟩
    · omega
    · cases e
      refine ⟨gb, rfl, by have := hbase; simp at this; omega, cur, _, hgb, ?_⟩
      have h5 := congrArg (fun l => l[k]?) r4
      simp only [List.getElem?_map, List.getElem?_eq_getElem hk, Option.map_some] at h5
      rw [List.getElem?_take_of_lt (by omega)] at h5
      rw [← h5, Array.getElem?_toList]
  clear hrow cK cS hJ1 hBelow1 hBt hT hM hcB hcT bK hb hJ h0
  gi_loopw [14] (fun i wr => ∃ k : Nat, k ≤ ss.length ∧ i = .int .i64 (k : Int) ∧ J (rowsOf f (ss.take k)) wr ∧ KpE E n₀ Ws wr) (fun i _ => ss.length - (vi i).toNat)
  case atStart => exact ⟨0, Nat.zero_le _, rfl, hJs, kpe_refl _ _ _⟩
  case round =>
    obtain ⟨k, hk, rfl, hJ2, hKp⟩ := hrel
    have hc0 := cell0 (hKp.2 Bt _ _ _ hBt' hE1)
    have hc1 := cell0 ((hKp.1.block T hTn).trans hT')
    have hM2 := hM'.heap (hKp.1.block M hMn)
    by_cases hlt : k < ss.length
    · have hx := hkeys ss[k] (List.getElem_mem _)
      have hlk := hM2.look law3 under68 hx wr rfl
      obtain ⟨g, rfl, hgW, cur, fr, hgc, hgx⟩ := hgk k hlt
      have hcx : wr.cell? ⟨g, k, none⟩ = some (encZ ss[k]) := by
        simp only [World.cell?, hKp.2 g _ _ _ hgc (hE2 g hgW)]
        exact hgx
      have hsn := rowsOf_snoc f ss k hlt
      have hln : (rowsOf f (ss.take k)).length < nn := by
        have := rowsOf_len f (ss.take k)
        rw [List.length_take] at this
        omega
      have hpr := rowsOf_pre f ss (k + 1)
      obtain ⟨x, hxe⟩ : ∃ x, x = ss[k] := ⟨_, rfl⟩
      obtain ⟨c, hce⟩ : ∃ c, c = f x := ⟨_, rfl⟩
      rw [← hxe] at hsn hlk hcx
      rw [← hce] at hsn hlk
      clear hxe hx hce
      by_cases hpos : 0 < c
      · rw [if_pos hpos] at hsn
        obtain ⟨fn, tmps, assign, body, hy, hR⟩ := hY _ (x, c) wr hJ2 hln
        dsimp only at hy
        clear hY
        gi_wp2
        refine hR.mono ?_
        rintro e W3 (⟨rfl, hJ3, hk3⟩ | ⟨rfl, hJx3⟩)
        · gi_wp2
          go_roundw
          case rel => exact ⟨k + 1, by omega, by go_num, by rw [hsn]; exact hJ3, kpe_t hKp hk3⟩
          case measure => simp [vi]; omega
        · gi_wp2
          refine bodyPost_ret (results_none rfl _ _ _) rfl ?_
          exact ⟨⟨_, rfl⟩, .inr ⟨_, ⟨ss, hK, by rw [hsn] at hpr; exact hpr⟩, hJx3⟩⟩
      · rw [if_neg hpos, List.append_nil] at hsn
        clear hY
        gi_wp2
        refine ⟨fun _ h => (by cases h), ?_⟩
        gi_wp2
        go_roundw
        case rel => exact ⟨k + 1, by omega, by go_num, by rw [hsn]; exact hJ2, hKp⟩
        case measure => simp [vi]; omega
    · obtain rfl : k = ss.length := by omega
      rw [List.take_of_length_le (Nat.le_refl _)] at hJ2
      clear hY
      gi_wp2
      go_end0
      exact ⟨⟨_, rfl⟩, .inl ⟨_, ⟨ss, hK, hlen, rfl⟩, hJ2⟩⟩

set_option maxHeartbeats 2000000 in
set_option maxRecDepth 100000 in
theorem itI_none (n : Nat) (hn : 5 ≤ n) (l Bt T : Nat) (J : List (Int × Int) → World → Prop) (W : World)
    (hBt : W.heap[Bt]? = some (.cells #[.pointer (some ⟨T, 0, none⟩)] 64 (0, 0))) (hT : W.heap[T]? = some (.cells #[.map none] 70 (0, 0))) (hJ : AbidesFrom W.heap.size J) (h0 : J [] W) :
    CallsIn Fence.wide n Try.prog 64 #[.func (.yield l) #[] #[], .pointer (some ⟨Bt, 0, none⟩)] W fun e W' => (∃ v, e = .returned v) ∧ J [] W' := by
  have hcB := cell0 hBt
  have hcT := cell0 hT
  have cK := keysCallI (n - 1) none W
  have cS := sortedNilI (n - 1) (by omega) W.heap.size (W.alloc (.cells #[.map none] 68)) (cell0 (World.alloc_heap_new W _)) (by simp)
  have hJ1 : J [] (W.alloc (.cells #[.map none] 68)) := hJ _ _ _ none h0 (World.grownBy_alloc W _ _) (fun r e => by cases e)
  have hfK : Fence.wide.fn 66 := trivial
  have hfS : Fence.wide.fn 65 := trivial
  have h1 : 1 ≤ n := by omega
  refine callsIn_of_wp Try.func64 rfl trivial ?_ rfl
  simp only [Try.ntmps64, List.size_toArray, List.length_cons, List.length_nil, Nat.reduceAdd, Nat.reduceSub, Array.replicate_succ, Array.replicate_zero, List.push_toArray, List.append_toArray, List.nil_append, List.cons_append]
  gi_wp2_with (first
    | (gi_at_call 66; refine cK.mono ?_; rintro e w' ⟨rfl, rfl⟩)
    | (gi_at_call 65; refine cS.mono ?_; rintro e Ws ⟨rfl, hb⟩))
  have hJs : J [] Ws := hJ _ _ _ none hJ1 (grown_of_below hb (Nat.le_refl _)) (fun r e => by cases e)
  clear cK cS hJ1 hb hJ h0
  gi_loopw [14] (fun i wr => i = .int .i64 0 ∧ J [] wr) (fun i _ => 0)
  case atStart => exact ⟨rfl, hJs⟩
  case round =>
    obtain ⟨rfl, hJ2⟩ := hrel
    gi_wp2
    go_end0
    exact ⟨⟨_, rfl⟩, hJ2⟩

set_option maxHeartbeats 2000000 in
theorem itI_nil (n : Nat) (hn : 1 ≤ n) (y : Value) (Bt : Nat) (W : World) (hBt : W.heap[Bt]? = some (.cells #[.pointer none] 64 (0, 0))) :
    CallsIn Fence.wide n Try.prog 64 #[y, .pointer (some ⟨Bt, 0, none⟩)] W fun e W' => (∃ v, e = .returned v) ∧ W' = W := by
  have hcB := cell0 hBt
  refine callsIn_of_wp Try.func64 rfl trivial ?_ rfl
  simp only [Try.ntmps64, List.size_toArray, List.length_cons, List.length_nil, Nat.reduceAdd, Nat.reduceSub, Array.replicate_succ, Array.replicate_zero, List.push_toArray, List.append_toArray, List.nil_append, List.cons_append]
  gi_wp2
  refine bodyPost_ret (results_none rfl _ _ _) rfl ?_
  exact ⟨⟨_, rfl⟩, rfl⟩

/-- what Rows hands back, as an iterator -/
theorem stopsI (n : Nat) (hn : 5 ≤ n) (Bt T nn base : Nat) (f : Int → Int) (h : Int → Prop) (E : Nat → TypeId → Prop) (w0 w : World) (hT : TK mkI 3 70 w0 base T nn f h) (hb : Below w0.heap.size w0 w)
    (hBt : w.heap[Bt]? = some (.cells #[.pointer (some ⟨T, 0, none⟩)] 64 (0, 0))) (hnn : nn ≤ 1000000000) (hE1 : ¬ E Bt 64) (hE2 : ∀ k, w.heap.size ≤ k → ¬ E k 3) :
    SeqStopsK Fence.wide n Try.prog 64 #[.pointer (some ⟨Bt, 0, none⟩)] (fun x : Int × Int => #[encZ x.1, .int .i64 x.2]) (KpE E w0.heap.size) (fun xs => ∃ ss, KeysL (fun a b => a < b) h ss ∧ ss.length ≤ nn ∧ xs = rowsOf f ss) (fun pre => ∃ ss, KeysL (fun a b => a < b) h ss ∧ pre <+: rowsOf f ss) nn w := by
  intro l J Jx W hW hJ hJx hY h0
  have hbW : Below w0.heap.size w0 W := hb.trans (hW.mono hb.size)
  have hBl := lt0 hBt
  have hBt2 := (hW.block Bt hBl).trans hBt
  obtain ⟨hbT, hT | ⟨M, hT, hbM, hM⟩⟩ := hT
  · obtain ⟨hT, hz, hh⟩ := hT
    refine (itI_none n hn l Bt T J W hBt2 ((hbW.block T (lt0 hT)).trans hT) hJ h0).mono ?_
    rintro e W' ⟨hv, hJ2⟩
    exact ⟨hv, .inl ⟨[], ⟨[], ⟨List.Pairwise.nil, fun x => ⟨fun hx => by simp at hx, fun hx => (hh x hx).elim⟩⟩, Nat.zero_le _, rfl⟩, hJ2⟩⟩
  · exact itI_some n hn l Bt T M nn w0.heap.size f h E J Jx W hBt2 ((hbW.block T (lt0 hT)).trans hT) (hM.heap (hbW.block M hM.lt)) hnn (lt0 hT) hM.lt hbW.size hE1 (fun k hk => hE2 k (Nat.le_trans hW.size hk)) hJ hY h0
end Go.Proofs.Ytacglolggaobdab.TL
