/- tally: slices.Sorted(maps.Keys(m)) at the two map types: the keys, rising; and what a loop over Rows keeps. -/
import Derived.Test.YtacglolggaobdabTlMap
import Derived.Test.YtacglolggaobdabTlShelf
import Derived.Lib.SlKeysI
import Derived.RangeFuncNested
import Derived.RangeFuncCalls
import Derived.RangeFuncLeaves
import Derived.WalkKit
import Derived.OwnWalkIn
import Derived.TacticsInMore
namespace Go.Proofs.Ytacglolggaobdab.TL
open Go.RowKit Go.Maps Go.Sort Go.Shelf
set_option linter.unusedVariables false
set_option linter.unusedSectionVars false

/-- the keys of h, rising -/
structure KeysL {κ : Type} (lt : κ → κ → Prop) (h : κ → Prop) (ss : List κ) : Prop where
  up : ss.Pairwise lt
  mem : ∀ x, x ∈ ss ↔ h x

theorem fit_len {H : Type} {k : TypeId} {R : Value → Option (DataW H × List MemPlace)} {w : World} {M n : Nat} {D : DataW H} (h : w.ownsMap Try.prog k R M n D) : Maps.size D ≤ n := by
  obtain ⟨es, clock, hb, F, hs, rfl⟩ := h
  rw [size_eq, length_read]; exact hs

theorem keysS_of {w : World} {M n : Nat} {D : DataW Unit} {h : List UInt8 → Prop} (ho : w.ownsMap Try.prog 9 (plainElem Try.prog 3) M n D) (ht : Tidy D) (hh : ∀ x, Maps.has D (mkS x) = true ↔ h x) {ss : List (List UInt8)} (hp : ss.Perm (strKeys D)) :
    KeysL (fun a b => a < b) h (ss.mergeSort (fun x y => decide (x ≤ y))) := by
  obtain ⟨es, rfl, hko⟩ := ho.keysOf
  obtain ⟨es', he, hpw⟩ := ht
  obtain rfl : es = es' := by simpa using he
  have hk : ∀ p ∈ es, ∃ x, p.1 = .string x := fun p hp => by obtain ⟨v, hv⟩ := hko p hp; obtain ⟨x, _, hx, _⟩ := Maps.keyOf_str Try.underlying9 hv; exact ⟨x, hx⟩
  have hnd : (strKeys (.map es)).Nodup := by
    show (es.map fun p => strOf p.1).Nodup
    refine List.pairwise_map.2 (hpw.imp_of_mem fun {p q} hp' hq' hne e => hne ?_)
    obtain ⟨a, ha⟩ := hk p hp'
    obtain ⟨b, hb⟩ := hk q hq'
    rw [ha, hb] at e ⊢
    exact congrArg _ e
  have hmem : ∀ x, x ∈ strKeys (.map es) ↔ h x := fun x => by
    rw [← hh x, has_eq, List.any_eq_true]
    show x ∈ (es.map fun p => strOf p.1) ↔ _
    rw [List.mem_map]
    constructor
    · rintro ⟨p, hp', rfl⟩
      obtain ⟨a, ha⟩ := hk p hp'
      exact ⟨p, hp', by rw [ha]; simp [Lit.sameKey, strOf, mkS]⟩
    · rintro ⟨p, hp', hs⟩
      obtain ⟨a, ha⟩ := hk p hp'
      rw [ha] at hs
      exact ⟨p, hp', by rw [ha]; simpa [Lit.sameKey, strOf, mkS] using hs⟩
  have tr : ∀ a b c : List UInt8, decide (a ≤ b) = true → decide (b ≤ c) = true → decide (a ≤ c) = true := fun a b c h1 h2 => by simp only [decide_eq_true_eq] at *; exact List.le_trans h1 h2
  have tot : ∀ a b : List UInt8, (decide (a ≤ b) || decide (b ≤ a)) = true := fun a b => by simp only [Bool.or_eq_true, decide_eq_true_eq]; exact List.le_total a b
  have hps := (List.mergeSort_perm ss (fun x y => decide (x ≤ y))).trans hp
  refine ⟨?_, fun x => (hps.mem_iff).trans (hmem x)⟩
  have h1 := List.pairwise_mergeSort tr tot ss
  have h2 : (ss.mergeSort (fun x y => decide (x ≤ y))).Nodup := hps.nodup_iff.2 hnd
  refine h1.imp₂ (S := fun a b => a ≠ b) (fun a b h1 h2 => ?_) h2
  exact Decidable.byContradiction fun hn => h2 (List.le_antisymm (of_decide_eq_true h1) (List.not_lt.1 hn))

theorem keysI_of {w : World} {M n : Nat} {D : DataW Unit} {h : Int → Prop} (ho : w.ownsMap Try.prog 3 (plainElem Try.prog 3) M n D) (ht : Tidy D) (hh : ∀ x, Maps.has D (mkI x) = true ↔ h x) {ss : List Int} (hp : ss.Perm (intKeys D)) :
    KeysL (fun a b => a < b) h (ss.mergeSort (fun x y => decide (x ≤ y))) := by
  obtain ⟨es, rfl, hko⟩ := ho.keysOf
  obtain ⟨es', he, hpw⟩ := ht
  obtain rfl : es = es' := by simpa using he
  have hk : ∀ p ∈ es, ∃ x, p.1 = .int .i64 x := fun p hp => by obtain ⟨v, hv⟩ := hko p hp; obtain ⟨x, _, hx, _⟩ := Maps.keyOf_i64 Try.underlying3 hv; exact ⟨x, hx⟩
  have hnd : (intKeys (.map es)).Nodup := by
    show (es.map fun p => Go.intOf p.1).Nodup
    refine List.pairwise_map.2 (hpw.imp_of_mem fun {p q} hp' hq' hne e => hne ?_)
    obtain ⟨a, ha⟩ := hk p hp'
    obtain ⟨b, hb⟩ := hk q hq'
    rw [ha, hb] at e ⊢
    exact congrArg _ e
  have hmem : ∀ x, x ∈ intKeys (.map es) ↔ h x := fun x => by
    rw [← hh x, has_eq, List.any_eq_true]
    show x ∈ (es.map fun p => Go.intOf p.1) ↔ _
    rw [List.mem_map]
    constructor
    · rintro ⟨p, hp', rfl⟩
      obtain ⟨a, ha⟩ := hk p hp'
      exact ⟨p, hp', by rw [ha]; simp [Lit.sameKey, Go.intOf, mkI]⟩
    · rintro ⟨p, hp', hs⟩
      obtain ⟨a, ha⟩ := hk p hp'
      rw [ha] at hs
      exact ⟨p, hp', by rw [ha]; simpa [Lit.sameKey, Go.intOf, mkI] using hs⟩
  have tr : ∀ a b c : Int, decide (a ≤ b) = true → decide (b ≤ c) = true → decide (a ≤ c) = true := fun a b c h1 h2 => by simp only [decide_eq_true_eq] at *; exact Int.le_trans h1 h2
  have tot : ∀ a b : Int, (decide (a ≤ b) || decide (b ≤ a)) = true := fun a b => by simp only [Bool.or_eq_true, decide_eq_true_eq]; exact Int.le_total a b
  have hps := (List.mergeSort_perm ss (fun x y => decide (x ≤ y))).trans hp
  refine ⟨?_, fun x => (hps.mem_iff).trans (hmem x)⟩
  have h1 := List.pairwise_mergeSort tr tot ss
  have h2 : (ss.mergeSort (fun x y => decide (x ≤ y))).Nodup := hps.nodup_iff.2 hnd
  refine h1.imp₂ (S := fun a b => a ≠ b) (fun a b h1 h2 => ?_) h2
  exact by have := of_decide_eq_true h1; omega

theorem keysS_key {w : World} {M n : Nat} {D : DataW Unit} (ho : w.ownsMap Try.prog 9 (plainElem Try.prog 3) M n D) {ss : List (List UInt8)} (hp : ss.Perm (strKeys D)) : ∀ x ∈ ss.mergeSort (fun x y => decide (x ≤ y)), keyOf Try.prog 9 (encStr x) = some (mkS x) := by
  intro x hx
  have hx2 := hp.mem_iff.1 ((List.mergeSort_perm ss _).mem_iff.1 hx)
  have := strKeys_le ho Try.underlying9 x hx2
  have h2 := keyS ⟨x.toArray⟩ (by show x.toArray.size ≤ _; rw [List.size_toArray]; exact this)
  simpa using h2
theorem keysI_key {w : World} {M n : Nat} {D : DataW Unit} (ho : w.ownsMap Try.prog 3 (plainElem Try.prog 3) M n D) {ss : List Int} (hp : ss.Perm (intKeys D)) : ∀ x ∈ ss.mergeSort (fun x y => decide (x ≤ y)), keyOf Try.prog 3 (encZ x) = some (mkI x) := by
  intro x hx
  have hx2 := hp.mem_iff.1 ((List.mergeSort_perm ss _).mem_iff.1 hx)
  obtain ⟨es, rfl, hko⟩ := ho.keysOf
  obtain ⟨p, hp, rfl⟩ := List.mem_map.1 hx2
  obtain ⟨v, hv⟩ := hko p hp
  obtain ⟨y, _, hy, hl⟩ := Maps.keyOf_i64 Try.underlying3 hv
  rw [hy]; exact keyI y hl

/-- what a round keeps: what lay below n₀, and every block of cells but those of E -/
def KpE (E : Nat → TypeId → Prop) (n₀ : Nat) (A B : World) : Prop :=
  Below n₀ A B ∧ ∀ k vs t fr, A.heap[k]? = some (.cells vs t fr) → ¬ E k t → B.heap[k]? = some (.cells vs t fr)
theorem kpe_refl (E : Nat → TypeId → Prop) (n₀ : Nat) (A : World) : KpE E n₀ A A := ⟨Below.refl _ _, fun _ _ _ _ h _ => h⟩
theorem kpe_t {E : Nat → TypeId → Prop} {n₀ : Nat} {A B C : World} (h : KpE E n₀ A B) (k : KpE E n₀ B C) : KpE E n₀ A C :=
  ⟨h.1.trans k.1, fun i vs t fr hi hE => k.2 i vs t fr (h.2 i vs t fr hi hE) hE⟩
theorem kpe_b {E : Nat → TypeId → Prop} {n₀ : Nat} {w : World} (hn : n₀ ≤ w.heap.size) (W : World) (l : Nat) (o o' : Obj) (hl : w.heap.size ≤ l) (h : W.heap[l]? = some o) (hc : o.isCells = false) (hw : o.isWalk = false) : KpE E n₀ W (W.putObj l o') :=
  ⟨belowK_b hn W l o o' hl h hc hw, fun k vs t fr hk _ => by
    have hne : l ≠ k := fun e => by rw [e, hk] at h; cases h; cases hc
    exact (World.putObj_heap_other hne.symm).trans hk⟩
theorem grown_of_below {w w' : World} {B : Nat} (h : Below B w w') (hB : w.heap.size ≤ B) : w.grownBy w' none := ⟨h.os, h.tape, h.output, h.size, fun k hk _ => h.block k (by omega)⟩

def rowsOf {κ : Type} (f : κ → Int) (ss : List κ) : List (κ × Int) := (ss.filter (fun k => decide (0 < f k))).map (fun k => (k, f k))
theorem rowsOf_snoc {κ : Type} (f : κ → Int) (ss : List κ) (i : Nat) (h : i < ss.length) : rowsOf f (ss.take (i + 1)) = rowsOf f (ss.take i) ++ if 0 < f ss[i] then [(ss[i], f ss[i])] else [] := by
  unfold rowsOf
  rw [List.take_succ_eq_append_getElem h, List.filter_append, List.map_append]
  by_cases c : 0 < f ss[i] <;> simp [c]
theorem rowsOf_pre {κ : Type} (f : κ → Int) (ss : List κ) (i : Nat) : rowsOf f (ss.take i) <+: rowsOf f ss := by
  unfold rowsOf
  exact ((List.take_prefix i ss).filter _).map _
theorem rowsOf_len {κ : Type} (f : κ → Int) (ss : List κ) : (rowsOf f ss).length ≤ ss.length := by
  unfold rowsOf
  rw [List.length_map]; exact List.length_filter_le _ _
end Go.Proofs.Ytacglolggaobdab.TL
