/- tally: a list of names, counted: what Fields, Methods and Statuses hand back. -/
import Derived.Test.YtacglolggaobdabTlOut
namespace Go.Proofs.Ytacglolggaobdab.TL
open Go.RowKit Go.Maps Go.Sort Go.Shelf Go.Proofs.YtacglolggaobdabW.PrintWords Go.Proofs.YtacglolggaobdabW.PrintLast Go.Proofs.YtacglolggaobdabW.PrintMore Go.Proofs.Ytacglolggaobdab.PAll Go.Proofs.Ytacglolggaobdab.St
set_option linter.unusedVariables false
set_option linter.unusedSimpArgs false

/-- x into a rising list that has nothing twice -/
def insU (x : List UInt8) : List (List UInt8) → List (List UInt8)
  | [] => [x]
  | y :: ys => if x < y then x :: y :: ys else if x = y then y :: ys else y :: insU x ys
def skeys (ks : List (List UInt8)) : List (List UInt8) := ks.foldr insU []
theorem insU_mem (x z : List UInt8) : ∀ l, z ∈ insU x l ↔ z = x ∨ z ∈ l
  | [] => by simp [insU]
  | y :: ys => by
    unfold insU
    by_cases h1 : x < y
    · simp [h1]
    · by_cases h2 : x = y
      · rw [if_neg h1, if_pos h2, List.mem_cons, h2]; simp
      · simp only [if_neg h1, if_neg h2, List.mem_cons, insU_mem x z ys]
        constructor
        · rintro (h | h | h) <;> simp [h]
        · rintro (h | h | h) <;> simp [h]
theorem lt_of_not {x y : List UInt8} (h1 : ¬ x < y) (h2 : x ≠ y) : y < x := Decidable.byContradiction fun hn => h2 (List.le_antisymm (List.not_lt.1 hn) (List.not_lt.1 h1))
theorem insU_up (x : List UInt8) : ∀ l : List (List UInt8), l.Pairwise (fun a b => a < b) → (insU x l).Pairwise (fun a b => a < b)
  | [], _ => by simp [insU]
  | y :: ys, h => by
    obtain ⟨ha, hb⟩ := List.pairwise_cons.1 h
    unfold insU
    by_cases h1 : x < y
    · rw [if_pos h1]
      refine List.pairwise_cons.2 ⟨fun z hz => ?_, h⟩
      rcases List.mem_cons.1 hz with rfl | hz
      · exact h1
      · exact List.lt_trans h1 (ha z hz)
    · rw [if_neg h1]
      by_cases h2 : x = y
      · rw [if_pos h2]; exact h
      · rw [if_neg h2]
        refine List.pairwise_cons.2 ⟨fun z hz => ?_, insU_up x ys hb⟩
        rcases (insU_mem x z ys).1 hz with rfl | hz
        · exact lt_of_not h1 h2
        · exact ha z hz
theorem skeys_keys : ∀ ks, KeysL (fun a b => a < b) (fun x => x ∈ ks) (skeys ks)
  | [] => ⟨List.Pairwise.nil, fun x => by simp [skeys]⟩
  | k :: ks => by
    have h := skeys_keys ks
    refine ⟨insU_up k _ h.up, fun x => ?_⟩
    show x ∈ insU k (skeys ks) ↔ _
    rw [insU_mem, h.mem, List.mem_cons]
theorem keys_one {h : List UInt8 → Prop} : ∀ {a b : List (List UInt8)}, KeysL (fun a b => a < b) h a → KeysL (fun a b => a < b) h b → a = b := by
  intro a b ha hb
  have ne : ∀ {x y : List UInt8}, x < y → x ≠ y := fun {x y} hxy e => by subst e; exact List.lt_irrefl _ hxy
  have na : a.Nodup := List.Pairwise.imp (fun {x y} (hxy : x < y) => ne hxy) ha.up
  have nb : b.Nodup := List.Pairwise.imp (fun {x y} (hxy : x < y) => ne hxy) hb.up
  have hp : a.Perm b := (List.perm_ext_iff_of_nodup na nb).2 fun x => (ha.mem x).trans (hb.mem x).symm
  exact List.Perm.eq_of_pairwise (le := fun a b => a < b) (fun x y _ _ h1 h2 => absurd (List.lt_trans h1 h2) (List.lt_irrefl x)) ha.up hb.up hp

/-- how often each is there, the most ahead, of one number by name -/
def cntI (ks : List (List UInt8)) (x : List UInt8) : Int := (ks.count x : Int)
def hist (ks : List (List UInt8)) : List S49 := isort (ltOf cfR) (rowsT (cntI ks) (skeys ks))

/-- block T is a tally of ks -/
def TKl (w : World) (base T : Nat) (ks : List (List UInt8)) : Prop := TK mkS 9 94 w base T ks.length (cntI ks) (fun x => x ∈ ks)
theorem TKl.add {w : World} {base T : Nat} {ks : List (List UInt8)} (H : TKl w base T ks) (k : ByteArray) (hl : ks.length ≤ 1000000) (hk : k.size ≤ 1000000000) :
    Calls Try.prog 57 #[.pointer (some ⟨T, 0, none⟩), .string k, .int .i64 1] w fun e w' => (∃ r, e = .returned (.int .i64 r)) ∧ TKl w' base T (ks ++ [k.data.toList]) ∧ Below base w w' := by
  have hc := List.count_le_length (a := k.data.toList) (l := ks)
  refine (addS w base T ks.length (cntI ks) _ k 1 (cntI ks k.data.toList + 1) H (by unfold maxLen; omega) (by unfold maxLen; omega) (by unfold cntI; omega) (by unfold cntI; omega) (by unfold plus cntI; omega)).mono ?_
  rintro e w' ⟨rfl, h2, h3, _⟩
  refine ⟨⟨_, rfl⟩, ?_, h3⟩
  unfold TKl
  have e1 : upd (cntI ks) k.data.toList (cntI ks k.data.toList + 1) = cntI (ks ++ [k.data.toList]) := by
    funext y
    unfold upd cntI
    rw [List.count_append, List.count_singleton]
    by_cases e : y = k.data.toList
    · rw [if_pos e, e]; simp
    · rw [if_neg e]
      have : ¬ (k.data.toList == y) = true := by simpa using fun h => e h.symm
      simp [this]
  have e2 : also (fun x => x ∈ ks) k.data.toList = fun x => x ∈ ks ++ [k.data.toList] := by
    funext y
    unfold also
    simp [or_comm]
  rw [← e1, ← e2, List.length_append]
  exact h2
theorem TKl.new (w : World) : TKl (w.alloc (.cells #[.map none] 94)) w.heap.size w.heap.size [] :=
  ⟨Nat.le_refl _, Or.inl ⟨World.alloc_heap_new w _, fun x => by simp [cntI], fun x => by simp⟩⟩
theorem TKl.below {w w' : World} {base T B : Nat} {ks : List (List UInt8)} (H : TKl w base T ks) (hw : w.heap.size ≤ B) (hb : Below B w w') : TKl w' base T ks := TK.below H hw hb
theorem TKl.rows {w : World} {base T : Nat} {ks : List (List UInt8)} (H : TKl w base T ks) (hl : ks.length ≤ 1000000) :
    Calls Try.prog 59 #[.pointer (some ⟨T, 0, none⟩)] w fun e w' => ∃ v, e = .returned v ∧ Kd.R k49 49 w' w.heap.size (fun _ => True) v (hist ks) ∧ Below w.heap.size w w' := by
  refine (rows59 w base T ks.length _ _ H (by omega)).mono ?_
  rintro e w' ⟨v, ss, rfl, h1, _, h2, h3⟩
  rw [keys_one h1 (skeys_keys ks)] at h2
  exact ⟨v, rfl, h2, h3⟩
end Go.Proofs.Ytacglolggaobdab.TL
