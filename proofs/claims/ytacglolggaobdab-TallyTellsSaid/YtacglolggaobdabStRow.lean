/- A row of structs that the call has built, ahead of a sort and behind it: the block's cells, and that all other blocks lie as they lay. -/
import Derived.Shelf.SlSortCmp.KitK
import Derived.Below
namespace Go.Proofs.Ytacglolggaobdab.St
open Go.Sort Go.RowKit Go.Shelf Go.Lib
set_option linter.unusedVariables false
set_option linter.unusedSectionVars false
variable {α : Type} [Inhabited α] {enc : α → List Value} {k : Nat}

theorem flat_get (hk : ∀ x, (enc x).length = k) (h0 : 0 < k) : ∀ (l : List α) (t : Nat), t < l.length * k → (l.flatMap enc)[t]? = some ((enc l[t / k]!)[t % k]!)
  | [], t, h => by simp at h
  | x :: xs, t, h => by
    rw [List.flatMap_cons]
    by_cases c : t < k
    · rw [List.getElem?_append_left (by rw [hk]; exact c), Nat.div_eq_of_lt c, Nat.mod_eq_of_lt c]
      show (enc x)[t]? = some ((enc x)[t]!)
      rw [getElem!_pos (enc x) t (by rw [hk]; exact c), List.getElem?_eq_getElem]
    · have hl : (x :: xs).length * k = xs.length * k + k := by rw [List.length_cons, Nat.add_mul, Nat.one_mul]
      rw [List.getElem?_append_right (by rw [hk]; omega), hk, flat_get hk h0 xs (t - k) (by omega), Nat.mod_eq_sub_mod (by omega : k ≤ t), Nat.div_eq_sub_div h0 (by omega : k ≤ t)]
      congr 2
theorem flat_len (hk : ∀ x, (enc x).length = k) : ∀ (l : List α), (l.flatMap enc).length = l.length * k
  | [] => by simp
  | x :: xs => by rw [List.flatMap_cons, List.length_append, hk, flat_len hk xs, List.length_cons, Nat.add_mul, Nat.one_mul, Nat.add_comm]
theorem flat_list (hk : ∀ x, (enc x).length = k) (h0 : 0 < k) (d : Array α) : flatK enc k d = (d.toList.flatMap enc).toArray := by
  refine Array.toList_inj.1 (List.ext_getElem? fun t => ?_)
  have hl := flat_len hk d.toList
  by_cases c : t < d.size * k
  · have g := get_flatK enc k d t c
    rw [flat_get hk h0 d.toList t (by simpa using c)]
    rw [Array.getElem?_toList, Array.getElem?_eq_getElem (by rw [size_flatK]; exact c)]
    rw [getElem!_pos _ t (by rw [size_flatK]; exact c)] at g
    have hd : t / k < d.size := (Nat.div_lt_iff_lt_mul h0).2 c
    have he : d[t / k]! = d.toList[t / k]! := by
      rw [getElem!_pos d _ hd, getElem!_pos d.toList _ (by simpa using hd)]
      simp
    rw [g, he]
  · rw [List.getElem?_eq_none (by simp; omega), List.getElem?_eq_none (by rw [List.toList_toArray, hl]; simp; omega)]

variable {w W : World} {g : Nat} {T : TypeId} {tl : List Value} {d d' : Array α}

theorem row_holds (hk : ∀ x, (enc x).length = k) (h0 : 0 < k) (hb : w.heap[g]? = some (.cells (d.toList.flatMap enc ++ tl).toArray T (0, 0))) : HoldsK enc k w g 0 d := by
  intro j hj
  rw [flat_list hk h0] at hj ⊢
  have hj' : j < (d.toList.flatMap enc).length := by simpa using hj
  rw [Nat.zero_add]
  constructor
  · simp only [World.cell?, hb]
    show (d.toList.flatMap enc ++ tl).toArray[j]? = _
    rw [List.getElem?_toArray, List.getElem?_append_left hj', List.getElem?_eq_getElem hj']
    rw [getElem!_pos _ j hj]
    simp
  · simp [World.frozen?, hb]

theorem putCells_all (F : Array Value) (A tl : List Value) (h : A.length = F.size) : putCells id 0 F (A ++ tl).toArray = (F.toList ++ tl).toArray := by
  refine Array.toList_inj.1 (List.ext_getElem? fun t => ?_)
  rw [Array.getElem?_toList, List.toList_toArray]
  simp only [putCells, Array.getElem?_mapIdx, List.getElem?_toArray]
  by_cases c : t < F.size
  · rw [List.getElem?_append_left (by omega), List.getElem?_append_left (by simpa using c), List.getElem?_eq_getElem (by omega : t < A.length), Option.map_some, if_pos ⟨Nat.zero_le _, by omega⟩, Array.getElem?_toList, Array.getElem?_eq_getElem c, Nat.sub_zero, getElem!_pos F t c]
    rfl
  · rw [List.getElem?_append_right (by omega), List.getElem?_append_right (by simp; omega), h]
    simp only [Array.length_toList]
    cases tl[t - F.size]? with
    | none => rfl
    | some y => rw [Option.map_some, if_neg (by omega)]

theorem row_after (hk : ∀ x, (enc x).length = k) (h0 : 0 < k) (hb : w.heap[g]? = some (.cells (d.toList.flatMap enc ++ tl).toArray T (0, 0))) (S : SWK enc k w g 0 d' W) (hs : d'.size = d.size) :
    W.heap[g]? = some (.cells (d'.toList.flatMap enc ++ tl).toArray T (0, 0)) := by
  obtain ⟨n, os, rfl⟩ := S
  have hlt : g < w.heap.size := by
    rcases Nat.lt_or_ge g w.heap.size with h | h
    · exact h
    · rw [Array.getElem?_eq_none h] at hb; cases hb
  unfold sortWorldK
  rw [heap_grow_old _ _ (by rw [size_putRowK]; exact hlt)]
  show (w.heap.modify g (onCells (putCells id 0 (flatK enc k d'))))[g]? = _
  rw [Array.getElem?_modify, if_pos rfl, hb, Option.map_some]
  show some (Obj.cells (putCells id 0 (flatK enc k d') (d.toList.flatMap enc ++ tl).toArray) T (0, 0)) = _
  rw [putCells_all _ _ _ (by rw [flat_len hk, size_flatK, hs]; simp), flat_list hk h0]

theorem row_others (S : SWK enc k w g 0 d' W) (hg : g < w.heap.size) (b : Nat) (hb : b < w.heap.size) (hne : b ≠ g) : W.heap[b]? = w.heap[b]? := by
  obtain ⟨n, os, rfl⟩ := S
  unfold sortWorldK
  rw [heap_grow_old _ _ (by rw [size_putRowK]; exact hb)]
  show (w.heap.modify g (onCells (putCells id 0 (flatK enc k d'))))[b]? = _
  rw [Array.getElem?_modify, if_neg (fun e => hne e.symm)]
theorem row_below (S : SWK enc k w g 0 d' W) {B : Nat} (hg : g < w.heap.size) (hB : B ≤ g) : Below B w W := by
  have hs := S.le
  refine ⟨?_, ?_, ?_, hs, fun b hb => row_others S hg b (by omega) (by omega)⟩
  all_goals (obtain ⟨n, os, rfl⟩ := S; rfl)
end Go.Proofs.Ytacglolggaobdab.St
