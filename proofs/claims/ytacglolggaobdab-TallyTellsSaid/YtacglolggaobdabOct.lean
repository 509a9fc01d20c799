/- Octets as cells: what a row of octets reads as, a store into it, and its turning into a string. No program is named here. -/
import Derived.Test.YtacglolggaobdabWWords
import Derived.Laws.BytesArg
namespace Go.Proofs.Ytacglolggaobdab.Oct
open Go.RowKit Go.Proofs.YtacglolggaobdabW.PrintWords
set_option linter.unusedVariables false

/-- octets as cells -/
def obv (xs : List UInt8) : List Value := xs.map fun x => Value.int .u8 (x.toNat : Int)
theorem obv_length (xs : List UInt8) : (obv xs).length = xs.length := by simp [obv]

/-- block g is the octets xs, of the type t -/
def Row (w : World) (g : Nat) (t : TypeId) (xs : List UInt8) : Prop := w.heap[g]? = some (.cells (obv xs).toArray t (0, 0))
theorem Row.cell {w : World} {g : Nat} {t : TypeId} {xs : List UInt8} (h : Row w g t xs) (i : Nat) (hi : i < xs.length) : w.cell? ⟨g, i, none⟩ = some (.int .u8 (xs[i].toNat : Int)) := by
  rw [blk_cell h i]
  simp [obv, hi]
theorem Row.fz {w : World} {g : Nat} {t : TypeId} {xs : List UInt8} (h : Row w g t xs) (i : Nat) : w.frozen? ⟨g, i, none⟩ = false := blk_frozen h i
theorem Row.put {w : World} {g : Nat} {t : TypeId} {xs : List UInt8} (h : Row w g t xs) (i : Nat) (u : UInt8) : Row (w.setCell ⟨g, i, none⟩ (.int .u8 (u.toNat : Int))) g t (xs.set i u) := by
  unfold Row
  rw [blk_set h]
  congr 2
  rw [← Array.toList_inj]
  simp [obv, List.map_set]
theorem strOf_obv (ys : List UInt8) : strOfNums (ys.map fun x => (x.toNat : Int)) = ⟨ys.toArray⟩ := by
  have e : (ys.map fun x => (x.toNat : Int)).map (fun n => UInt8.ofNat n.toNat) = ys := by
    rw [List.map_map]
    conv => rhs; rw [← List.map_id ys]
    refine List.map_congr_left fun x _ => ?_
    simp
  unfold strOfNums
  rw [e]
theorem Row.text {P : Program} {w : World} {g : Nat} {t : TypeId} {xs : List UInt8} (h : Row w g t xs) (src e : TypeId) (hs : P.underlying src = some (.slice e)) (he : P.underlying e = some (.int .u8)) (o n c : Nat) (hn : o + n ≤ xs.length) :
    ∀ dst, P.underlying dst = some .string → (convert src dst (.slice (some ⟨g, o, none⟩) n c)).run P w = .ok (.string ⟨((xs.drop o).take n).toArray⟩) w := by
  have hl : ((xs.drop o).take n).length = n := by simp; omega
  rw [← strOf_obv]
  refine run_convert_bytes_arg w src e hs he g o n c _ (by simpa using hl) fun i hi => ?_
  rw [h.cell (o + i) (by omega)]
  simp only [List.getD_eq_getElem?_getD, List.getElem?_map]
  rw [List.getElem?_take, if_pos hi, List.getElem?_drop, List.getElem?_eq_getElem (by omega)]
  rfl
end Go.Proofs.Ytacglolggaobdab.Oct
