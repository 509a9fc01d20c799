/- A block that is a row of fields (two cells each): reading, writing, copying into it, and what of it is a row of one's own. -/
import Derived.Test.YtacglolggaobdabGheaderAll
namespace Go.Proofs.Ytacglolggaobdab.FR
open Go.RowKit Go.Proofs.YtacglolggaobdabW.PrintWords Go.Proofs.YtacglolggaobdabW.PrintLast Go.Proofs.YtacglolggaobdabW.PrintMore Go.Proofs.Ytacglolggaobdab.PAll
set_option linter.unusedVariables false
set_option linter.unusedSimpArgs false

def fc : List S83 → List Value
  | [] => []
  | x :: xs => .string x.f0 :: .string x.f1 :: fc xs
theorem fc_len : ∀ l, (fc l).length = 2 * l.length
  | [] => rfl
  | x :: xs => by rw [fc, List.length_cons, List.length_cons, fc_len xs, List.length_cons]; omega
theorem fc_append : ∀ a b, fc (a ++ b) = fc a ++ fc b
  | [], b => rfl
  | x :: xs, b => by rw [List.cons_append, fc, fc, fc_append xs b]; rfl
theorem fc_get : ∀ (l : List S83) (j : Nat) (u : Value), (fc l)[j]? = some u → ∃ p, l[j / 2]? = some p ∧ ([.string p.f0, .string p.f1] : List Value)[j % 2]? = some u
  | [], j, u, h => by simp [fc] at h
  | x :: xs, 0, u, h => ⟨x, rfl, h⟩
  | x :: xs, 1, u, h => ⟨x, rfl, h⟩
  | x :: xs, j + 2, u, h => by
    have h' : (fc xs)[j]? = some u := h
    obtain ⟨p, h1, h2⟩ := fc_get xs j u h'
    exact ⟨p, by rw [show (j + 2) / 2 = j / 2 + 1 by omega]; exact h1, by rw [show (j + 2) % 2 = j % 2 by omega]; exact h2⟩
theorem fc_at : ∀ (l : List S83) (i : Nat) (h : i < l.length), (fc l)[2 * i]? = some (.string l[i].f0) ∧ (fc l)[2 * i + 1]? = some (.string l[i].f1)
  | x :: xs, 0, h => ⟨rfl, rfl⟩
  | x :: xs, i + 1, h => by
    have := fc_at xs i (by simpa using h)
    exact this
theorem fc_one (xs : Value → Prop) : True := trivial
theorem fc_oneCell : ∀ (l : List S83), ∀ u ∈ fc l, u.oneCell' = true
  | [], u, h => by cases h
  | x :: xs, u, h => by
    rw [fc] at h
    rcases List.mem_cons.1 h with rfl | h
    · rfl
    · rcases List.mem_cons.1 h with rfl | h
      · rfl
      · exact fc_oneCell xs u h
theorem fc_seg : ∀ (l : List S83) (j : Nat) (p : S83), l[j]? = some p → ((fc l).drop (j * 2)).take 2 = [.string p.f0, .string p.f1]
  | [], j, p, h => by simp at h
  | x :: xs, 0, p, h => by
    obtain rfl : x = p := by simpa using h
    rfl
  | x :: xs, j + 1, p, h => by
    have h' : xs[j]? = some p := by simpa using h
    have := fc_seg xs j p h'
    rw [show (j + 1) * 2 = j * 2 + 2 by omega]
    exact this

/-- block g is xs, and more behind it -/
def FRow (w : World) (g : Nat) (xs : List S83) (tl : List Value) : Prop := w.heap[g]? = some (.cells (fc xs ++ tl).toArray 83 (0, 0))

theorem FRow.size {w : World} {g : Nat} {xs : List S83} {tl : List Value} (h : FRow w g xs tl) : g < w.heap.size := blk_lt h
theorem FRow.cells {w : World} {g : Nat} {xs : List S83} {tl : List Value} (h : FRow w g xs tl) (i : Nat) (hi : i < xs.length) : w.cell? ⟨g, 2 * i, none⟩ = some (.string xs[i].f0) ∧ w.cell? ⟨g, 2 * i + 1, none⟩ = some (.string xs[i].f1) := by
  obtain ⟨h1, h2⟩ := fc_at xs i hi
  have hl := fc_len xs
  rw [blk_cell h, blk_cell h, List.getElem?_toArray, List.getElem?_toArray, List.getElem?_append_left (by omega), List.getElem?_append_left (by omega)]
  exact ⟨h1, h2⟩
theorem FRow.fz {w : World} {g : Nat} {xs : List S83} {tl : List Value} (h : FRow w g xs tl) (i : Nat) : w.frozen? ⟨g, i, none⟩ = false := blk_frozen h i

/-- some cells, written into a block -/
theorem put_cells {w : World} {g : Nat} {a seg b : List Value} {old : List Value} (h : w.heap[g]? = some (.cells (a ++ old ++ b).toArray 83 (0, 0))) (hl : old.length = seg.length) :
    (w.setCells g a.length seg).heap[g]? = some (.cells (a ++ seg ++ b).toArray 83 (0, 0)) := by
  obtain ⟨cur', h1, h2, h3⟩ := setCells_row seg a.length w _ h (by simp; omega)
  rw [h1]
  congr 2
  refine Array.toList_inj.1 ?_
  rw [h3]
  simp only [List.append_assoc]
  rw [List.take_left' rfl, ← List.append_assoc a old b, List.drop_append_of_le_length (by simp; omega), List.drop_eq_nil_of_le (by simp; omega)]
  simp
theorem FRow.set {w : World} {g : Nat} {xs : List S83} {tl : List Value} (h : FRow w g xs tl) (i : Nat) (hi : i < xs.length) (y : S83) : FRow (w.setCells g (2 * i) [.string y.f0, .string y.f1]) g (xs.set i y) tl := by
  have e : xs = xs.take i ++ xs[i] :: xs.drop (i + 1) := by rw [← List.drop_eq_getElem_cons hi, List.take_append_drop]
  have h' : w.heap[g]? = some (.cells (fc (xs.take i) ++ [Value.string xs[i].f0, Value.string xs[i].f1] ++ (fc (xs.drop (i + 1)) ++ tl)).toArray 83 (0, 0)) := by
    rw [h]
    conv => lhs; rw [e]
    rw [fc_append, fc]
    simp
  have h2 := put_cells (seg := [.string y.f0, .string y.f1]) h' rfl
  rw [fc_len, List.length_take, Nat.min_eq_left (by omega)] at h2
  unfold FRow
  rw [h2, List.set_eq_take_append_cons_drop, if_pos hi, fc_append, fc]
  simp

/-- .. a row of one's own -/
theorem FRow.own {w : World} {g : Nat} {xs : List S83} {tl : List Value} (h : FRow w g xs tl) (base n cap : Nat) (hb : base ≤ g) (hn : n = xs.length) (hc : xs.length ≤ cap) (hm : cap ≤ maxLen) (ht : 2 * xs.length + tl.length = 2 * cap) :
    Kd.R k83 83 w base (fun _ => True) (.slice (some ⟨g, 0, none⟩) n cap) xs := by
  subst hn
  refine ⟨fun _ _ => trivial, fc xs, ⟨by rw [fc_len]; show _ = xs.length * 2; omega, .inr ⟨g, cap, _, rfl, hb, h, hc, hm, ?_, ?_⟩⟩, by rw [fc_len]; show _ = xs.length * 2; omega, fun j p hj => ?_⟩
  · simp [fc_len]; show _ = cap * 2; omega
  · show List.take (xs.length * 2) _ = _
    rw [List.take_left' (by rw [fc_len]; omega)]
  · show k83.M _ _ _ _ (List.take 2 (List.drop (j * 2) (fc xs)))
    rw [fc_seg xs j p hj]
    exact k83_mkM _ _ _ _
theorem FRow.of {w : World} {base : Nat} {ok : Nat → Prop} {v : Value} {xs : List S83} (h : Kd.R k83 83 w base ok v xs) : (v = .slice none 0 0 ∧ xs = []) ∨ ∃ g cap tl, v = .slice (some ⟨g, 0, none⟩) xs.length cap ∧ base ≤ g ∧ FRow w g xs tl ∧ xs.length ≤ cap ∧ cap ≤ maxLen ∧ 2 * xs.length + tl.length = 2 * cap := by
  obtain ⟨_, inner, ho, hlen, hr⟩ := h
  rcases ho.2 with ⟨hv, h0⟩ | ⟨g, cap, cur, hv, hb, hg, hnc, hm, hcs, ht⟩
  · exact .inl ⟨hv, List.length_eq_zero_iff.1 h0⟩
  · have hin : inner = fc xs := by
      refine List.ext_getElem? fun j => ?_
      rcases Nat.lt_or_ge j inner.length with hj | hj
      · have hlen' : inner.length = xs.length * 2 := hlen
        have hq : j / 2 < xs.length := by omega
        have hM := hr (j / 2) xs[j / 2] (List.getElem?_eq_getElem hq)
        have hc := k83_openM hM
        have h1 : (List.take 2 (List.drop (j / 2 * 2) inner))[j % 2]? = inner[j]? := by
          rw [List.getElem?_take, if_pos (by omega), List.getElem?_drop, show j / 2 * 2 + j % 2 = j by omega]
        have h2 : (List.take 2 (List.drop (j / 2 * 2) (fc xs)))[j % 2]? = (fc xs)[j]? := by
          rw [List.getElem?_take, if_pos (by omega), List.getElem?_drop, show j / 2 * 2 + j % 2 = j by omega]
        rw [← h1, ← h2, fc_seg xs (j / 2) _ (List.getElem?_eq_getElem hq)]
        exact congrArg (fun l : List Value => l[j % 2]?) hc
      · have hlen' : inner.length = xs.length * 2 := hlen
        rw [List.getElem?_eq_none hj, List.getElem?_eq_none (by rw [fc_len]; omega)]
    have ht' : cur.toList.take (xs.length * 2) = inner := ht
    refine .inr ⟨g, cap, cur.toList.drop (xs.length * 2), hv, hb, ?_, hnc, hm, ?_⟩
    · unfold FRow
      rw [← hin, ← ht', List.take_append_drop]
      simpa using hg
    · have h4 : cur.size = cap * 2 := hcs
      have h5 : cur.toList.length = cur.size := Array.length_toList
      rw [List.length_drop, h5]
      omega
/-- What is read of a row of fields, cell by cell. -/
theorem src {w : World} {A : Option Addr} {l : List S83} (h : Kd.C k83 w A l.length l) (h0 : 0 < l.length) : ∃ ad, A = some ad ∧ ∀ j u, (fc l)[j]? = some u → w.cell? (ad.add j) = some u := by
  obtain ⟨_, _, h3⟩ := h
  obtain ⟨ad, e, hc⟩ := h3 h0
  refine ⟨ad, e, fun j u hu => ?_⟩
  obtain ⟨p, hp, hu'⟩ := fc_get l j u hu
  obtain ⟨c, hcl, hK, hcc⟩ := hc (j / 2) p hp
  obtain rfl := k83_open hK
  have := hcc (j % 2) u hu'
  have hz : k83.sz = 2 := rfl
  rw [hz, show j / 2 * 2 + j % 2 = j by omega] at this
  exact this

theorem infoF : (Try.prog.info? 83).map (fun i => (i.zero, i.size, i.bytes)) = some (some (.agg #[.string ⟨#[]⟩, .string ⟨#[]⟩]), 2, 32) := by kernel_rfl
theorem sizeF (w : World) : (Go.sizeOf 83).run Try.prog w = .ok 2 w := by
  obtain ⟨i0, hi, hz0, hz1, hz2⟩ := info_parts infoF
  simp [sizeOf, typeInfo, hi, hz1]
/-- copy(row, l) -/
theorem run_copyF (w : World) (g dLen dCap : Nat) (A : Option Addr) (c : Nat) (ty : TypeId) (l : List S83) (old tl : List Value) (hr : Kd.C k83 w A l.length l) (hg : w.heap[g]? = some (.cells (old ++ tl).toArray 83 (0, 0))) (hl : old.length = 2 * l.length) (hd : l.length ≤ dLen) :
    (Builtin.copy_ #[39, 39] ty #[.slice (some ⟨g, 0, none⟩) dLen dCap, .slice A l.length c]).run Try.prog w = .ok (goInt (l.length : Int)) (w.setCells g 0 (fc l)) := by
  rcases Nat.eq_zero_or_pos l.length with h0 | h0
  · obtain rfl := List.length_eq_zero_iff.1 h0
    have hst := run_storeCells_cells (P := Try.prog) g 0 (fc []) 0 w (fun j hj => by simp [fc] at hj) (fun j hj => by simp [fc] at hj) (fc_oneCell _)
    simp [Builtin.copy_, run_underlying Try.underlying39, Builtin.lenOf, Builtin.firstCells, sizeF]
    cases A <;> simp_all [fc, loadCells, loadCellsFrom]
  · obtain ⟨ad, rfl, hc⟩ := src hr h0
    have hst := run_storeCells_cells (P := Try.prog) g 0 (fc l) 0 w (fun j hj => by
        rw [blk_cell hg (0 + 0 + j), List.getElem?_toArray]
        rw [fc_len] at hj
        rw [List.getElem?_eq_getElem (by rw [List.length_append]; omega)]
        rfl) (fun j hj => blk_frozen hg _) (fc_oneCell _)
    have hld := run_loadCells_list (P := Try.prog) w ad (fc l) hc
    rw [fc_len] at hld
    have e : l.length.min dLen = l.length := Nat.min_eq_left hd
    have e2 : l.length * 2 = 2 * l.length := Nat.mul_comm _ _
    simp [Builtin.copy_, run_underlying Try.underlying39, Builtin.lenOf, Builtin.firstCells, sizeF, e, e2, hld]
    rw [hst]
    rfl
end Go.Proofs.Ytacglolggaobdab.FR
