/- Plain laws for octets that go round in a row: what is put behind what is there, what is looked at, what is taken. No program is named here. -/
namespace Go.Proofs.Ytacglolggaobdaa.Qu

/-- the octets of a row behind 'copy(row[o:], ys)' -/
def splice (xs : List UInt8) (o : Nat) (ys : List UInt8) : List UInt8 := xs.take o ++ ys ++ xs.drop (o + ys.length)
theorem splice_length (xs : List UInt8) (o : Nat) (ys : List UInt8) (h : o + ys.length ≤ xs.length) : (splice xs o ys).length = xs.length := by
  unfold splice; simp; omega
theorem splice_at (xs : List UInt8) (o : Nat) (ys : List UInt8) (h : o + ys.length ≤ xs.length) (p : Nat) : (splice xs o ys)[p]? = if p < o then xs[p]? else if p < o + ys.length then ys[p - o]? else xs[p]? := by
  unfold splice
  rw [List.append_assoc, List.getElem?_append]
  have hl : (xs.take o).length = o := by rw [List.length_take]; omega
  rw [hl]
  split
  · rw [List.getElem?_take, if_pos (by omega)]
  · rw [List.getElem?_append]
    by_cases h2 : p < o + ys.length
    · rw [if_pos (by omega), if_pos h2]
    · rw [if_neg (by omega), if_neg h2, List.getElem?_drop]
      congr 1; omega

theorem mod2 {a m : Nat} (h : a < 2 * m) : a % m = if a < m then a else a - m := by
  split
  · exact Nat.mod_eq_of_lt (by assumption)
  · rw [Nat.mod_eq_sub_mod (by omega)]
    exact Nat.mod_eq_of_lt (by omega)

/-- s stands in the row xs, from fr on, round. -/
def Ring (xs : List UInt8) (fr : Nat) (s : List UInt8) : Prop := ∀ i, i < s.length → xs[(fr + i) % xs.length]? = s[i]?
theorem Ring.nil (xs : List UInt8) (fr : Nat) : Ring xs fr [] := fun i h => by simp at h

theorem Ring.put {xs s : List UInt8} {fr : Nat} (h : Ring xs fr s) (t : List UInt8) (hl : s.length + t.length ≤ xs.length) (hfr : fr < xs.length) :
    Ring (splice (splice xs ((fr + s.length) % xs.length) (t.take (xs.length - (fr + s.length) % xs.length))) 0 (t.drop (xs.length - (fr + s.length) % xs.length))) fr (s ++ t) := by
  obtain ⟨to, hto⟩ : ∃ to, to = (fr + s.length) % xs.length := ⟨_, rfl⟩
  rw [← hto]
  have hm := mod2 (a := fr + s.length) (m := xs.length) (by omega)
  rw [← hto] at hm
  have htm : to < xs.length := by rw [hto]; exact Nat.mod_lt _ (by omega)
  have hl1 : (t.take (xs.length - to)).length = min (xs.length - to) t.length := List.length_take
  have hl2 : (t.drop (xs.length - to)).length = t.length - (xs.length - to) := List.length_drop
  have hs1 := splice_length xs to (t.take (xs.length - to)) (by omega)
  have hs2 := splice_length (splice xs to (t.take (xs.length - to))) 0 (t.drop (xs.length - to)) (by omega)
  intro i hi
  rw [List.length_append] at hi
  rw [hs2, hs1]
  have hp := mod2 (a := fr + i) (m := xs.length) (by omega)
  by_cases h0 : i < s.length
  · have hi' := h i h0
    obtain ⟨p, hpe⟩ : ∃ p, p = (fr + i) % xs.length := ⟨_, rfl⟩
    rw [← hpe] at hi' hp ⊢
    rw [splice_at _ _ _ (by omega), splice_at _ _ _ (by omega), List.getElem?_append_left h0, ← hi']
    split at hm <;> split at hp <;> (rw [if_neg (by omega), if_neg (by omega)]; split; rfl; rw [if_neg (by omega)])
  · obtain ⟨p, hpe⟩ : ∃ p, p = (fr + i) % xs.length := ⟨_, rfl⟩
    rw [← hpe] at hp ⊢
    rw [splice_at _ _ _ (by omega), splice_at _ _ _ (by omega), List.getElem?_append_right (by omega), if_neg (by omega)]
    split at hm <;> split at hp
    · rw [if_neg (by omega), if_neg (by omega), if_pos (by omega), List.getElem?_take, if_pos (by omega)]; congr 1; omega
    · rw [if_pos (by omega), List.getElem?_drop]; congr 1; omega
    · omega
    · rw [if_neg (by omega), if_neg (by omega), if_pos (by omega), List.getElem?_take, if_pos (by omega)]; congr 1; omega

theorem Ring.peek {xs s : List UInt8} {fr n q : Nat} (h : Ring xs fr s) (hl : s.length ≤ xs.length) (hfr : fr < xs.length) (hn : n ≤ s.length) (hq : q ≤ n) (hq1 : q ≤ xs.length - fr) (hq2 : q = n ∨ q = xs.length - fr) :
    (xs.drop fr).take q ++ xs.take (n - q) = s.take n := by
  have h1 : ((xs.drop fr).take q).length = q := by rw [List.length_take, List.length_drop]; omega
  refine List.ext_getElem? fun i => ?_
  rw [List.getElem?_append, h1, List.getElem?_take, List.getElem?_take, List.getElem?_take, List.getElem?_drop]
  by_cases hi : i < n
  · rw [if_pos hi, ← h i (by omega), mod2 (by omega)]
    by_cases hc : fr + i < xs.length
    · rw [if_pos hc]
      have : i < q := by omega
      rw [if_pos this, if_pos this]
    · rw [if_neg hc, if_neg (by omega), if_pos (by omega)]; congr 1; omega
  · rw [if_neg hi, if_neg (by omega), if_neg (by omega)]

theorem Ring.take {xs s : List UInt8} {fr k : Nat} (h : Ring xs fr s) (hk : k ≤ s.length) : Ring xs ((fr + k) % xs.length) (s.drop k) := by
  intro i hi
  rw [List.length_drop] at hi
  rw [List.getElem?_drop, ← h (k + i) (by omega), Nat.mod_add_mod, Nat.add_assoc]
end Go.Proofs.Ytacglolggaobdaa.Qu
