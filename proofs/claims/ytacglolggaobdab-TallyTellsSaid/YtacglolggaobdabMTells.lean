/- The reference's Count comes to hist. Plain laws for TallyTells: the reference's Text, Fields and Heads come to what this session's texts say. -/
import Derived.Test.YtacglolggaobdabMHist
import Derived.Test.YtacglolggaobdabMTl
import Derived.Sort.Walk0
import Derived.Test.YtacglolggaobdabPAllx4
import Derived.Test.YtacglolggaobdabGtallyStatuses
import Derived.Test.YtacglolggaobdabGtallyMethods
import Derived.Test.YtacglolggaobdabGtallyFields
import Derived.Test.YtacglolggaobdabGabutmentref02Digits
import Derived.Test.YtacglolggaobdabPAllx4
import Derived.Test.YtacglolggaobdabPAllx5
import Derived.Test.YtacglolggaobdabPAllx4
import Derived.Test.YtacglolggaobdabPAllx3
section
namespace Go.Proofs.Ytacglolggaobdab.MT
open Go.RowKit Go.Proofs.Ytacglolggaobdab.PAll Go.Proofs.Ytacglolggaobdab.TL Go.Proofs.Ytacglolggaobdab.St Go.Sort Go.Proofs.YtacglolggaobdabW.PrintWords
set_option linter.unusedVariables false
set_option linter.unusedSimpArgs false

def bs (b : ByteArray) : List UInt8 := b.data.toList
def KB (l : List ByteArray) : List (List UInt8) := l.map bs
def cn (L : List ByteArray) (x : ByteArray) : Int := cntI (KB L) (bs x)
def r98 (r : S49) : S98 := ⟨r.f0, r.f1⟩
theorem bs_eq {a b : ByteArray} : a.toList = b.toList ↔ bs a = bs b := by rw [ByteArray.toList_eq, ByteArray.toList_eq]; rfl
theorem rdB (L : List ByteArray) (i : Nat) (h : i < L.length) : rdOf ByteArray.empty L (i : Int) = L[i] := by
  unfold rdOf
  rw [Int.toNat_natCast, List.getD_eq_getElem?_getD, List.getElem?_eq_getElem h]; rfl
theorem mk_bs (b : ByteArray) : (⟨(bs b).toArray⟩ : ByteArray) = b := by unfold bs; cases b; simp
theorem cn_mem {L : List ByteArray} {x : ByteArray} (h : x ∈ L) : 1 ≤ cn L x := by
  have : bs x ∈ KB L := List.mem_map.2 ⟨x, h, rfl⟩
  have := List.count_pos_iff.2 this
  unfold cn cntI; omega
theorem cn_le (L : List ByteArray) (x : ByteArray) : cn L x ≤ (L.length : Int) := by
  have := List.count_le_length (a := bs x) (l := KB L)
  unfold cn cntI
  have h2 : (KB L).length = L.length := List.length_map _
  omega

/-- is the i-th better than what is held? -/
def better (L : List ByteArray) (b : ByteArray) (m : Int) (x : ByteArray) : Bool := decide (cn L x > m) || (decide (cn L x = m) && decide (bs x < bs b))

theorem count_l2 (out : List S98) (L : List ByteArray) (b : ByteArray) (m : Int) (i : Nat) (hi : i < L.length) (hL : L.length ≤ 1000) (r : List S98)
    (hgo : Ev (fun n => abutmentref49_Count.j3 n out L b m (i : Int) (cn L L[i]) (better L b m L[i])) r) : ∀ (d j : Nat), L.length - j = d → j ≤ L.length →
    Ev (fun n => abutmentref49_Count.l2 n out L b m (i : Int) (((KB (L.take j)).count (bs L[i]) : Nat) : Int) (j : Int)) r := by
  have hrd := rdB L i hi
  intro d
  induction d with
  | zero =>
    intro j hd hj
    rw [List.take_of_length_le (by omega)]
    refine Ev.step (fun n => ?_) hgo
    show abutmentref49_Count.l2 (n + 1) out L b m (i : Int) (cn L L[i]) (j : Int) = _
    simp only [abutmentref49_Count.l2]
    rw [if_neg (by omega), hrd, bytesLess_eq, ByteArray.toList_eq, ByteArray.toList_eq]
    unfold better
    by_cases h1 : cn L L[i] > m
    · rw [if_pos h1, decide_eq_true h1, Bool.true_or]
    · rw [if_neg h1, decide_eq_false h1, Bool.false_or]
      by_cases h2 : cn L L[i] = m
      · rw [if_pos h2, if_pos (by omega), if_pos (by omega), decide_eq_true h2, Bool.true_and]; rfl
      · rw [if_neg h2, decide_eq_false h2, Bool.false_and]
  | succ d ih =>
    intro j hd hj
    have hjl : j < L.length := by omega
    have hrj := rdB L j hjl
    have hn := ih (j + 1) (by omega) (by omega)
    have hle : (KB (L.take j)).count (bs L[i]) ≤ 1000 := by
      have := List.count_le_length (a := bs L[i]) (l := KB (L.take j))
      have h2 : (KB (L.take j)).length = (L.take j).length := List.length_map _
      rw [List.length_take] at h2
      omega
    have hsn : (KB (L.take (j + 1))).count (bs L[i]) = (KB (L.take j)).count (bs L[i]) + if bs L[j] = bs L[i] then 1 else 0 := by
      rw [List.take_succ_eq_append_getElem hjl]
      unfold KB
      rw [List.map_append, List.count_append]
      congr 1
      rw [List.map_cons, List.map_nil, List.count_singleton]
      by_cases e : bs L[j] = bs L[i]
      · rw [if_pos e, e]; simp
      · rw [if_neg e]
        have : ¬ (bs L[j] == bs L[i]) = true := by simpa using e
        simp [this]
    rw [hsn] at hn
    refine Ev.step (fun n => ?_) hn
    simp only [abutmentref49_Count.l2]
    rw [if_pos (by omega), if_pos (by omega), if_pos (by omega), if_pos (by omega), hrd, hrj]
    by_cases e : bs L[j] = bs L[i]
    · rw [if_pos (bs_eq.2 e), if_pos e, w64 (by omega) (by omega), w64 (by omega) (by omega)]; rfl
    · rw [if_neg (fun q => e (bs_eq.1 q)), if_neg e, w64 (by omega) (by omega)]; rfl

/-- what the scan holds behind i -/
def Inv (L : List ByteArray) (i : Nat) (b : ByteArray) (m : Int) : Prop :=
  (i = 0 ∧ m = 0) ∨ (b ∈ L.take i ∧ m = cn L b ∧ ∀ x ∈ L.take i, bs x ≠ bs b → Rr (toR (bs b, cn L b)) (toR (bs x, cn L x)))
theorem Inv.next {L : List ByteArray} {i : Nat} {b : ByteArray} {m : Int} (h : Inv L i b m) (hi : i < L.length) : if better L b m L[i] = true then Inv L (i + 1) L[i] (cn L L[i]) else Inv L (i + 1) b m := by
  have ht := List.take_succ_eq_append_getElem hi
  have hpos := cn_mem (L := L) (List.getElem_mem hi)
  rcases h with ⟨rfl, rfl⟩ | ⟨h1, rfl, h3⟩
  · have : better L b 0 L[0] = true := by
      unfold better
      rw [decide_eq_true (by omega), Bool.true_or]
    rw [if_pos this]
    refine Or.inr ⟨by rw [ht]; exact List.mem_append_right _ (List.mem_singleton.2 rfl), rfl, fun x hx hne => ?_⟩
    rw [ht] at hx
    simp at hx
    exact absurd (by rw [hx]) hne
  · by_cases c : better L b (cn L b) L[i] = true
    · rw [if_pos c]
      have hR : Rr (toR (bs L[i], cn L L[i])) (toR (bs b, cn L b)) := by
        unfold better at c
        simp at c
        rcases c with c | ⟨c1, c2⟩
        · exact Or.inl c
        · exact Or.inr ⟨c1, c2⟩
      refine Or.inr ⟨by rw [ht]; exact List.mem_append_right _ (List.mem_singleton.2 rfl), rfl, fun x hx hne => ?_⟩
      rw [ht] at hx
      rcases List.mem_append.1 hx with hx | hx
      · by_cases e : bs x = bs b
        · unfold cn at hR ⊢
          rw [e]; exact hR
        · have h4 := h3 x hx e
          rcases hR with r1 | ⟨r1, r2⟩ <;> rcases h4 with q1 | ⟨q1, q2⟩
          · exact Or.inl (Int.lt_trans q1 r1)
          · exact Or.inl (by rw [← q1]; exact r1)
          · exact Or.inl (by rw [r1]; exact q1)
          · exact Or.inr ⟨r1.trans q1, List.lt_trans r2 q2⟩
      · simp at hx
        exact absurd (by rw [hx]) hne
    · rw [if_neg c]
      refine Or.inr ⟨by rw [ht]; exact List.mem_append_left _ h1, rfl, fun x hx hne => ?_⟩
      rw [ht] at hx
      rcases List.mem_append.1 hx with hx | hx
      · exact h3 x hx hne
      · simp at hx
        subst hx
        unfold better at c
        simp at c
        obtain ⟨c1, c2⟩ := c
        by_cases e : cn L L[i] = cn L b
        · exact Or.inr ⟨e.symm, lt_of_not (c2 e) hne⟩
        · exact Or.inl (by show cn L L[i] < cn L b; omega)

theorem count_l1 (out : List S98) (L : List ByteArray) (hL : L.length ≤ 1000) (r : List S98) (hgo : ∀ b m, Inv L L.length b m → Ev (fun n => abutmentref49_Count.l3 n out L b m [] 0) r) : ∀ (d i : Nat) (b : ByteArray) (m : Int), L.length - i = d → i ≤ L.length → Inv L i b m →
    Ev (fun n => abutmentref49_Count.l1 n out L b m (i : Int)) r := by
  intro d
  induction d with
  | zero =>
    intro i b m hd hi hI
    obtain rfl : i = L.length := by omega
    refine Ev.step (fun n => ?_) (hgo b m hI)
    simp only [abutmentref49_Count.l1]
    rw [if_neg (by omega)]
  | succ d ih =>
    intro i b m hd hi hI
    have hil : i < L.length := by omega
    have hrd := rdB L i hil
    have hnx := hI.next hil
    refine Ev.step (f := fun n => abutmentref49_Count.l2 n out L b m (i : Int) (((KB (L.take 0)).count (bs L[i]) : Nat) : Int) ((0 : Nat) : Int)) (fun n => ?_) (count_l2 out L b m i hil hL r ?_ _ 0 rfl (by omega))
    · simp only [abutmentref49_Count.l1]
      rw [if_pos (by omega)]; simp [KB]
    · by_cases c : better L b m L[i] = true
      · rw [if_pos c] at hnx
        rw [c]
        refine Ev.step (fun n => ?_) (ih (i + 1) _ _ (by omega) (by omega) hnx)
        simp only [abutmentref49_Count.j3]
        rw [if_pos trivial, if_pos (by omega), if_pos (by omega), hrd, w64 (by omega) (by omega)]; rfl
      · rw [if_neg c] at hnx
        have c' : better L b m L[i] = false := by simpa using c
        rw [c']
        refine Ev.step (fun n => ?_) (ih (i + 1) _ _ (by omega) (by omega) hnx)
        simp only [abutmentref49_Count.j3]
        rw [if_neg (by simp), w64 (by omega) (by omega)]; rfl

def others (L : List ByteArray) (b : ByteArray) : List ByteArray := L.filter (fun x => decide (bs x ≠ bs b))
theorem count_l3 (out : List S98) (L : List ByteArray) (hL : L.length ≤ 1000) (ho : out.length ≤ 1000) (b : ByteArray) (m : Int) (r : List S98) (hgo : Ev (fun n => abutmentref49_Count.l0 n (out ++ [⟨b, m⟩]) (others L b)) r) : ∀ (d j : Nat), L.length - j = d → j ≤ L.length →
    Ev (fun n => abutmentref49_Count.l3 n out L b m (others (L.take j) b) (j : Int)) r := by
  intro d
  induction d with
  | zero =>
    intro j hd hj
    rw [List.take_of_length_le (by omega)]
    refine Ev.step (fun n => ?_) hgo
    simp only [abutmentref49_Count.l3]
    rw [if_neg (by omega), if_pos (by omega)]
  | succ d ih =>
    intro j hd hj
    have hjl : j < L.length := by omega
    have hrj := rdB L j hjl
    have hn := ih (j + 1) (by omega) (by omega)
    have hle : (others (L.take j) b).length ≤ 1000 := by
      unfold others
      refine Nat.le_trans (List.length_filter_le _ _) ?_
      rw [List.length_take]; omega
    have ht := List.take_succ_eq_append_getElem hjl
    by_cases e : bs L[j] = bs b
    · have : others (L.take (j + 1)) b = others (L.take j) b := by
        rw [ht]; unfold others
        rw [List.filter_append, List.filter_cons_of_neg (by simpa using e), List.filter_nil, List.append_nil]
      rw [this] at hn
      refine Ev.step (fun n => ?_) hn
      simp only [abutmentref49_Count.l3]
      rw [if_pos (by omega), if_pos (by omega), hrj, if_pos (bs_eq.2 e), w64 (by omega) (by omega)]; rfl
    · have : others (L.take (j + 1)) b = others (L.take j) b ++ [L[j]] := by
        rw [ht]; unfold others
        rw [List.filter_append, List.filter_cons_of_pos (by simpa using e), List.filter_nil]
      rw [this] at hn
      refine Ev.step (fun n => ?_) hn
      simp only [abutmentref49_Count.l3]
      rw [if_pos (by omega), if_pos (by omega), hrj, if_neg (fun q => e (bs_eq.1 q)), if_pos (by omega), w64 (by omega) (by omega)]; rfl

theorem KB_others (L : List ByteArray) (b : ByteArray) : KB (others L b) = (KB L).filter (fun k => decide (k ≠ bs b)) := by
  unfold KB others
  rw [List.filter_map]; rfl

theorem count_l0 : ∀ (N : Nat) (L : List ByteArray) (out : List S98), L.length ≤ N → L.length ≤ 1000 → out.length + L.length ≤ 1000 → Ev (fun n => abutmentref49_Count.l0 n out L) (out ++ (hist (KB L)).map r98) := by
  intro N
  induction N with
  | zero =>
    intro L out hN hL ho
    obtain rfl : L = [] := List.eq_nil_of_length_eq_zero (by omega)
    refine Ev.step (f := fun _ => some out) (fun n => ?_) ?_
    · simp only [abutmentref49_Count.l0]; rfl
    · have : hist (KB []) = [] := rfl
      rw [this, List.map_nil, List.append_nil]; exact Ev.now _
  | succ N ih =>
    intro L out hN hL ho
    cases hq : L with
    | nil =>
      refine Ev.step (f := fun _ => some out) (fun n => ?_) ?_
      · simp only [abutmentref49_Count.l0]; rfl
      · have : hist (KB []) = [] := rfl
        rw [this, List.map_nil, List.append_nil]; exact Ev.now _
    | cons y ys =>
      rw [← hq]
      have hl1 : 1 ≤ L.length := by rw [hq]; simp
      refine Ev.step (f := fun n => abutmentref49_Count.l1 n out L ⟨#[]⟩ 0 ((0 : Nat) : Int)) (fun n => ?_) (count_l1 out L hL _ ?_ _ 0 _ _ rfl (by omega) (Or.inl ⟨rfl, rfl⟩))
      · simp only [abutmentref49_Count.l0]
        rw [if_pos (by omega)]; rfl
      · rintro b m (⟨h0, _⟩ | ⟨h1, rfl, h3⟩)
        · omega
        · rw [List.take_of_length_le (Nat.le_refl _)] at h1 h3
          have hb : bs b ∈ KB L := List.mem_map.2 ⟨b, h1, rfl⟩
          have hc := hist_cons (KB L) (bs b) hb (fun k hk hne => by
            obtain ⟨x, hx, rfl⟩ := List.mem_map.1 hk
            exact h3 x hx hne)
          have hlt : (others L b).length < L.length := by
            unfold others
            exact List.length_filter_lt_length_iff_exists.2 ⟨b, h1, by simp⟩
          have hr := ih (others L b) (out ++ [⟨b, cn L b⟩]) (by omega) (by omega) (by rw [List.length_append]; simp; omega)
          rw [KB_others] at hr
          have e : out ++ (hist (KB L)).map r98 = (out ++ [⟨b, cn L b⟩]) ++ (hist ((KB L).filter (fun k => decide (k ≠ bs b)))).map r98 := by
            rw [hc, List.map_cons, List.append_assoc]
            congr 2
          rw [e]
          exact count_l3 out L hL (by omega) b _ _ hr _ 0 rfl (by omega)

theorem count_comes (L : List ByteArray) (hL : L.length ≤ 1000) : Ev (fun n => abutmentref49_Count.f n L) ((hist (KB L)).map r98) := by
  unfold abutmentref49_Count.f
  refine Ev.congr (f := fun n => abutmentref49_Count.l0 n [] L) (fun n => ?_) (by simpa using count_l0 L.length L [] (Nat.le_refl _) hL (by simp; omega))
  simp only [Option.bind_some, List.length_nil, List.nil_append]
  rw [if_pos (by omega)]
end Go.Proofs.Ytacglolggaobdab.MT
end

section
namespace Go.Proofs.Ytacglolggaobdab.MT
open Go.RowKit Go.Proofs.Ytacglolggaobdab.PAll Go.Proofs.Ytacglolggaobdab.Hn Go.Proofs.Ytacglolggaobdab.TL Go.Proofs.Ytacglolggaobdab.St Go.Proofs.YtacglolggaobdabW.PrintWords
set_option linter.unusedVariables false
set_option linter.unusedSimpArgs false

theorem figFrom_len (b : Nat) (hb : 2 ≤ b) : ∀ (k m : Nat) (ys : List UInt8), m < 2 ^ k → (figFrom b m ys).length ≤ k + ys.length
  | 0, m, ys, h => by
    obtain rfl : m = 0 := by simpa using h
    rw [figFrom_done]; omega
  | k + 1, m, ys, h => by
    by_cases hm : m = 0
    · subst hm; rw [figFrom_done]; omega
    · rw [figFrom_more b m ys hb hm]
      have h1 : m / b ≤ m / 2 := Nat.div_le_div_left hb (by decide)
      have := figFrom_len b hb k (m / b) (sgn (m % b) :: ys) (by rw [Nat.pow_succ] at h; omega)
      simp only [List.length_cons] at this
      omega
theorem figs_len (b m : Nat) (hb : 2 ≤ b) (hm : m ≤ 9223372036854775808) : (figs b m).length ≤ 65 := by
  have h1 : m / b ≤ m := Nat.div_le_self _ _
  have := figFrom_len b hb 64 (m / b) [sgn (m % b)] (by have : (2 : Nat) ^ 64 = 18446744073709551616 := by decide
                                                        omega)
  simpa [figs] using this


def tx (n : Int) : List UInt8 := if n < 0 then 45 :: figs 10 n.natAbs else figs 10 n.natAbs
theorem rtext_is (n : Int) (h0 : -9223372036854775808 ≤ n) (h1 : n ≤ 9223372036854775807) : abutmentref02_Text.f n = some ⟨(tx n).toArray⟩ := by
  unfold abutmentref02_Text.f tx
  by_cases hn : n < 0
  · rw [if_pos hn, if_pos hn]
    have e : IntKind.u64.wrap ((IntKind.u64.wrap (wrap64 (-(wrap64 (n + 1))))) + 1) = ((n.natAbs : Nat) : Int) := by
      have w1 : wrap64 (n + 1) = n + 1 := w64 (by omega) (by omega)
      have w2 : wrap64 (-(n + 1)) = -(n + 1) := w64 (by omega) (by omega)
      rw [w1, w2]
      simp [IntKind.wrap, IntKind.bits, IntKind.signed]; omega
    rw [e]
    have ed : abutmentref02_Digits.f ((n.natAbs : Nat) : Int) 10 = some ⟨(figs 10 n.natAbs).toArray⟩ := by
      unfold abutmentref02_Digits.f
      rw [if_pos ⟨by decide, by decide, by omega, by omega⟩, Int.toNat_natCast]; rfl
    have hf := figs_len 10 n.natAbs (by decide) (by omega)
    rw [ed, Option.bind_some, if_pos (by have e : (⟨(figs 10 n.natAbs).toArray⟩ : ByteArray).size = (figs 10 n.natAbs).length := by simp [ByteArray.size]
                                         rw [e]; omega)]
    congr 1
  · rw [if_neg hn, if_neg hn]
    have e : IntKind.u64.wrap n = ((n.natAbs : Nat) : Int) := by simp [IntKind.wrap, IntKind.bits, IntKind.signed]; omega
    rw [e]
    unfold abutmentref02_Digits.f
    rw [if_pos ⟨by decide, by decide, by omega, by omega⟩, Int.toNat_natCast]; rfl
theorem dtext_is (n : Int) (h0 : -9223372036854775808 ≤ n) (h1 : n ≤ 9223372036854775807) : digits_Text.f n = some ⟨(tx n).toArray⟩ := by
  have ed : digits_figures.f n 10 = some ⟨(figs 10 n.natAbs).toArray⟩ := by
    unfold digits_figures.f
    rw [if_pos ⟨by decide, by decide, by omega, by omega⟩]; rfl
  have hf := figs_len 10 n.natAbs (by decide) (by omega)
  unfold digits_Text.f tx
  rw [ed]
  by_cases hn : n < 0
  · rw [if_pos hn, if_pos hn, Option.bind_some, if_pos (by have e : (⟨(figs 10 n.natAbs).toArray⟩ : ByteArray).size = (figs 10 n.natAbs).length := by simp [ByteArray.size]
                                                           rw [e]; omega)]
    congr 1
  · rw [if_neg hn, if_neg hn, Option.bind_some]
theorem tx_len (n : Int) (h0 : -9223372036854775808 ≤ n) (h1 : n ≤ 9223372036854775807) : (tx n).length ≤ 66 := by
  have hf := figs_len 10 n.natAbs (by decide) (by omega)
  unfold tx
  split
  · rw [List.length_cons]; omega
  · omega
theorem w64_in (x : Int) : -9223372036854775808 ≤ wrap64 x ∧ wrap64 x ≤ 9223372036854775807 := by unfold wrap64; omega

/-! ### Fields -/
def lowB (l : List S83) : List ByteArray := l.map (fun x => ⟨(lowL x.f0).toArray⟩)
theorem KB_lowB (l : List S83) : KB (lowB l) = lowKeys l := by
  unfold KB lowB lowKeys
  rw [List.map_map]; rfl
theorem rfields_l0 (l : List S83) (hl : l.length ≤ 1000) (hs : ∀ x ∈ l, x.f0.size ≤ 1000000) : ∀ (d i : Nat), l.length - i = d → i ≤ l.length → Ev (fun n => abutmentref49_Fields.l0 n l (lowB (l.take i)) (i : Int)) ((hist (lowKeys l)).map r98) := by
  intro d
  induction d with
  | zero =>
    intro i hd hi
    rw [List.take_of_length_le (by omega)]
    have := count_comes (lowB l) (by unfold lowB; rw [List.length_map]; exact hl)
    rw [KB_lowB] at this
    refine Ev.step (f := fun n => (abutmentref49_Count.f n (lowB l)).bind fun t => some t) (fun n => ?_) (Ev.bind this (Ev.now _))
    simp only [abutmentref49_Fields.l0]
    rw [if_neg (by omega)]
  | succ d ih =>
    intro i hd hi
    have hil : i < l.length := by omega
    have hrd := rd_at l i hil
    have hn := ih (i + 1) (by omega) (by omega)
    have ht : lowB (l.take (i + 1)) = lowB (l.take i) ++ [⟨(lowL l[i].f0).toArray⟩] := by
      unfold lowB; rw [List.take_succ_eq_append_getElem hil, List.map_append]; rfl
    have hle : (lowB (l.take i)).length ≤ 1000 := by unfold lowB; rw [List.length_map, List.length_take]; omega
    rw [ht] at hn
    refine Ev.step (f := fun n => (abutmentref01_Lower.f n l[i].f0).bind fun t => abutmentref49_Fields.l0 n l (lowB (l.take i) ++ [t]) ((i + 1 : Nat) : Int)) (fun n => ?_) (Ev.bind (lower_comes l[i].f0 (hs _ (List.getElem_mem _))) hn)
    simp only [abutmentref49_Fields.l0]
    rw [if_pos (by omega), if_pos (by omega), hrd, w64 (by omega) (by omega)]
    congr 1
    funext t
    rw [if_pos (by omega)]; rfl
theorem rfields_comes (l : List S83) (hl : l.length ≤ 1000) (hs : ∀ x ∈ l, x.f0.size ≤ 1000000) : Ev (fun n => abutmentref49_Fields.f n l) ((hist (lowKeys l)).map r98) := by
  unfold abutmentref49_Fields.f
  have := rfields_l0 l hl hs _ 0 rfl (by omega)
  simpa [lowB] using this

/-! ### same -/
theorem rd98 (l : List S98) (i : Nat) (h : i < l.length) : rd_T98 l (i : Int) = l[i] := by
  unfold rd_T98
  rw [Int.toNat_natCast, List.getD_eq_getElem?_getD, List.getElem?_eq_getElem h]; rfl
theorem same_l0 (H : List S49) (hl : H.length ≤ 1000) : ∀ (d i : Nat), H.length - i = d → i ≤ H.length → Ev (fun n => abutmentlaw49_same.l0 n H (H.map r98) (H.length : Int) (i : Int)) true := by
  intro d
  induction d with
  | zero =>
    intro i hd hi
    refine Ev.step (f := fun _ => some true) (fun n => ?_) (Ev.now _)
    simp only [abutmentlaw49_same.l0]
    rw [if_neg (by omega)]
  | succ d ih =>
    intro i hd hi
    have hil : i < H.length := by omega
    have hr1 := rd49 H i hil
    have hr2 := rd98 (H.map r98) i (by rw [List.length_map]; exact hil)
    have hl2 : (H.map r98).length = H.length := List.length_map _
    rw [List.getElem_map] at hr2
    refine Ev.step (f := fun n => abutmentlaw49_same.l0 n H (H.map r98) (H.length : Int) ((i + 1 : Nat) : Int)) (fun n => ?_) (ih (i + 1) (by omega) (by omega))
    simp only [abutmentlaw49_same.l0]
    rw [if_pos (by omega), if_pos (by omega), if_pos (by omega), if_pos (by omega), hr1, hr2, if_pos (show H[i].f0.toList = (r98 H[i]).f0.toList from rfl), if_pos (show H[i].f1 = (r98 H[i]).f1 from rfl), w64 (by omega) (by omega)]; rfl
theorem same_comes (H : List S49) (hl : H.length ≤ 1000) : Ev (fun n => abutmentlaw49_same.f n H (H.map r98)) true := by
  unfold abutmentlaw49_same.f
  exact Ev.congr (f := fun n => abutmentlaw49_same.l0 n H (H.map r98) (H.length : Int) ((0 : Nat) : Int)) (fun n => by rw [if_pos (by rw [List.length_map])]; rfl) (same_l0 H hl _ 0 rfl (by omega))

/-! ### Heads -/
theorem rd56 (l : List S56) (i : Nat) (h : i < l.length) : rd_T56 l (i : Int) = l[i] := by
  unfold rd_T56
  rw [Int.toNat_natCast, List.getD_eq_getElem?_getD, List.getElem?_eq_getElem h]; rfl
theorem size_nil (b : ByteArray) : b.toList = [] ↔ b.size = 0 := by
  rw [ByteArray.toList_eq]
  show b.data.toList = [] ↔ b.data.size = 0
  rw [← Array.length_toList, List.length_eq_zero_iff]
def mB (l : List S56) : List ByteArray := (l.filter (fun x => decide (x.f0.f0.size ≠ 0))).map (fun x => x.f0.f0)
def cls (x : S56) : ByteArray := (stText x.f0.f3).getD ByteArray.empty ++ ⟨#[120, 120]⟩
def sB (l : List S56) : List ByteArray := (l.filter (fun x => decide (x.f0.f0.size = 0))).map cls
theorem KB_mB (l : List S56) : KB (mB l) = methKeys l := by
  unfold KB mB methKeys
  rw [List.map_map]; rfl
theorem KB_sB (l : List S56) : KB (sB l) = stKeys l := by
  unfold KB sB stKeys
  rw [List.map_map]
  refine List.map_congr_left fun x _ => ?_
  show bs (cls x) = _
  unfold bs cls clsOf
  simp
def kB (m : Bool) (l : List S56) : List ByteArray := if m then mB l else sB l
theorem kB_len (m : Bool) (l : List S56) : (kB m l).length ≤ l.length := by
  unfold kB mB sB
  split <;> (rw [List.length_map]; exact List.length_filter_le _ _)
theorem heads_l0 (m : Bool) (l : List S56) (hl : l.length ≤ 1000) : ∀ (d i : Nat), l.length - i = d → i ≤ l.length → Ev (fun n => abutmentref49_Heads.l0 n l m (kB m (l.take i)) (i : Int)) ((hist (KB (kB m l))).map r98) := by
  intro d
  induction d with
  | zero =>
    intro i hd hi
    rw [List.take_of_length_le (by omega)]
    refine Ev.step (f := fun n => (abutmentref49_Count.f n (kB m l)).bind fun t => some t) (fun n => ?_) (Ev.bind (count_comes (kB m l) (Nat.le_trans (kB_len m l) hl)) (Ev.now _))
    simp only [abutmentref49_Heads.l0]
    rw [if_neg (by omega)]
  | succ d ih =>
    intro i hd hi
    have hil : i < l.length := by omega
    have hrd := rd56 l i hil
    have hn := ih (i + 1) (by omega) (by omega)
    have hle := kB_len m (l.take i)
    rw [List.length_take] at hle
    have ht := List.take_succ_eq_append_getElem hil
    cases m with
    | true =>
      by_cases e : l[i].f0.f0.size = 0
      · have hk : kB true (l.take (i + 1)) = kB true (l.take i) := by
          show mB _ = mB _
          rw [ht]; unfold mB
          rw [List.filter_append, List.filter_cons_of_neg (by simpa using e), List.filter_nil, List.append_nil]
        rw [hk] at hn
        refine Ev.step (f := fun n => abutmentref49_Heads.j1 n l true (kB true (l.take i)) (i : Int) false l[i].f0.f0 l[i].f0.f1 l[i].f0.f2 l[i].f0.f3 l[i].f0.f4 l[i].f0.f5) (fun n => ?_) ?_
        · simp only [abutmentref49_Heads.l0]
          rw [if_pos (by omega), if_pos (by omega), if_pos trivial, hrd, (size_nil _).2 e]; rfl
        · refine Ev.step (f := fun n => abutmentref49_Heads.j2 n l true (kB true (l.take i)) (i : Int) l[i].f0.f0 l[i].f0.f1 l[i].f0.f2 l[i].f0.f3 l[i].f0.f4 l[i].f0.f5) (fun n => ?_) ?_
          · simp only [abutmentref49_Heads.j1]
            rw [if_neg (by simp)]
          · refine Ev.step (fun n => ?_) hn
            simp only [abutmentref49_Heads.j2]
            rw [if_pos trivial, w64 (by omega) (by omega)]; rfl
      · have hk : kB true (l.take (i + 1)) = kB true (l.take i) ++ [l[i].f0.f0] := by
          show mB _ = mB _ ++ _
          rw [ht]; unfold mB
          rw [List.filter_append, List.map_append, List.filter_cons_of_pos (by simpa using e), List.filter_nil]; rfl
        rw [hk] at hn
        have hne : (l[i].f0.f0.toList != []) = true := by
          rw [bne_iff_ne]; exact fun q => e ((size_nil _).1 q)
        refine Ev.step (f := fun n => abutmentref49_Heads.j1 n l true (kB true (l.take i)) (i : Int) true l[i].f0.f0 l[i].f0.f1 l[i].f0.f2 l[i].f0.f3 l[i].f0.f4 l[i].f0.f5) (fun n => ?_) ?_
        · simp only [abutmentref49_Heads.l0]
          rw [if_pos (by omega), if_pos (by omega), if_pos trivial, hrd, hne]
        · refine Ev.step (f := fun n => abutmentref49_Heads.j2 n l true (kB true (l.take i) ++ [l[i].f0.f0]) (i : Int) l[i].f0.f0 l[i].f0.f1 l[i].f0.f2 l[i].f0.f3 l[i].f0.f4 l[i].f0.f5) (fun n => ?_) ?_
          · simp only [abutmentref49_Heads.j1]
            rw [if_pos trivial, if_pos (by omega)]
          · refine Ev.step (fun n => ?_) hn
            simp only [abutmentref49_Heads.j2]
            rw [if_pos trivial, w64 (by omega) (by omega)]; rfl
    | false =>
      have hgo : Ev (fun n => abutmentref49_Heads.j2 n l false (kB false (l.take i)) (i : Int) l[i].f0.f0 l[i].f0.f1 l[i].f0.f2 l[i].f0.f3 l[i].f0.f4 l[i].f0.f5) ((hist (KB (kB false l))).map r98) := by
        by_cases e : l[i].f0.f0.size = 0
        · have hk : kB false (l.take (i + 1)) = kB false (l.take i) ++ [cls l[i]] := by
            show sB _ = sB _ ++ _
            rw [ht]; unfold sB
            rw [List.filter_append, List.map_append, List.filter_cons_of_pos (by simpa using e), List.filter_nil]; rfl
          rw [hk] at hn
          obtain ⟨q0, q1⟩ := w64_in (Int.tdiv l[i].f0.f3 100)
          have hx := tx_len _ q0 q1
          have hc : cls l[i] = (⟨(tx (wrap64 (Int.tdiv l[i].f0.f3 100))).toArray⟩ : ByteArray) ++ ⟨#[120, 120]⟩ := by
            unfold cls stText
            rw [dtext_is _ q0 q1]; rfl
          rw [hc] at hn
          refine Ev.step (fun n => ?_) hn
          simp only [abutmentref49_Heads.j2]
          rw [if_neg (by simp), if_pos ((size_nil _).2 e), rtext_is _ q0 q1, Option.bind_some, if_pos (by show (tx _).toArray.size + 2 ≤ _; rw [List.size_toArray]; omega), if_pos (by omega), w64 (x := (i : Int) + 1) (by omega) (by omega)]; rfl
        · have hk : kB false (l.take (i + 1)) = kB false (l.take i) := by
            show sB _ = sB _
            rw [ht]; unfold sB
            rw [List.filter_append, List.filter_cons_of_neg (by simpa using e), List.filter_nil, List.append_nil]
          rw [hk] at hn
          refine Ev.step (fun n => ?_) hn
          simp only [abutmentref49_Heads.j2]
          rw [if_neg (by simp), if_neg (fun q => e ((size_nil _).1 q)), w64 (by omega) (by omega)]; rfl
      refine Ev.step (f := fun n => abutmentref49_Heads.j1 n l false (kB false (l.take i)) (i : Int) false l[i].f0.f0 l[i].f0.f1 l[i].f0.f2 l[i].f0.f3 l[i].f0.f4 l[i].f0.f5) (fun n => ?_) ?_
      · simp only [abutmentref49_Heads.l0]
        rw [if_pos (by omega), if_pos (by omega), if_neg (by simp), hrd]
      · refine Ev.step (fun n => ?_) hgo
        simp only [abutmentref49_Heads.j1]
        rw [if_neg (by simp)]
theorem heads_comes (m : Bool) (l : List S56) (hl : l.length ≤ 1000) : Ev (fun n => abutmentref49_Heads.f n l m) ((hist (KB (kB m l))).map r98) := by
  unfold abutmentref49_Heads.f
  have h0 : kB m [] = [] := by cases m <;> rfl
  have := heads_l0 m l hl _ 0 rfl (by omega)
  rw [List.take_zero, h0] at this
  exact this
theorem okS_all (x : S56) : okS x = true := by
  obtain ⟨q0, q1⟩ := w64_in (Int.tdiv x.f0.f3 100)
  have hx := tx_len _ q0 q1
  unfold okS stText
  rw [dtext_is _ q0 q1]
  exact decide_eq_true (by show (tx _).toArray.size ≤ _; rw [List.size_toArray]; omega)
end Go.Proofs.Ytacglolggaobdab.MT
end
