/- Plain law: a stable sort. What the exchange of two neighbouring stretches does to a row; what the merge of two sorted stretches gives; the one stable order of a list. -/
import Derived.Sort.LotA
namespace Go.Proofs.Ytacglolggaobdab.St
open Go.Sort
set_option linter.unusedVariables false
set_option linter.unusedSectionVars false
variable {α : Type} [Inhabited α] {lt : α → α → Bool}

/-- x and y are not parted by the order. -/
def eqv (lt : α → α → Bool) (x y : α) : Bool := !lt x y && !lt y x
theorem eqv_self (hS : SWO lt) (x : α) : eqv lt x x = true := by simp [eqv, hS.irrefl]
theorem eqv_lt (hS : SWO lt) {x u v : α} (h : lt v u = true) (hu : eqv lt x u = true) : eqv lt x v = false := by
  cases hv : eqv lt x v with
  | false => rfl
  | true =>
    simp only [eqv, Bool.and_eq_true, Bool.not_eq_true'] at hu hv
    have := hS.ntrans v x u hv.2 hu.1
    rw [h] at this
    exact this

def rot (f : Nat → α) (a m b : Nat) (t : Nat) : α := if a ≤ t ∧ t < a + (b - m) then f (t + (m - a)) else if a + (b - m) ≤ t ∧ t < b then f (t - (b - m)) else f t

structure Mv (lt : α → α → Bool) (a b : Nat) (d d' : Array α) : Prop where
  size : d'.size = d.size
  out : ∀ t, (t < a ∨ b ≤ t) → d'[t]! = d[t]!
  inn : ∀ t, a ≤ t → t < b → ∃ s, a ≤ s ∧ s < b ∧ d'[t]! = d[s]!
  filt : ∀ x, d'.toList.filter (eqv lt x) = d.toList.filter (eqv lt x)

theorem Mv.refl (a b : Nat) (d : Array α) : Mv lt a b d d := ⟨rfl, fun _ _ => rfl, fun t h1 h2 => ⟨t, h1, h2, rfl⟩, fun _ => rfl⟩
theorem Mv.trans {a b : Nat} {d d' d'' : Array α} (h : Mv lt a b d d') (h' : Mv lt a b d' d'') : Mv lt a b d d'' :=
  ⟨h'.size.trans h.size, fun t ht => (h'.out t ht).trans (h.out t ht), fun t h1 h2 => by
    obtain ⟨s, s1, s2, e⟩ := h'.inn t h1 h2
    obtain ⟨r, r1, r2, e'⟩ := h.inn s s1 s2
    exact ⟨r, r1, r2, e.trans e'⟩, fun x => (h'.filt x).trans (h.filt x)⟩
theorem Mv.wide {a b a' b' : Nat} {d d' : Array α} (h : Mv lt a b d d') (ha : a' ≤ a) (hb : b ≤ b') : Mv lt a' b' d d' :=
  ⟨h.size, fun t ht => h.out t (by omega), fun t h1 h2 => by
    by_cases hc : a ≤ t ∧ t < b
    · obtain ⟨s, s1, s2, e⟩ := h.inn t hc.1 hc.2
      exact ⟨s, by omega, by omega, e⟩
    · exact ⟨t, h1, h2, h.out t (by omega)⟩, h.filt⟩

theorem get?_at (d : Array α) (t : Nat) : d.toList[t]? = if t < d.size then some d[t]! else none := by
  by_cases h : t < d.size
  · rw [if_pos h, Array.getElem?_toList, getElem!_pos d t h, Array.getElem?_eq_getElem h]
  · rw [if_neg h, Array.getElem?_toList, Array.getElem?_eq_none (by omega)]

theorem parts (L : List α) (a m b : Nat) (ham : a ≤ m) (hmb : m ≤ b) : L = L.take a ++ ((L.drop a).take (m - a) ++ (L.drop m).take (b - m)) ++ L.drop b := by
  have h1 : (L.drop a).take (m - a) ++ (L.drop m).take (b - m) = (L.drop a).take (b - a) := by
    have : L.drop m = (L.drop a).drop (m - a) := by rw [List.drop_drop]; congr 1; omega
    rw [this, show b - a = (m - a) + (b - m) by omega, List.take_add]
  have h2 : L.drop b = (L.drop a).drop (b - a) := by rw [List.drop_drop]; congr 1; omega
  rw [h1, h2, List.append_assoc, List.take_append_drop, List.take_append_drop]

theorem rot_list {d d' : Array α} {a m b : Nat} (hs : d'.size = d.size) (ham : a ≤ m) (hmb : m ≤ b) (hb : b ≤ d.size) (hr : ∀ t, t < d.size → d'[t]! = rot (fun t => d[t]!) a m b t) :
    d'.toList = d.toList.take a ++ ((d.toList.drop m).take (b - m) ++ (d.toList.drop a).take (m - a)) ++ d.toList.drop b := by
  have hl : d.toList.length = d.size := by simp
  have l1 : (d.toList.take a).length = a := by rw [List.length_take]; omega
  have l2 : ((d.toList.drop m).take (b - m)).length = b - m := by rw [List.length_take, List.length_drop]; omega
  have l3 : ((d.toList.drop a).take (m - a)).length = m - a := by rw [List.length_take, List.length_drop]; omega
  refine List.ext_getElem? fun t => ?_
  rw [get?_at, hs]
  by_cases c1 : t < a
  · rw [List.append_assoc, List.getElem?_append_left (by omega), List.getElem?_take_of_lt c1, get?_at, if_pos (by omega), if_pos (by omega), hr t (by omega)]
    simp only [rot]
    rw [if_neg (by omega), if_neg (by omega)]
  · rw [List.append_assoc, List.getElem?_append_right (by omega), l1]
    by_cases c2 : t < a + (b - m)
    · rw [List.append_assoc, List.getElem?_append_left (by omega), List.getElem?_take_of_lt (by omega), List.getElem?_drop, get?_at, if_pos (by omega), if_pos (by omega), hr t (by omega)]
      simp only [rot]
      rw [if_pos (by omega)]
      congr 2; omega
    · rw [List.append_assoc, List.getElem?_append_right (by omega), l2]
      by_cases c3 : t < b
      · rw [List.getElem?_append_left (by omega), List.getElem?_take_of_lt (by omega), List.getElem?_drop, get?_at, if_pos (by omega), if_pos (by omega), hr t (by omega)]
        simp only [rot]
        rw [if_neg (by omega), if_pos (by omega)]
        congr 2; omega
      · rw [List.getElem?_append_right (by omega), l3, List.getElem?_drop, get?_at, show b + (t - a - (b - m) - (m - a)) = t by omega]
        by_cases c4 : t < d.size
        · rw [if_pos c4, if_pos c4, hr t c4]
          simp only [rot]
          rw [if_neg (by omega), if_neg (by omega)]
        · rw [if_neg c4, if_neg c4]

theorem mem_part {d : Array α} {a m : Nat} (hm : m ≤ d.size) {x : α} (h : x ∈ (d.toList.drop a).take (m - a)) : ∃ i, a ≤ i ∧ i < m ∧ x = d[i]! := by
  obtain ⟨i, hi⟩ := List.mem_iff_getElem?.1 h
  have h1 : i < m - a := by
    rcases Nat.lt_or_ge i (m - a) with h | h
    · exact h
    · rw [List.getElem?_eq_none (by rw [List.length_take]; omega)] at hi; cases hi
  rw [List.getElem?_take_of_lt h1, List.getElem?_drop, get?_at, if_pos (by omega)] at hi
  exact ⟨a + i, by omega, by omega, (Option.some.inj hi).symm⟩

theorem filter_none {p : α → Bool} : ∀ {l : List α}, (∀ x ∈ l, p x = false) → l.filter p = []
  | [], _ => rfl
  | x :: xs, h => by rw [List.filter_cons, if_neg (by rw [h x (by simp)]; decide), filter_none fun y hy => h y (by simp [hy])]

theorem rot_mv (hS : SWO lt) {d d' : Array α} {a m b : Nat} (hs : d'.size = d.size) (ham : a ≤ m) (hmb : m ≤ b) (hb : b ≤ d.size) (hr : ∀ t, t < d.size → d'[t]! = rot (fun t => d[t]!) a m b t)
    (hlt : ∀ u v, a ≤ u → u < m → m ≤ v → v < b → lt d[v]! d[u]! = true) : Mv lt a b d d' := by
  have big : ∀ t, d.size ≤ t → d'[t]! = d[t]! := fun t h => by rw [getElem!_neg d' t (by omega), getElem!_neg d t (by omega)]
  refine ⟨hs, fun t ht => ?_, fun t h1 h2 => ?_, fun x => ?_⟩
  · by_cases h : t < d.size
    · rw [hr t h]; simp only [rot]; rw [if_neg (by omega), if_neg (by omega)]
    · exact big t (by omega)
  · rw [hr t (by omega)]
    simp only [rot]
    by_cases c : t < a + (b - m)
    · rw [if_pos (by omega)]; exact ⟨_, by omega, by omega, rfl⟩
    · rw [if_neg (by omega), if_pos (by omega)]; exact ⟨_, by omega, by omega, rfl⟩
  · rw [rot_list hs ham hmb hb hr]
    conv => rhs; rw [parts d.toList a m b ham hmb]
    simp only [List.filter_append]
    congr 2
    by_cases hu : ∃ u ∈ (d.toList.drop a).take (m - a), eqv lt x u = true
    · obtain ⟨u, hu, hxu⟩ := hu
      obtain ⟨i, i1, i2, rfl⟩ := mem_part (by omega) hu
      rw [filter_none (l := (d.toList.drop m).take (b - m)) fun v hv => ?_, List.nil_append, List.append_nil]
      obtain ⟨j, j1, j2, rfl⟩ := mem_part hb hv
      exact eqv_lt hS (hlt i j i1 i2 j1 j2) hxu
    · rw [filter_none (l := (d.toList.drop a).take (m - a)) fun u hu' => by
        cases h : eqv lt x u with
        | false => rfl
        | true => exact absurd ⟨u, hu', h⟩ hu, List.append_nil, List.nil_append]

/-! ### Insertion -/
theorem swp_rot (d : Array α) (j : Nat) (h : j + 1 < d.size) (t : Nat) : (swp d (j + 1) j)[t]! = rot (fun t => d[t]!) j (j + 1) (j + 2) t := by
  rw [swp_get d h (by omega)]
  simp only [rot]
  by_cases h1 : t = j
  · subst h1; rw [if_pos rfl, if_pos (by omega)]; congr 1; omega
  · rw [if_neg h1]
    by_cases h2 : t = j + 1
    · subst h2; rw [if_pos rfl, if_neg (by omega), if_pos (by omega)]; congr 1; omega
    · rw [if_neg h2, if_neg (by omega), if_neg (by omega)]

theorem insInner_mv (hS : SWO lt) (a b : Nat) : ∀ (j : Nat) (d : Array α), j < b → b ≤ d.size → Mv lt a b d (insInner lt a j d)
  | 0, d, _, _ => by unfold insInner; exact Mv.refl _ _ _
  | j + 1, d, hj, hb => by
    unfold insInner
    split
    · rename_i hc
      simp only [Bool.and_eq_true, decide_eq_true_eq] at hc
      have h1 : Mv lt a b d (swp d (j + 1) j) := (rot_mv hS (swp_size _ _ _) (by omega) (by omega) (by omega) (fun t _ => swp_rot d j (by omega) t) (fun u v u1 u2 v1 v2 => by
        obtain rfl : u = j := by omega
        obtain rfl : v = u + 1 := by omega
        exact hc.2) : Mv lt j (j + 2) d _).wide (by omega) (by omega)
      exact h1.trans (insInner_mv hS a b j _ (by omega) (by rw [swp_size]; exact hb))
    · exact Mv.refl _ _ _

theorem insOuter_mv (hS : SWO lt) (a b : Nat) : ∀ (n i : Nat) (d : Array α), b - i = n → b ≤ d.size → Mv lt a b d (insOuter lt a b i d)
  | 0, i, d, hn, _ => by rw [insOuter, if_neg (by omega)]; exact Mv.refl _ _ _
  | n + 1, i, d, hn, hb => by
    rw [insOuter, if_pos (by omega)]
    have h1 := insInner_mv hS a b i d (by omega) hb
    exact h1.trans (insOuter_mv hS a b n (i + 1) _ (by omega) (by rw [h1.size]; exact hb))

theorem insertion_mv (hS : SWO lt) (d : Array α) (a b : Nat) (hab : a ≤ b) (hb : b ≤ d.size) : Mv lt a b d (insertionSort lt d a b) ∧ SortedIn lt a b (insertionSort lt d a b) :=
  ⟨insOuter_mv hS a b _ _ d rfl hb, (insertionSort_holds hS d a b hab hb).2⟩

/-! ### A search by halves -/
structure Bs (P : Nat → Bool) (lo hi i j : Nat) : Prop where
  h1 : lo ≤ i
  h2 : i ≤ j
  h3 : j ≤ hi
  lo_ : ∀ t, lo ≤ t → t < i → P t = false
  hi_ : ∀ t, j ≤ t → t < hi → P t = true
def Mono (P : Nat → Bool) (lo hi : Nat) : Prop := ∀ s t, lo ≤ s → s ≤ t → t < hi → P s = true → P t = true
theorem Bs.start {P : Nat → Bool} {lo hi : Nat} (h : lo ≤ hi) : Bs P lo hi lo hi := ⟨Nat.le_refl _, h, Nat.le_refl _, fun t a b => by omega, fun t a b => by omega⟩
theorem Bs.up {P : Nat → Bool} {lo hi i j h : Nat} (b : Bs P lo hi i j) (M : Mono P lo hi) (h1 : i ≤ h) (h2 : h < j) (hp : P h = false) : Bs P lo hi (h + 1) j := by
  have := b.h1; have := b.h3
  refine ⟨by omega, by omega, b.h3, fun t a c => ?_, b.hi_⟩
  cases ht : P t with
  | false => rfl
  | true => have := M t h a (by omega) (by omega) ht; rw [hp] at this; exact this.symm
theorem Bs.down {P : Nat → Bool} {lo hi i j h : Nat} (b : Bs P lo hi i j) (M : Mono P lo hi) (h1 : i ≤ h) (h2 : h < j) (hp : P h = true) : Bs P lo hi i h := by
  have := b.h1; have := b.h3
  exact ⟨b.h1, h1, by omega, b.lo_, fun t a c => M h t (by omega) a c hp⟩

/-! ### The merge of two sorted stretches -/
theorem mono_left (hS : SWO lt) {d : Array α} {m b : Nat} (hs : SortedIn lt m b d) (x : α) : Mono (fun t => !lt d[t]! x) m b := by
  intro s t h1 h2 h3 hp
  simp only [Bool.not_eq_true'] at hp ⊢
  rcases Nat.eq_or_lt_of_le h2 with rfl | h
  · exact hp
  · exact hS.ntrans _ _ _ (hs s t h1 h h3) hp
theorem mono_right (hS : SWO lt) {d : Array α} {a m : Nat} (hs : SortedIn lt a m d) (x : α) : Mono (fun t => lt x d[t]!) a m := by
  intro s t h1 h2 h3 hp
  simp only at hp ⊢
  rcases Nat.eq_or_lt_of_le h2 with rfl | h
  · exact hp
  · cases ht : lt x d[t]! with
    | true => rfl
    | false => have := hS.ntrans _ _ _ ht (hs s t h1 h h3); rw [hp] at this; exact this.symm
theorem mono_mid (hS : SWO lt) {d : Array α} {a m b n lo hi : Nat} (hs1 : SortedIn lt a m d) (hs2 : SortedIn lt m b d) (l1 : a ≤ lo) (l2 : hi ≤ m) (l3 : n ≤ b + lo) (l4 : m + hi ≤ n) : Mono (fun c => lt d[n - 1 - c]! d[c]!) lo hi := by
  intro s t h1 h2 h3 hp
  simp only at hp ⊢
  rcases Nat.eq_or_lt_of_le h2 with rfl | h
  · exact hp
  · cases ht : lt d[n - 1 - t]! d[t]! with
    | true => rfl
    | false =>
      have a1 := hS.ntrans _ _ _ ht (hs1 s t (by omega) h (by omega))
      have a2 := hS.ntrans _ _ _ (hs2 (n - 1 - t) (n - 1 - s) (by omega) (by omega) (by omega)) a1
      rw [hp] at a2
      exact a2.symm

theorem merge_one_left (hS : SWO lt) {d d' : Array α} {a b i : Nat} (hs2 : SortedIn lt (a + 1) b d) (hb : b ≤ d.size) (B : Bs (fun t => !lt d[t]! d[a]!) (a + 1) b i i) (hs : d'.size = d.size)
    (hr : ∀ t, t < d.size → d'[t]! = rot (fun t => d[t]!) a (a + 1) i t) : Mv lt a b d d' ∧ SortedIn lt a b d' := by
  have b1 := B.h1; have b3 := B.h3
  have mv : Mv lt a i d d' := rot_mv hS hs (by omega) b1 (by omega) hr fun u v u1 u2 v1 v2 => by
    obtain rfl : u = a := by omega
    have := B.lo_ v v1 v2
    simpa using this
  refine ⟨mv.wide (Nat.le_refl _) b3, fun p q h1 h2 h3 => ?_⟩
  rw [hr p (by omega), hr q (by omega)]
  simp only [rot]
  have lo : ∀ t, a + 1 ≤ t → t < i → lt d[a]! d[t]! = false := fun t t1 t2 => hS.asymmA (by have := B.lo_ t t1 t2; simpa using this)
  have hi : ∀ t, i ≤ t → t < b → lt d[t]! d[a]! = false := fun t t1 t2 => by have := B.hi_ t t1 t2; simpa using this
  by_cases p1 : p < a + (i - (a + 1))
  · rw [if_pos (show a ≤ p ∧ p < a + (i - (a + 1)) from ⟨h1, p1⟩)]
    by_cases q1 : q < a + (i - (a + 1))
    · rw [if_pos ⟨by omega, q1⟩]; exact hs2 _ _ (by omega) (by omega) (by omega)
    · rw [if_neg (by omega)]
      by_cases q2 : q < i
      · rw [if_pos ⟨by omega, q2⟩, show q - (i - (a + 1)) = a by omega]; exact lo _ (by omega) (by omega)
      · rw [if_neg (by omega)]; exact hs2 _ _ (by omega) (by omega) (by omega)
  · rw [if_neg (by omega)]
    by_cases p2 : p < i
    · rw [if_pos (show a + (i - (a + 1)) ≤ p ∧ p < i from ⟨by omega, p2⟩), if_neg (by omega), if_neg (by omega), show p - (i - (a + 1)) = a by omega]
      exact hi q (by omega) h3
    · rw [if_neg (by omega), if_neg (by omega), if_neg (by omega)]
      exact hs2 _ _ (by omega) (by omega) (by omega)

theorem merge_one_right (hS : SWO lt) {d d' : Array α} {a m i : Nat} (hs1 : SortedIn lt a m d) (hb : m + 1 ≤ d.size) (B : Bs (fun t => lt d[m]! d[t]!) a m i i) (hs : d'.size = d.size)
    (hr : ∀ t, t < d.size → d'[t]! = rot (fun t => d[t]!) i m (m + 1) t) : Mv lt a (m + 1) d d' ∧ SortedIn lt a (m + 1) d' := by
  have b1 := B.h1; have b3 := B.h3
  have mv : Mv lt i (m + 1) d d' := rot_mv hS hs b3 (by omega) hb hr fun u v u1 u2 v1 v2 => by
    obtain rfl : v = m := by omega
    exact B.hi_ u u1 u2
  refine ⟨mv.wide b1 (Nat.le_refl _), fun p q h1 h2 h3 => ?_⟩
  rw [hr p (by omega), hr q (by omega)]
  simp only [rot]
  have lo : ∀ t, a ≤ t → t < i → lt d[m]! d[t]! = false := fun t t1 t2 => B.lo_ t t1 t2
  have hi : ∀ t, i ≤ t → t < m → lt d[t]! d[m]! = false := fun t t1 t2 => hS.asymmA (B.hi_ t t1 t2)
  by_cases q0 : q < i
  · rw [if_neg (by omega), if_neg (by omega), if_neg (by omega), if_neg (by omega)]; exact hs1 _ _ h1 h2 (by omega)
  · by_cases q1 : q = i
    · subst q1
      rw [if_pos ⟨by omega, by omega⟩, if_neg (by omega), if_neg (by omega), show q + (m - q) = m by omega]
      exact lo p h1 h2
    · rw [if_neg (by omega), if_pos ⟨by omega, by omega⟩]
      by_cases p0 : p < i
      · rw [if_neg (by omega), if_neg (by omega)]; exact hs1 _ _ h1 (by omega) (by omega)
      · by_cases p1 : p = i
        · subst p1
          rw [if_pos ⟨by omega, by omega⟩, show p + (m - p) = m by omega]; exact hi _ (by omega) (by omega)
        · rw [if_neg (by omega), if_pos ⟨by omega, by omega⟩]; exact hs1 _ _ (by omega) (by omega) (by omega)

/-- What the exchange of the middle two stretches leaves: four sorted stretches, the two on the left not above the two on the right. -/
structure Cut (lt : α → α → Bool) (a s mid e b : Nat) (d1 : Array α) : Prop where
  s1 : SortedIn lt a s d1
  s2 : SortedIn lt s mid d1
  s3 : SortedIn lt mid e d1
  s4 : SortedIn lt e b d1
  cross : ∀ p q, a ≤ p → p < mid → mid ≤ q → q < b → lt d1[q]! d1[p]! = false

theorem merge_split (hS : SWO lt) {d d1 : Array α} {a m b mid n lo hi s : Nat} (hs1 : SortedIn lt a m d) (hs2 : SortedIn lt m b d) (hb : b ≤ d.size) (hn : n = mid + m)
    (ham : a ≤ m) (hmb : m ≤ b) (k1 : a ≤ lo) (k2 : hi ≤ m) (k3 : n ≤ b + lo) (k4 : m + hi ≤ n)
    (e1 : lo = a ∨ lo + b = n) (e2 : hi = m ∨ hi = mid)
    (B : Bs (fun c => lt d[n - 1 - c]! d[c]!) lo hi s s) (hs : d1.size = d.size) (hr : ∀ t, t < d.size → d1[t]! = rot (fun t => d[t]!) s m (n - s) t) : Mv lt a b d d1 ∧ Cut lt a s mid (n - s) b d1 := by
  have b1 := B.h1; have b3 := B.h3
  have hlo : ∀ c, lo ≤ c → c < s → lt d[n - 1 - c]! d[c]! = false := B.lo_
  have hhi : ∀ c, s ≤ c → c < hi → lt d[n - 1 - c]! d[c]! = true := B.hi_
  -- the two exchanged stretches lie strictly apart
  have apart : ∀ u v, s ≤ u → u < m → m ≤ v → v < n - s → lt d[v]! d[u]! = true := fun u v u1 u2 v1 v2 => by
    have h0 := hhi s (Nat.le_refl _) (by omega)
    have h1 : lt d[v]! d[s]! = true := by
      rcases Nat.eq_or_lt_of_le (show v ≤ n - 1 - s by omega) with rfl | h
      · exact h0
      · cases hv : lt d[v]! d[s]! with
        | true => rfl
        | false => have := hS.ntrans _ _ _ (hs2 v (n - 1 - s) v1 h (by omega)) hv; rw [h0] at this; exact this.symm
    rcases Nat.eq_or_lt_of_le u1 with rfl | h
    · exact h1
    · cases hv : lt d[v]! d[u]! with
      | true => rfl
      | false => have := hS.ntrans _ _ _ hv (hs1 s u (by omega) h u2); rw [h1] at this; exact this.symm
  -- what lies ahead of them is not above what lies behind
  have far : ∀ p q, a ≤ p → p < s → n - s ≤ q → q < b → lt d[q]! d[p]! = false := fun p q p1 p2 q1 q2 => by
    have h0 := hlo (s - 1) (by omega) (by omega)
    rw [show n - 1 - (s - 1) = n - s by omega] at h0
    have h1 : lt d[q]! d[s - 1]! = false := by
      rcases Nat.eq_or_lt_of_le q1 with rfl | h
      · exact h0
      · exact hS.ntrans _ _ _ (hs2 (n - s) q (by omega) h q2) h0
    rcases Nat.eq_or_lt_of_le (show p ≤ s - 1 by omega) with rfl | h
    · exact h1
    · exact hS.ntrans _ _ _ h1 (hs1 p (s - 1) p1 h (by omega))
  have mv : Mv lt s (n - s) d d1 := rot_mv hS hs (by omega) (by omega) (by omega) hr apart
  refine ⟨mv.wide (by omega) (by omega), ?_⟩
  have g1 : ∀ t, t < s → d1[t]! = d[t]! := fun t h => by rw [hr t (by omega)]; simp only [rot]; rw [if_neg (by omega), if_neg (by omega)]
  have g2 : ∀ t, s ≤ t → t < mid → d1[t]! = d[t + (m - s)]! := fun t h h' => by rw [hr t (by omega)]; simp only [rot]; rw [if_pos (by omega)]
  have g3 : ∀ t, mid ≤ t → t < n - s → d1[t]! = d[t - (mid - s)]! := fun t h h' => by
    rw [hr t (by omega)]; simp only [rot]; rw [if_neg (by omega), if_pos (by omega)]; congr 1; omega
  have g4 : ∀ t, n - s ≤ t → t < b → d1[t]! = d[t]! := fun t h h' => by rw [hr t (by omega)]; simp only [rot]; rw [if_neg (by omega), if_neg (by omega)]
  refine ⟨fun p q h1 h2 h3 => ?_, fun p q h1 h2 h3 => ?_, fun p q h1 h2 h3 => ?_, fun p q h1 h2 h3 => ?_, fun p q h1 h2 h3 h4 => ?_⟩
  · rw [g1 p (by omega), g1 q h3]; exact hs1 _ _ h1 h2 (by omega)
  · rw [g2 p h1 (by omega), g2 q (by omega) h3]; exact hs2 _ _ (by omega) (by omega) (by omega)
  · rw [g3 p h1 (by omega), g3 q (by omega) h3]; exact hs1 _ _ (by omega) (by omega) (by omega)
  · rw [g4 p h1 (by omega), g4 q (by omega) h3]; exact hs2 _ _ (by omega) (by omega) (by omega)
  · by_cases p1 : p < s
    · rw [g1 p p1]
      by_cases q1 : q < n - s
      · rw [g3 q h3 q1]; exact hs1 _ _ h1 (by omega) (by omega)
      · rw [g4 q (by omega) h4]; exact far p q h1 p1 (by omega) h4
    · rw [g2 p (by omega) h2]
      by_cases q1 : q < n - s
      · rw [g3 q h3 q1]; exact hS.asymmA (apart _ _ (by omega) (by omega) (by omega) (by omega))
      · rw [g4 q (by omega) h4]; exact hs2 _ _ (by omega) (by omega) h4

theorem merge_join (hS : SWO lt) {d d1 d2 d3 : Array α} {a mid b : Nat} (am : a ≤ mid) (mb : mid ≤ b) (h1 : Mv lt a b d d1) (cross : ∀ p q, a ≤ p → p < mid → mid ≤ q → q < b → lt d1[q]! d1[p]! = false)
    (h2 : Mv lt a mid d1 d2) (o2 : SortedIn lt a mid d2) (h3 : Mv lt mid b d2 d3) (o3 : SortedIn lt mid b d3) : Mv lt a b d d3 ∧ SortedIn lt a b d3 := by
  refine ⟨(h1.trans (h2.wide (Nat.le_refl _) mb)).trans (h3.wide am (Nat.le_refl _)), fun p q p1 pq q1 => ?_⟩
  by_cases c1 : q < mid
  · rw [h3.out p (by omega), h3.out q (by omega)]; exact o2 _ _ p1 pq c1
  · by_cases c2 : mid ≤ p
    · exact o3 _ _ c2 pq q1
    · obtain ⟨s, s1, s2, e⟩ := h3.inn q (by omega) q1
      rw [e, h2.out s (by omega), h3.out p (by omega)]
      obtain ⟨r, r1, r2, e'⟩ := h2.inn p p1 (by omega)
      rw [e']
      exact cross r s r1 r2 s1 s2

/-- The left part of a cut is sorted already where the walk does not merge it; the right part likewise. -/
theorem Cut.left {a s mid e b : Nat} {d1 : Array α} (c : Cut lt a s mid e b d1) (h1 : a ≤ s) (h2 : s ≤ mid) (h : ¬ (a < s ∧ s < mid)) : SortedIn lt a mid d1 := by
  by_cases e1 : s = a
  · subst e1; exact c.s2
  · obtain rfl : s = mid := by omega
    exact c.s1
theorem Cut.right {a s mid e b : Nat} {d1 : Array α} (c : Cut lt a s mid e b d1) (h1 : mid ≤ e) (h2 : e ≤ b) (h : ¬ (mid < e ∧ e < b)) : SortedIn lt mid b d1 := by
  by_cases e1 : e = mid
  · subst e1; exact c.s4
  · obtain rfl : e = b := by omega
    exact c.s3
theorem sorted_out {d d' : Array α} {a b p q : Nat} (h : Mv lt a b d d') (hs : SortedIn lt p q d) (hd : q ≤ a ∨ b ≤ p) : SortedIn lt p q d' := fun i j h1 h2 h3 => by
  rw [h.out i (by omega), h.out j (by omega)]; exact hs i j h1 h2 h3

/-! ### Blocks -/
def Upto (lt : α → α → Bool) (bs c : Nat) (d : Array α) : Prop := ∀ i j, i < j → j < c → i / bs = j / bs → lt d[j]! d[i]! = false
def From (lt : α → α → Bool) (bs a n : Nat) (d : Array α) : Prop := ∀ i j, a ≤ i → i < j → j < n → i / bs = j / bs → lt d[j]! d[i]! = false
theorem div_same {bs q i : Nat} (h : bs * q ≤ i) (h' : i < bs * q + bs) : i / bs = q :=
  Nat.div_eq_of_lt_le (by rw [Nat.mul_comm] at h; exact h) (by rw [Nat.mul_comm, Nat.mul_add, Nat.mul_one]; exact h')
theorem div_low {bs q i j : Nat} (hj : bs * q ≤ j) (hb : 0 < bs) (h : i / bs = j / bs) : bs * q ≤ i := by
  have h1 : q ≤ j / bs := (Nat.le_div_iff_mul_le hb).2 (by rw [Nat.mul_comm]; exact hj)
  have h2 := Nat.div_mul_le_self i bs
  have h3 := Nat.mul_le_mul_right bs (h ▸ h1 : q ≤ i / bs)
  rw [Nat.mul_comm q bs] at h3
  omega
theorem Upto.zero (bs : Nat) (d : Array α) : Upto lt bs 0 d := fun i j _ h => by omega
theorem Upto.step {bs q c' : Nat} {d d' : Array α} (h : Upto lt bs (bs * q) d) (hb : 0 < bs) (mv : Mv lt (bs * q) c' d d') (hs : SortedIn lt (bs * q) c' d') : Upto lt bs c' d' := by
  intro i j hij hj he
  by_cases c : j < bs * q
  · rw [mv.out i (by omega), mv.out j (by omega)]; exact h i j hij c he
  · exact hs i j (div_low (by omega) hb he) hij hj
theorem From.stretch {bs a n p q : Nat} {d : Array α} (h : From lt bs a n d) (r : Nat) (h1 : a ≤ p) (h2 : q ≤ n) (h3 : bs * r ≤ p) (h4 : q ≤ bs * r + bs) : SortedIn lt p q d := fun i j i1 ij j1 =>
  h i j (by omega) ij (by omega) (by rw [div_same (q := r) (by omega) (by omega), div_same (q := r) (by omega) (by omega)])
theorem From.next {bs a c n : Nat} {d d' : Array α} (h : From lt bs a n d) (mv : Mv lt a c d d') (hac : a ≤ c) : From lt bs c n d' := fun i j i1 ij j1 he => by
  rw [mv.out i (by omega), mv.out j (by omega)]; exact h i j (by omega) ij j1 he
theorem Upto.from0 {bs n : Nat} {d : Array α} (h : Upto lt bs n d) : From lt bs 0 n d := fun i j _ ij j1 he => h i j ij j1 he
theorem Upto.all {bs n : Nat} {d : Array α} (h : Upto lt bs n d) (hn : n ≤ bs) : SortedIn lt 0 n d := fun i j _ ij j1 => h i j ij j1 (by rw [Nat.div_eq_of_lt (by omega), Nat.div_eq_of_lt (by omega)])

/-! ### The one stable order -/
def ins (lt : α → α → Bool) (x : α) : List α → List α
  | [] => [x]
  | y :: ys => if lt y x = true then y :: ins lt x ys else x :: y :: ys
def isort (lt : α → α → Bool) : List α → List α
  | [] => []
  | x :: xs => ins lt x (isort lt xs)
def Sorted (lt : α → α → Bool) (l : List α) : Prop := l.Pairwise fun x y => lt y x = false

theorem ins_mem (x : α) : ∀ (l : List α) (z : α), z ∈ ins lt x l ↔ z = x ∨ z ∈ l
  | [], z => by simp [ins]
  | y :: ys, z => by
    unfold ins
    split
    · simp only [List.mem_cons, ins_mem x ys z]
      constructor
      · rintro (h | h | h) <;> simp [h]
      · rintro (h | h | h) <;> simp [h]
    · simp
theorem ins_sorted (hS : SWO lt) (x : α) : ∀ (l : List α), Sorted lt l → Sorted lt (ins lt x l)
  | [], _ => by simp [ins, Sorted]
  | y :: ys, h => by
    have hp := List.pairwise_cons.1 h
    unfold ins
    split
    · rename_i hc
      refine List.pairwise_cons.2 ⟨fun z hz => ?_, ins_sorted hS x ys hp.2⟩
      rcases (ins_mem x ys z).1 hz with rfl | hz
      · exact hS.asymmA hc
      · exact hp.1 z hz
    · rename_i hc
      have hc' : lt y x = false := by simpa using hc
      refine List.pairwise_cons.2 ⟨fun z hz => ?_, h⟩
      rcases List.mem_cons.1 hz with rfl | hz
      · exact hc'
      · exact hS.ntrans _ _ _ (hp.1 z hz) hc'
theorem ins_filter (hS : SWO lt) (x p : α) : ∀ (l : List α), (ins lt x l).filter (eqv lt p) = (x :: l).filter (eqv lt p)
  | [] => rfl
  | y :: ys => by
    unfold ins
    split
    · rename_i hc
      have ih := ins_filter hS x p ys
      rw [List.filter_cons, ih]
      by_cases hx : eqv lt p x = true
      · have hy := eqv_lt hS hc hx
        rw [List.filter_cons, List.filter_cons, List.filter_cons]
        simp [hx, hy]
      · have hx' : eqv lt p x = false := by simpa using hx
        rw [List.filter_cons, List.filter_cons, List.filter_cons]
        simp [hx']
    · rfl
theorem isort_sorted (hS : SWO lt) : ∀ (l : List α), Sorted lt (isort lt l)
  | [] => List.Pairwise.nil
  | x :: xs => ins_sorted hS x _ (isort_sorted hS xs)
theorem isort_filter (hS : SWO lt) (p : α) : ∀ (l : List α), (isort lt l).filter (eqv lt p) = l.filter (eqv lt p)
  | [] => rfl
  | x :: xs => by
    show (ins lt x (isort lt xs)).filter _ = _
    rw [ins_filter hS, List.filter_cons, isort_filter hS p xs, ← List.filter_cons]
theorem isort_mem : ∀ (l : List α) (z : α), z ∈ isort lt l ↔ z ∈ l
  | [], z => Iff.rfl
  | x :: xs, z => by
    show z ∈ ins lt x (isort lt xs) ↔ _
    rw [ins_mem, isort_mem xs z, List.mem_cons]
theorem isort_length : ∀ (l : List α), (isort lt l).length = l.length := by
  have h : ∀ (x : α) (l : List α), (ins lt x l).length = l.length + 1 := by
    intro x l
    induction l with
    | nil => rfl
    | cons y ys ih => unfold ins; split <;> simp [ih]
  intro l
  induction l with
  | nil => rfl
  | cons x xs ih => show (ins lt x (isort lt xs)).length = _; rw [h, ih]; rfl

theorem sorted_eq (hS : SWO lt) : ∀ (l l' : List α), Sorted lt l → Sorted lt l' → (∀ p, l.filter (eqv lt p) = l'.filter (eqv lt p)) → l = l'
  | [], [], _, _, _ => rfl
  | [], y :: ys, _, _, h => by
    have := h y
    rw [List.filter_cons, if_pos (eqv_self hS y)] at this
    cases this
  | x :: xs, [], _, _, h => by
    have := h x
    rw [List.filter_cons, if_pos (eqv_self hS x)] at this
    cases this
  | x :: xs, y :: ys, h1, h2, h => by
    have p1 := List.pairwise_cons.1 h1
    have p2 := List.pairwise_cons.1 h2
    have low : ∀ {z : α} {w : α} {l : List α}, (∀ v ∈ l, lt v w = false) → z ∈ w :: l → lt z w = false := fun {z w l} hw hz => by
      rcases List.mem_cons.1 hz with rfl | hz
      · exact hS.irrefl _
      · exact hw _ hz
    have mx : x ∈ y :: ys := by
      have : x ∈ (x :: xs).filter (eqv lt x) := by simp [eqv_self hS]
      rw [h x] at this
      exact (List.mem_filter.1 this).1
    have my : y ∈ x :: xs := by
      have : y ∈ (y :: ys).filter (eqv lt y) := by simp [eqv_self hS]
      rw [← h y] at this
      exact (List.mem_filter.1 this).1
    have hxy := low p2.1 mx
    have hyx := low p1.1 my
    have e : x = y := by
      have := h x
      rw [List.filter_cons, if_pos (eqv_self hS x), List.filter_cons, if_pos (by simp [eqv, hxy, hyx])] at this
      exact (List.cons.inj this).1
    subst e
    rw [sorted_eq hS xs ys p1.2 p2.2 fun p => by
      have := h p
      rw [List.filter_cons, List.filter_cons] at this
      split at this
      · exact (List.cons.inj this).2
      · exact this]

theorem list_sorted {d : Array α} (h : SortedIn lt 0 d.size d) : Sorted lt d.toList := by
  refine List.pairwise_iff_getElem.2 fun i j hi hj hij => ?_
  have := h i j (Nat.zero_le _) hij (by simpa using hj)
  rw [getElem!_pos d i (by simpa using hi), getElem!_pos d j (by simpa using hj)] at this
  simpa using this

theorem stable_eq (hS : SWO lt) {d d' : Array α} {a b : Nat} (mv : Mv lt a b d d') (hs : SortedIn lt 0 d.size d') : d'.toList = isort lt d.toList :=
  sorted_eq hS _ _ (list_sorted (by rw [mv.size]; exact hs)) (isort_sorted hS _) fun p => by rw [mv.filt, isort_filter hS]

/-! ### Exchanges -/
/-- Two stretches of n places exchanged. -/
def swr (f : Nat → α) (a b n : Nat) (t : Nat) : α := if a ≤ t ∧ t < a + n then f (t + (b - a)) else if b ≤ t ∧ t < b + n then f (t - (b - a)) else f t
theorem swr_zero (f : Nat → α) (a b : Nat) : swr f a b 0 = f := by
  funext t
  simp only [swr]
  rw [if_neg (by omega), if_neg (by omega)]
theorem swr_step {d dk : Array α} {a b n s : Nat} (h : ∀ t, t < d.size → dk[t]! = swr (fun t => d[t]!) a b s t) (hz : dk.size = d.size) (hs : s < n) (hab : a + n ≤ b) (hb : b + n ≤ d.size) (t : Nat) (ht : t < d.size) :
    (swp dk (a + s) (b + s))[t]! = swr (fun t => d[t]!) a b (s + 1) t := by
  rw [swp_get dk (by omega) (by omega), h (a + s) (by omega), h (b + s) (by omega), h t ht]
  simp only [swr]
  by_cases h1 : t = b + s
  · subst h1
    rw [if_pos rfl, if_neg (by omega), if_neg (by omega), if_neg (by omega), if_pos (by omega)]; congr 1; omega
  · rw [if_neg h1]
    by_cases h2 : t = a + s
    · subst h2
      rw [if_pos rfl, if_neg (by omega), if_neg (by omega), if_pos (by omega)]; congr 1; omega
    · rw [if_neg h2]
      by_cases h3 : a ≤ t ∧ t < a + s
      · rw [if_pos h3, if_pos (by omega)]
      · rw [if_neg h3, if_neg (show ¬ (a ≤ t ∧ t < a + (s + 1)) by omega)]
        by_cases h4 : b ≤ t ∧ t < b + s
        · rw [if_pos h4, if_pos (by omega)]
        · rw [if_neg h4, if_neg (by omega)]

theorem rot_big (f : Nat → α) (m i j : Nat) (hi : i ≤ m) (h : j < i) (hj : 0 < j) (t : Nat) : rot (swr f (m - i) m j) (m - (i - j)) m (m + j) t = rot f (m - i) m (m + j) t := by
  simp only [rot, swr]
  repeat' split
  all_goals first | omega | rfl | (congr 1; omega)
theorem rot_small (f : Nat → α) (m i j : Nat) (hi : i ≤ m) (h : i < j) (h0 : 0 < i) (t : Nat) : rot (swr f (m - i) (m + j - i) i) (m - i) m (m + (j - i)) t = rot f (m - i) m (m + j) t := by
  simp only [rot, swr]
  repeat' split
  all_goals first | omega | rfl | (congr 1; omega)
theorem rot_even (f : Nat → α) (m i : Nat) (hi : i ≤ m) (t : Nat) : swr f (m - i) m i t = rot f (m - i) m (m + i) t := by
  simp only [rot, swr]
  repeat' split
  all_goals first | omega | rfl | (congr 1; omega)
theorem rot_congr {f g : Nat → α} {a m b n : Nat} (h : ∀ t, t < n → f t = g t) (ham : a ≤ m) (hmb : m ≤ b) (hb : b ≤ n) (t : Nat) (ht : t < n) : rot f a m b t = rot g a m b t := by
  simp only [rot]
  split
  · exact h _ (by omega)
  · split
    · exact h _ (by omega)
    · exact h _ ht
theorem rot_none (f : Nat → α) (a m b : Nat) (ham : a ≤ m) (hmb : m ≤ b) (h : a = m ∨ m = b) (t : Nat) : rot f a m b t = f t := by
  simp only [rot]
  split
  · congr 1; omega
  · split
    · congr 1; omega
    · rfl
/-- One exchange more to the right: data[a] has come to k. -/
theorem rot_right {d dk : Array α} {a k : Nat} (h : ∀ t, t < d.size → dk[t]! = rot (fun t => d[t]!) a (a + 1) (k + 1) t) (hz : dk.size = d.size) (hk : a ≤ k) (hb : k + 1 < d.size) (t : Nat) (ht : t < d.size) :
    (swp dk k (k + 1))[t]! = rot (fun t => d[t]!) a (a + 1) (k + 2) t := by
  rw [swp_get dk (by omega) (by omega), h k (by omega), h (k + 1) (by omega), h t ht]
  simp only [rot]
  by_cases h1 : t = k + 1
  · subst h1
    rw [if_pos rfl, if_neg (by omega), if_pos (by omega), if_neg (by omega), if_pos (by omega)]; congr 1; omega
  · rw [if_neg h1]
    by_cases h2 : t = k
    · subst h2
      rw [if_pos rfl, if_neg (by omega), if_neg (by omega), if_pos (by omega)]; congr 1; omega
    · rw [if_neg h2]
      by_cases h3 : a ≤ t ∧ t < k
      · rw [if_pos (by omega), if_pos (by omega)]
      · rw [if_neg (by omega), if_neg (by omega), if_neg (by omega), if_neg (by omega)]
/-- One exchange more to the left: data[m] has come to k. -/
theorem rot_left {d dk : Array α} {k m : Nat} (h : ∀ t, t < d.size → dk[t]! = rot (fun t => d[t]!) (k + 1) m (m + 1) t) (hz : dk.size = d.size) (hk : k + 1 ≤ m) (hb : m < d.size) (t : Nat) (ht : t < d.size) :
    (swp dk (k + 1) k)[t]! = rot (fun t => d[t]!) k m (m + 1) t := by
  rw [swp_get dk (by omega) (by omega), h k (by omega), h (k + 1) (by omega), h t ht]
  simp only [rot]
  by_cases h1 : t = k
  · subst h1
    rw [if_pos rfl, if_pos (by omega), if_pos (by omega)]; congr 1; omega
  · rw [if_neg h1]
    by_cases h2 : t = k + 1
    · subst h2
      rw [if_pos rfl, if_neg (by omega), if_neg (by omega), if_neg (by omega), if_pos (by omega)]; congr 1; omega
    · rw [if_neg h2]
      by_cases h3 : k + 1 < t ∧ t < m + 1
      · rw [if_neg (by omega), if_pos (by omega), if_neg (by omega), if_pos (by omega)]
      · rw [if_neg (by omega), if_neg (by omega), if_neg (by omega), if_neg (by omega)]
end Go.Proofs.Ytacglolggaobdab.St
