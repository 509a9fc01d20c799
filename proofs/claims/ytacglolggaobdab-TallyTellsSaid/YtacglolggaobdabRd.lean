/- What came in, opened kind by kind: an argument that reads as data is of the kind (Kd) that the printed contracts speak of. No program is named here. -/
import Derived.Test.YtacglolggaobdabWWords
import Derived.Deep.Slices
import Derived.ChangeArms
import Derived.DataReads
namespace Go.Proofs.Ytacglolggaobdab.Rd
open Go.RowKit Go.Deep Go.Proofs.YtacglolggaobdabW.PrintWords
set_option linter.unusedVariables false

/-- Whatever reads as data of type t has cells of kind d; G: what is known of it besides. -/
def Opens {α : Type} (P : Program) (t : TypeId) (d : Kd α) (G : α → Prop) : Prop :=
  ∀ {H : Type} (enc : TypeId × Value → H) (w : World) (base : Nat) (spare : Nat → Bool) (held : Bool) (fuel : Nat) (cs : List Value) (x : DataW H × List MemPlace),
    DataW.trod enc P w base spare held fuel t cs = some x → ∃ v, d.K w v cs ∧ G v

section
variable {P : Program} {t : TypeId}
theorem opens_int {k : IntKind} (ht : P.underlying t = some (.int k)) : Opens P t (Kd.int k) (fun n => (Lit.int k n).wf = true) := by
  intro H enc w base spare held fuel cs x h
  obtain ⟨n, rfl, _, hw⟩ := DataW.trod_int ht h
  exact ⟨n, rfl, hw⟩
theorem opens_bool (ht : P.underlying t = some .bool) : Opens P t Kd.bool (fun _ => True) := by
  intro H enc w base spare held fuel cs x h
  obtain ⟨b, rfl, _⟩ := DataW.trod_bool ht h
  exact ⟨b, rfl, trivial⟩
theorem opens_string (ht : P.underlying t = some .string) : Opens P t Kd.string (fun s => s.size ≤ maxLen) := by
  intro H enc w base spare held fuel cs x h
  obtain ⟨s, rfl, _, hs⟩ := DataW.trod_string ht h
  exact ⟨s, rfl, hs⟩
theorem Opens.mono {α : Type} {d : Kd α} {G G' : α → Prop} (h : Opens P t d G) (hG : ∀ v, G v → G' v) : Opens P t d G' := by
  intro H enc w base spare held fuel cs x hx
  obtain ⟨v, hv, hg⟩ := h enc w base spare held fuel cs x hx
  exact ⟨v, hv, hG v hg⟩

theorem opens_slice {α : Type} {d : Kd α} {G : α → Prop} {e : TypeId} (hs : P.underlying t = some (.slice e)) (hd : Opens P e d G) (hsz : d.sz = P.cellsOf e) :
    Opens P t (Kd.slice e d) (fun xs => ∀ x ∈ xs, G x) := by
  intro H enc w base spare held fuel cs x h
  rcases open_slice hs h with ⟨rfl, _⟩ | ⟨a, len, cap, m, n, D, Pl, rfl, hb, hl, hm, hmm, hx, hi⟩
  · exact ⟨[], ⟨none, 0, rfl, by simp, by simp, by simp, fun h => absurd h (by simp)⟩, fun x hx => absurd hx (by simp)⟩
  · have hlm : len ≤ m := by rw [hmm]; split <;> omega
    have hel : ∀ i : Fin len, ∃ v, (∃ c, c.length = d.sz ∧ d.K w v c ∧ ∀ j u, c[j]? = some u → w.cell? (a.add (i.1 * d.sz + j)) = some u) ∧ G v := by
      intro i
      obtain ⟨cs', hc, ht'⟩ := hi i.1 (by have := i.2; omega)
      obtain ⟨v, hK, hG⟩ := hd enc w base spare held n cs' _ ht'
      obtain ⟨_, hlen, hat⟩ := World.cells?_some hc
      refine ⟨v, ⟨cs', by rw [hlen, hsz], hK, fun j u hu => ?_⟩, hG⟩
      have hj : j < P.cellsOf e := by
        have := (List.getElem?_eq_some_iff.1 hu).1
        omega
      have := (hat j hj).trans hu
      rw [Go.Deep.add_add, ← hsz] at this
      exact this
    refine ⟨List.ofFn (fun i : Fin len => Classical.choose (hel i)), ⟨some a, cap, by rw [List.length_ofFn], by rw [List.length_ofFn]; exact hl, rfl, ?_, fun _ => ⟨a, rfl, ?_⟩⟩, ?_⟩
    · rw [List.length_ofFn]; simp only [maxLen] at hm; omega
    · intro j p hj
      obtain ⟨hlt, rfl⟩ := List.getElem?_eq_some_iff.1 hj
      have hlt' : j < len := by rwa [List.length_ofFn] at hlt
      rw [List.getElem_ofFn]
      exact (Classical.choose_spec (hel ⟨j, hlt'⟩)).1
    · intro x hx
      obtain ⟨i, rfl⟩ := List.mem_ofFn.1 hx
      exact (Classical.choose_spec (hel i)).2

/-- So many fields, from a place in the struct on. -/
def Seq {β : Type} (P : Program) (off : Nat) (tys : List (TypeId × Nat)) (d : Kd β) (G : β → Prop) : Prop :=
  ∀ {H : Type} (enc : TypeId × Value → H) (w : World) (base : Nat) (spare : Nat → Bool) (held : Bool) (n : Nat) (cs : List Value), cs.length = off + d.sz →
    (∀ p ∈ tys, ∃ y, DataW.trod enc P w base spare held n p.1 ((cs.drop p.2).take (P.cellsOf p.1)) = some y) → ∃ v, d.K w v (cs.drop off) ∧ G v
theorem seq_one {α : Type} {d : Kd α} {G : α → Prop} {off : Nat} (h : Opens P t d G) (hsz : d.sz = P.cellsOf t) : Seq P off [(t, off)] d G := by
  intro H enc w base spare held n cs hl hf
  obtain ⟨y, hy⟩ := hf (t, off) (List.mem_singleton.2 rfl)
  obtain ⟨v, hK, hG⟩ := h enc w base spare held n _ y hy
  refine ⟨v, ?_, hG⟩
  have : (cs.drop off).take (P.cellsOf t) = cs.drop off := List.take_of_length_le (by rw [List.length_drop]; omega)
  rwa [this] at hK
theorem seq_cons {α β : Type} {d : Kd α} {G : α → Prop} {d2 : Kd β} {G2 : β → Prop} {off : Nat} {rest : List (TypeId × Nat)} (h : Opens P t d G) (hsz : d.sz = P.cellsOf t) (h2 : Seq P (off + d.sz) rest d2 G2) :
    Seq P off ((t, off) :: rest) (Kd.pair d d2) (fun v => G v.1 ∧ G2 v.2) := by
  intro H enc w base spare held n cs hl hf
  obtain ⟨y, hy⟩ := hf (t, off) (List.mem_cons_self ..)
  obtain ⟨v, hK, hG⟩ := h enc w base spare held n _ y hy
  obtain ⟨u, hK2, hG2⟩ := h2 enc w base spare held n cs (by rw [hl]; show off + (d.sz + d2.sz) = _; omega) (fun p hp => hf p (List.mem_cons_of_mem _ hp))
  refine ⟨(v, u), ⟨_, _, ?_, hK, hK2⟩, hG, hG2⟩
  rw [← hsz, ← List.drop_drop, List.take_append_drop]
theorem opens_struct {α β : Type} {d : Kd α} {G : α → Prop} {fs : Array Field} (f : β → α) (g : α → β) (hfg : ∀ a, f (g a) = a) (ht : P.underlying t = some (.struct fs)) (hsz : d.sz = P.cellsOf t) {tys : List (TypeId × Nat)}
    (hty : fs.toList.map (fun x => (x.type, x.offset)) = tys) (h : Seq P 0 tys d G) : Opens P t (Kd.iso d f) (fun v => G (f v)) := by
  intro H enc w base spare held fuel cs x hx
  obtain ⟨xs, n, _, _, hlen, hxl, hf⟩ := DataW.trod_struct ht hx
  obtain ⟨v, hK, hG⟩ := h enc w base spare held n cs (by rw [hlen, hsz]; omega) (fun p hp => by
    rw [← hty] at hp
    obtain ⟨fd, hfd, rfl⟩ := List.mem_map.1 hp
    obtain ⟨i, hi, rfl⟩ := List.mem_iff_getElem.1 hfd
    have hi' : i < fs.size := by simpa using hi
    have hr := hf i _ (by rw [Array.getElem?_eq_getElem hi'])
    refine ⟨xs[i]'(by omega), ?_⟩
    rw [List.getElem?_eq_getElem (by omega)] at hr
    simpa using hr)
  exact ⟨g v, by show d.K w (f (g v)) cs; rw [hfg]; exact hK, by show G (f (g v)); rw [hfg]; exact hG⟩
end

/-- A slice argument. -/
theorem arg_slice {α H : Type} {P : Program} {t e : TypeId} {d : Kd α} {G : List α → Prop} (ho : Opens P t (Kd.slice e d) G) {enc : TypeId × Value → H} {w : World} {base : Nat} {spare : Nat → Bool} {held : Bool} {a : Option Addr} {len cap : Nat} {x : DataW H} {p : List MemPlace}
    (h : DataW.Trod enc P w base spare held t (.slice a len cap) x p) : ∃ xs : List α, len = xs.length ∧ xs.length ≤ cap ∧ d.C w a xs.length xs ∧ G xs := by
  obtain ⟨fuel, hf⟩ := h
  obtain ⟨xs, ⟨A, c, hcs, hl, hC⟩, hG⟩ := ho enc w base spare held fuel _ _ hf
  simp only [Value.cells, List.cons.injEq, and_true] at hcs
  simp at hcs
  obtain ⟨rfl, rfl, rfl⟩ := hcs
  exact ⟨xs, rfl, hl, hC, hG⟩
/-- A struct argument, by value. -/
theorem arg_struct {α H : Type} {P : Program} {t : TypeId} {d : Kd α} {G : α → Prop} (ho : Opens P t d G) {enc : TypeId × Value → H} {w : World} {base : Nat} {spare : Nat → Bool} {held : Bool} {cs : Array Value} {x : DataW H} {p : List MemPlace}
    (h : DataW.Trod enc P w base spare held t (.agg cs) x p) : ∃ v : α, d.K w v cs.toList ∧ G v := by
  obtain ⟨fuel, hf⟩ := h
  exact ho enc w base spare held fuel _ _ hf
end Go.Proofs.Ytacglolggaobdab.Rd
