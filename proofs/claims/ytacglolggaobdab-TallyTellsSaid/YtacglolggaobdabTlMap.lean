/- tally: a map that holds how often each key has been counted, read and written. -/
import Derived.Test.YtacglolggaobdabPAllx0
import Derived.Test.YtacglolggaobdabWKept
import Derived.RangeFuncBox
import Derived.Maps.OwnOps
import Derived.Maps.OwnSet
import Derived.Maps.Views
import Derived.Sort.KeysCollected
namespace Go.Proofs.Ytacglolggaobdab.TL
open Go.RowKit Go.Maps
set_option linter.unusedVariables false

set_option linter.unusedSectionVars false
variable {κ : Type} [DecidableEq κ] {mk : κ → Lit} {kt : TypeId}
/-- block M is a map of at most n entries: at key x it holds f x; its keys are those of h -/
def MapF (mk : κ → Lit) (kt : TypeId) (w : World) (M n : Nat) (f : κ → Int) (h : κ → Prop) : Prop :=
  ∃ D : DataW Unit, w.ownsMap Try.prog kt (plainElem Try.prog 3) M n D ∧ Tidy D ∧ (∀ x, D.atKey (mk x) (.lit (.int .i64 0)) = .lit (.int .i64 (f x))) ∧ ∀ x, Maps.has D (mk x) = true ↔ h x
theorem MapF.start (w : World) : MapF mk kt (w.alloc (.map #[] 0)) w.heap.size 0 (fun _ => 0) (fun _ => False) :=
  ⟨.map [], World.ownsMap_made _ _ _ _, tidy_empty, fun _ => rfl, fun x => ⟨(fun e => by cases e), False.elim⟩⟩
theorem MapF.heap {w w' : World} {M n : Nat} {f : κ → Int} {h : κ → Prop} (H : MapF mk kt w M n f h) (he : w'.heap[M]? = w.heap[M]?) : MapF mk kt w' M n f h := by
  obtain ⟨D, ⟨es, clock, hb, F, hs, hD⟩, r⟩ := H
  exact ⟨D, ⟨es, clock, he.trans hb, F, hs, hD⟩, r⟩
theorem MapF.lt {w : World} {M n : Nat} {f : κ → Int} {h : κ → Prop} (H : MapF mk kt w M n f h) : M < w.heap.size := by
  obtain ⟨D, ho, _⟩ := H
  exact ho.lt
theorem MapF.notcells {w : World} {M n : Nat} {f : κ → Int} {h : κ → Prop} (H : MapF mk kt w M n f h) : ∃ o : Obj, w.heap[M]? = some o ∧ o.isCells = false := by
  obtain ⟨D, ⟨es, clock, hb, F, hs, hD⟩, r⟩ := H
  exact ⟨_, hb, rfl⟩
theorem zero3 (w : World) : (zeroValue 3).run Try.prog w = .ok (.int .i64 0) w := by kernel_rfl
set_option maxRecDepth 100000 in
theorem MapF.look {w : World} {M n : Nat} {f : κ → Int} {h : κ → Prop} (H : MapF mk kt w M n f h) (K : Keyed Try.prog kt) {mt : TypeId} (ht : Try.prog.underlying mt = some (.map kt 3)) {v : Value} {x : κ} (hkey : keyOf Try.prog kt v = some (mk x)) (W : World) (hW : W.heap = w.heap) :
    (Instr.lookup mt (.map (some M)) v false).run Try.prog W = .ok (.int .i64 (f x)) W := by
  obtain ⟨D, ho, h1, h2, h3⟩ := H.heap (w' := W) (by rw [hW])
  obtain ⟨c, hl1, hc1, _⟩ := ho.lookup_int K ht Try.underlying3 (zero3 W) hkey
  rw [h2] at hc1
  simp only [DataW.lit.injEq, Lit.int.injEq, true_and] at hc1
  rw [hc1]; exact hl1
theorem MapF.lookW {w : World} {M n : Nat} {f : κ → Int} {h : κ → Prop} (H : MapF mk kt w M n f h) (K : Keyed Try.prog kt) {mt : TypeId} (ht : Try.prog.underlying mt = some (.map kt 3)) {v : Value} {x : κ} (hkey : keyOf Try.prog kt v = some (mk x)) (W : World) (hW : W.heap[M]? = w.heap[M]?) :
    (Instr.lookup mt (.map (some M)) v false).run Try.prog W = .ok (.int .i64 (f x)) W := (H.heap hW).look K ht hkey W rfl
/-- the value behind: f with c at x -/
def upd (f : κ → Int) (x : κ) (c : Int) (y : κ) : Int := if y = x then c else f y
def also (h : κ → Prop) (x : κ) (y : κ) : Prop := y = x ∨ h y
set_option maxRecDepth 100000 in
theorem MapF.put {w : World} {M n : Nat} {f : κ → Int} {h : κ → Prop} (H : MapF mk kt w M n f h) (K : Keyed Try.prog kt) (inj : ∀ x y, mk x = mk y → x = y) (hkl : ∀ x, WideAt.IsKeyLit (mk x)) {mt : TypeId} (ht : Try.prog.underlying mt = some (.map kt 3)) {v : Value} {x : κ} (hkey : keyOf Try.prog kt v = some (mk x)) (hn : n < maxLen) {c : Int} (hc : (Lit.int .i64 c).wf = true) :
    ∃ w', (Instr.mapUpdate mt (.map (some M)) v (.int .i64 c)).run Try.prog w = .ok () w' ∧ MapF mk kt w' M (n + 1) (upd f x c) (also h x) ∧ w.grownBy w' (some M) := by
  obtain ⟨D, ho, h1, h2, h3⟩ := H
  obtain ⟨w', hup, ho2, hg⟩ := ho.update K ht hn hkey (plainElem_int (H := Unit) Try.underlying3 hc)
  refine ⟨w', hup, ⟨_, ho2, h1.put (hkl x) _, fun y => ?_, fun y => ?_⟩, hg⟩
  · unfold upd
    by_cases e : y = x
    · subst e
      rw [if_pos rfl, atKey_put_same h1.isMap (hkl y)]
    · rw [if_neg e, atKey_put_other (fun e2 => e (inj _ _ e2)), h2]
  · unfold also
    by_cases e : y = x
    · subst e
      rw [has_put_same h1.isMap (hkl y)]
      exact ⟨fun _ => Or.inl rfl, fun _ => rfl⟩
    · rw [has_put_other (fun e2 => e (inj _ _ e2)), h3]
      exact ⟨Or.inr, fun o => o.resolve_left e⟩

theorem under92 : Try.prog.underlying 92 = some (.map 9 3) := by kernel_rfl
theorem under68 : Try.prog.underlying 68 = some (.map 3 3) := by kernel_rfl
theorem law9 : Keyed Try.prog 9 := string_keyed Try.underlying9
theorem law3 : Keyed Try.prog 3 := int_keyed Try.underlying3
def mkS (x : List UInt8) : Lit := .string x
def mkI (x : Int) : Lit := .int .i64 x
theorem injS (x y : List UInt8) (e : mkS x = mkS y) : x = y := by injection e
theorem injI (x y : Int) (e : mkI x = mkI y) : x = y := by injection e
theorem litS (x : List UInt8) : WideAt.IsKeyLit (mkS x) := trivial
theorem litI (x : Int) : WideAt.IsKeyLit (mkI x) := trivial
theorem keyS (s : ByteArray) (h : s.size ≤ maxLen) : keyOf Try.prog 9 (.string s) = some (mkS s.data.toList) := Go.WideMaps.keyOf_string_mk Try.underlying9 h
theorem keyI (c : Int) (h : (Lit.int .i64 c).wf = true) : keyOf Try.prog 3 (.int .i64 c) = some (mkI c) := keyOf_int_mk Try.underlying3 h
theorem wf64 {c : Int} (h0 : -9223372036854775808 ≤ c) (h1 : c ≤ 9223372036854775807) : (Lit.int .i64 c).wf = true := by
  simp [Lit.wf, IntKind.min, IntKind.max, IntKind.bits, IntKind.signed]
  omega

/-- block T is a tally: no map yet, or one that holds f -/
def TK (mk : κ → Lit) (kt ty : TypeId) (w : World) (base T n : Nat) (f : κ → Int) (h : κ → Prop) : Prop :=
  base ≤ T ∧ ((w.heap[T]? = some (.cells #[.map none] ty (0, 0)) ∧ (∀ x, f x = 0) ∧ ∀ x, ¬ h x) ∨ ∃ M, w.heap[T]? = some (.cells #[.map (some M)] ty (0, 0)) ∧ base ≤ M ∧ MapF mk kt w M n f h)
theorem TK.below {ty : TypeId} {w w' : World} {base T n B : Nat} {f : κ → Int} {h : κ → Prop} (H : TK mk kt ty w base T n f h) (hw : w.heap.size ≤ B) (hb : Below B w w') : TK mk kt ty w' base T n f h := by
  obtain ⟨h0, h1⟩ := H
  refine ⟨h0, ?_⟩
  rcases h1 with ⟨hc, r⟩ | ⟨M, hc, r0, r1⟩
  · have := (Array.getElem?_eq_some_iff.1 hc).1
    exact Or.inl ⟨(hb.block T (by omega)).trans hc, r⟩
  · have := (Array.getElem?_eq_some_iff.1 hc).1
    have h2 := r1.lt
    exact Or.inr ⟨M, (hb.block T (by omega)).trans hc, r0, r1.heap (hb.block M (by omega))⟩
/-- the new count -/
def plus (a c : Int) : Int := a + min (max c 0) (1099511627776 - a)
end Go.Proofs.Ytacglolggaobdab.TL
