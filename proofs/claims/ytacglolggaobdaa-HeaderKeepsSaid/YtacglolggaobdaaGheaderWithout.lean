/- header.Without comes to what header_Without.f says: the fields that none of the names names. -/
import Derived.Test.YtacglolggaobdaaHdel
namespace Go.Proofs.Ytacglolggaobdaa.PAll
open Go.RowKit Go.Proofs.YtacglolggaobdaaW.PrintWords Go.Proofs.YtacglolggaobdaaW.PrintLast Go.Proofs.YtacglolggaobdaaW.PrintMore Go.Proofs.Ytacglolggaobdaa.Hn Go.Proofs.Ytacglolggaobdaa.FR
set_option linter.unusedVariables false
set_option linter.unusedSimpArgs false

instance (l : List ByteArray) : Decidable (sizes l) := by unfold sizes; infer_instance

def header_Without.f (l0 : List (S84)) (l1 : List ByteArray) : Option ((List (S84))) := if fit l0 ∧ sizes l1 then some (keepF (isAny l1) l0) else none

set_option maxHeartbeats 1000000 in
set_option maxRecDepth 100000 in
theorem delete_nil (B : Nat) (names : List ByteArray) (w : World) (hN : IsNamed w B names) :
    Calls Try.prog 98 #[.slice none 0 0, .func (.func 109) #[] #[.pointer (some ⟨B, 0, none⟩)]] w fun e w' => e = .returned (.slice none 0 0) ∧ Below w.heap.size w w' := by
  have hidx := indexF_any none 0 [] B names w (Kd.R_reads' (Kd.R_nil k84 84 w 0 (fun _ => True))).2.2 ⟨by simp, by simp⟩ hN
  have HI := Aside0.mk hidx
  clear hidx hN
  go_enter Try.func98, Try.ntmps98
  go_wp2_with (go_at_call 93; refine HI.out.mono ?_; rintro e w1 ⟨rfl, hb1⟩; have HB1 := Aside0.mk hb1; clear hb1; try simp only [idx, List.findIdx?_nil])
  go_ret
  exact ⟨rfl, HB1.out⟩

/-- DeleteFunc of a row of one's own -/
theorem delete_own (l : List S84) (A : Option Addr) (c : Nat) (names : List ByteArray) (wa w : World) (base B : Nat) (v : Value) (hr : Kd.R k84 84 w base (fun _ => True) v l) (hfit : fit l) (hbase : base ≤ w.heap.size)
    (hbox : w.heap[B]? = some (.cells #[.slice A names.length c] 77 (0, 0))) (hA : Kd.C Kd.string wa A names.length names) (hs : sizes names) (hwa : wa.heap.size = base) (hbel : Below base wa w) :
    Calls Try.prog 98 #[v, .func (.func 109) #[] #[.pointer (some ⟨B, 0, none⟩)]] w fun e w' => ∃ v' : Value, e = .returned v' ∧ Kd.R k84 84 w' base (fun _ => True) v' (keepF (isAny names) l) ∧ Below base w w' := by
  subst hwa
  rcases FRow.of hr with ⟨rfl, rfl⟩ | ⟨g, cap, tl, rfl, hg, hrow, hcap, hm, htl⟩
  · refine (delete_nil B names w ⟨⟨A, c, hbox, Kd.C_below hA hbel⟩, hs⟩).mono ?_
    rintro e w' ⟨rfl, hb⟩
    exact ⟨_, rfl, Kd.R_nil _ _ _ _ _, ⟨hb.os, hb.tape, hb.output, hb.size, fun k hk => hb.block k (by omega)⟩⟩
  · have hne : B ≠ g := by
      rintro rfl
      have h1 : w.heap[B]? = some (.cells (fc l ++ tl).toArray 84 (0, 0)) := hrow
      rw [hbox] at h1
      have h2 := Option.some.inj h1
      injection h2 with _ h3
      exact absurd h3 (by decide)
    refine (delete_any g cap l tl B wa.heap.size names w hrow hfit hcap hm htl hg fun W hW => ?_).mono ?_
    · have h1 := hW.below (B := wa.heap.size) hbase hg
      exact ⟨⟨A, c, (hW.block B (blk_lt hbox) hne).trans hbox, Kd.C_below hA (hbel.trans h1)⟩, hs⟩
    · rintro e w' ⟨v', rfl, h1, h2⟩
      exact ⟨v', rfl, h1, h2.below hbase hg⟩

set_option maxHeartbeats 1000000 in
set_option maxRecDepth 100000 in
theorem header_Without.calls (A0 : Option Addr) (c0 : Nat) (l0 : List (S84)) (A1 : Option Addr) (c1 : Nat) (l1 : List ByteArray) (r : List (S84)) (w : World) (hr0 : Kd.C k84 w A0 l0.length l0) (hc0 : l0.length ≤ c0) (hr1 : Kd.C Kd.string w A1 l1.length l1) (hc1 : l1.length ≤ c1) (h : header_Without.f l0 l1 = some r) :
    Calls Try.prog 66 #[.slice A0 l0.length c0, .slice A1 l1.length c1] w fun e w' => ∃ v0_ : Value, e = .returned (v0_) ∧ Kd.R k84 84 w' w.heap.size (fun _ => True) v0_ r ∧ Below w.heap.size w w' := by
  unfold header_Without.f at h
  by_cases hb : fit l0 ∧ sizes l1
  · rw [if_pos hb] at h
    obtain rfl := Option.some.inj h
    clear h
    have hcl := Aside0.mk (clone_any A0 c0 l0 w hr0 hb.1.1)
    have HF := Aside0.mk hb
    have HR1 := Aside0.mk hr1
    clear hr0 hr1 hb
    go_enter Try.func66, Try.ntmps66
    go_wp2_with (first | (go_at_call 99; refine hcl.out.mono ?_; rintro e w1 ⟨v1, rfl, ho1, hb1⟩; have HO1 := Aside0.mk ho1; have HB1 := Aside0.mk hb1; clear ho1 hb1) | (go_at_call 94; refine (named_any _ _ _ _).mono ?_; rintro e w2 ⟨rfl, rfl⟩) | (go_at_call 98; go_loud (refine (delete_own l0 A1 c1 l1 w _ w.heap.size _ v1 (Kd.R_below HO1.out ((Below.refl _ _).alloc (Nat.le_refl _) _)) HF.out.1 (Nat.le_trans HB1.out.size (by simp [World.size_alloc])) (heap_alloc_new _ _) HR1.out HF.out.2 rfl (HB1.out.trans ((Below.refl _ _).alloc HB1.out.size _))).mono ?_; rintro e w3 ⟨v3, rfl, ho3, hb3⟩; have HO3 := Aside0.mk ho3; have HB3 := Aside0.mk ((HB1.out.trans ((Below.refl _ _).alloc HB1.out.size _)).trans hb3); clear ho3 hb3)))
    go_ret
    exact ⟨_, rfl, HO3.out, HB3.out⟩
  · rw [if_neg hb] at h
    exact absurd h (by simp)
end Go.Proofs.Ytacglolggaobdaa.PAll
