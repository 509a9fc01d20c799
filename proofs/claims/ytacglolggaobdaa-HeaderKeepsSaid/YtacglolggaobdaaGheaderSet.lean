/- header.Set comes to what header_Set.f says: the first field so named gets the value, the others so named go, or there is one more. -/
import Derived.Test.YtacglolggaobdaaGheaderWithout
import Derived.Test.YtacglolggaobdaaGheaderWith
import Derived.StillTailTactics
import Derived.Outline
namespace Go.Proofs.Ytacglolggaobdaa.PAll
open Go.RowKit Go.Proofs.YtacglolggaobdaaW.PrintWords Go.Proofs.YtacglolggaobdaaW.PrintLast Go.Proofs.YtacglolggaobdaaW.PrintMore Go.Proofs.Ytacglolggaobdaa.Hn Go.Proofs.Ytacglolggaobdaa.FR
set_option linter.unusedVariables false
set_option linter.unusedSimpArgs false

def setF (l : List S84) (nm v : ByteArray) : List S84 := match l.findIdx? (isN nm) with
  | none => l ++ [⟨nm, v⟩]
  | some i => l.take i ++ [⟨(l.getD i ⟨nm, v⟩).f0, v⟩] ++ keepF (isN nm) (l.drop (i + 1))
def header_Set.f (l0 : List (S84)) (a1 : ByteArray) (a2 : ByteArray) : Option ((List (S84))) := if fit l0 ∧ a1.size ≤ 9223372036854775807 then some (setF l0 a1 a2) else none

theorem fit_sub {l m : List S84} (h : fit l) (hs : m.Sublist l) : fit m := ⟨by have := hs.length_le; have := h.1; omega, fun x hx => h.2 x (hs.subset hx)⟩
theorem idx_find {l : List S84} {p : S84 → Bool} {i : Nat} (h : idx p l = (i : Int)) : l.findIdx? p = some i := by
  unfold idx at h
  cases hf : l.findIdx? p with
  | some j =>
    rw [hf] at h
    have h3 : (j : Int) = (i : Int) := h
    congr 1; omega
  | none => rw [hf] at h; have h3 : (-1 : Int) = (i : Int) := h; omega
theorem idx_nofind {l : List S84} {p : S84 → Bool} (h : idx p l < 0) : l.findIdx? p = none := by
  unfold idx at h
  cases hf : l.findIdx? p with
  | some j => rw [hf] at h; have h3 : (j : Int) < 0 := h; omega
  | none => rfl

set_option maxHeartbeats 4000000 in
set_option maxRecDepth 100000 in
theorem header_Set.calls (A0 : Option Addr) (c0 : Nat) (l0 : List (S84)) (a1 : ByteArray) (a2 : ByteArray) (r : List (S84)) (w : World) (hr0 : Kd.C k84 w A0 l0.length l0) (hc0 : l0.length ≤ c0) (h : header_Set.f l0 a1 a2 = some r) :
    Calls Try.prog 70 #[.slice A0 l0.length c0, .string a1, .string a2] w fun e w' => ∃ v0_ : Value, e = .returned (v0_) ∧ Kd.R k84 84 w' w.heap.size (fun _ => True) v0_ r ∧ Below w.heap.size w w' := by
  unfold header_Set.f at h
  by_cases hb : fit l0 ∧ a1.size ≤ 9223372036854775807
  · rw [if_pos hb] at h
    have h := Option.some.inj h
    obtain ⟨hfit, hnm⟩ := hb
    have HR := Aside0.mk hr0
    have HF := Aside0.mk hfit
    have hlen := hfit.1
    have hbel : Below w.heap.size w ((w.alloc (.cells #[.string a1] 9)).alloc (.cells #[.slice (some ⟨w.heap.size, 0, none⟩) 1 1] 77)) := ((Below.refl _ _).alloc (Nat.le_refl _) _).alloc (by simp [World.size_alloc]) _
    have HB := Aside0.mk hbel
    have HN := Aside0.mk (named_one a1 w hnm)
    obtain ⟨k, hk⟩ : ∃ k : Int, k = idx (isAny [a1]) l0 := ⟨_, rfl⟩
    have HK := Aside0.mk hk
    clear hr0 hfit hbel
    rw [isAny_one] at hk
    by_cases hneg : k < 0
    · have hfi := idx_nofind (l := l0) (p := isN a1) (by rw [← hk]; exact hneg)
      unfold setF at h
      rw [hfi] at h
      have H := Aside0.mk h
      clear h hk hfi
      go_enter Try.func70, Try.ntmps70
      go_wp2_with (first | (go_at_call 94; refine (named_any _ _ _ _).mono ?_; rintro e w0 ⟨rfl, rfl⟩) | (go_at_call 93; go_loud (refine (indexF_any A0 c0 l0 _ [a1] _ (Kd.C_below HR.out HB.out) HF.out HN.out).mono ?_; rw [← HK.out]; rintro e w1 ⟨rfl, hb1⟩; have HB1 := Aside0.mk (below_step HB.out hb1); clear hb1)) | (go_at_call 68; go_loud (refine (header_With.calls A0 c0 l0 a1 a2 _ _ (Kd.C_below HR.out HB1.out) hc0 (if_pos HF.out)).mono ?_; rintro e w2 ⟨v2, rfl, ho2, hb2⟩; have HO2 := Aside0.mk ho2; have HB2 := Aside0.mk hb2; clear ho2 hb2)))
      go_ret
      refine ⟨_, rfl, ?_, below_step HB1.out HB2.out⟩
      rw [← H.out]
      exact Kd.R_lower HO2.out HB1.out.size
    · obtain ⟨i, hi, hki, hf, _⟩ := idx_some (l := l0) (p := isN a1) (by rw [← hk]; exact hneg)
      have hfi := idx_find hki
      obtain rfl : k = (i : Int) := by rw [hk]; exact hki
      unfold setF at h
      rw [hfi] at h
      have hgd : l0.getD i ⟨a1, a2⟩ = l0[i] := by rw [List.getD_eq_getElem?_getD, List.getElem?_eq_getElem hi]; rfl
      simp only [hgd] at h
      obtain ⟨x, hxe⟩ : ∃ x, x = l0[i] := ⟨_, rfl⟩
      rw [← hxe] at h
      have H := Aside0.mk h
      obtain ⟨ad, e, hx0, hx1⟩ := at_T84 HR.out (i : Int) (by omega) (by omega)
      cases e
      rw [rd_at l0 i hi, Int.toNat_natCast, ← hxe] at hx0 hx1
      obtain ⟨i0, hinf, _, hsz, _⟩ := info_parts infoF
      have hcut1 := cut_to (P := Try.prog) 73 84 .i64 Try.underlying73 hinf (some ad) l0.length c0 (i : Int) (by omega) (by omega) hc0
      have hcut2 := cut_from (P := Try.prog) 73 84 .i64 Try.underlying73 hinf 2 hsz (some ad) l0.length c0 ((i : Int) + 1) (by omega) (by omega)
      have hC1 := Kd.C_take (m := i) HR.out (by omega)
      have hC2 := Kd.C_drop (m := i + 1) HR.out (by omega) hc0
      rw [show ((i : Int) + 1).toNat = i + 1 by omega] at hcut2
      rw [show ((i : Int)).toNat = i by omega] at hcut1
      have hs2 : k84.sz = 2 := rfl
      rw [hs2] at hC2
      obtain ⟨A2, hA2⟩ : ∃ A2, A2 = (if c0 = i + 1 then some ad else Option.map (fun x => x.add ((i + 1) * 2)) (some ad)) := ⟨_, rfl⟩
      rw [← hA2] at hcut2 hC2
      obtain ⟨y1, hy1⟩ : ∃ y1, y1 = l0.take i := ⟨_, rfl⟩
      obtain ⟨y2, hy2⟩ : ∃ y2, y2 = l0.drop (i + 1) := ⟨_, rfl⟩
      have hl1 : y1.length = i := by rw [hy1, List.length_take]; omega
      have hl2 : l0.length - (i + 1) = y2.length := by rw [hy2, List.length_drop]
      have hf1 : fit y1 := by rw [hy1]; exact fit_sub HF.out (List.take_sublist _ _)
      have hf2 : fit y2 := by rw [hy2]; exact fit_sub HF.out (List.drop_sublist _ _)
      rw [← hy1] at hC1 h
      rw [← hy2] at hC2 h
      rw [hl2] at hcut2
      have H := Aside0.mk h
      have HF1 := Aside0.mk hf1
      have HF2 := Aside0.mk hf2
      have HC1 := Aside0.mk hC1
      have HC2 := Aside0.mk hC2
      have HL1 := Aside0.mk hl1
      have hi1 : (i : Int) < (l0.length : Int) := by omega
      have hi2 : l0.length ≤ 1000000 := hlen
      have hc1 : y2.length ≤ c0 - (i + 1) := by omega
      have hl3 : y1.length + y2.length ≤ 1000000 := by omega
      clear h hk hneg hki hf hfi hgd hxe hl1 hl2 hf1 hf2 hC1 hC2 hy1 hy2 hA2 hs2 hsz hinf
      have hcell : ∀ {W : World}, Below w.heap.size w W → W.cell? (ad.add (i * 2)) = some (.string x.f0) := fun hb => (hb.cell (World.block_lt_of_cell? w _ hx0)).trans hx0
      have HCE := Aside0.mk @hcell
      clear hcell hx0 hx1
      go_enter Try.func70, Try.ntmps70
      go_wp2_with (first | (go_at_call 94; refine (named_any _ _ _ _).mono ?_; rintro e w0 ⟨rfl, rfl⟩) | (go_at_call 93; go_loud (refine (indexF_any (some ad) c0 l0 _ [a1] _ (Kd.C_below HR.out HB.out) HF.out HN.out).mono ?_; rw [← HK.out]; rintro e w1 ⟨rfl, hb1⟩; have HB1 := Aside0.mk (below_step HB.out hb1); have HN1 := Aside0.mk (HN.out.below hb1); have hx0 := HCE.out HB1.out; clear hb1)))
      go_still_tail 9, (by kernel_rfl)
      obtain ⟨wd, hwd⟩ : ∃ wd, wd = w1.drew := ⟨_, rfl⟩
      have hb1d : Below w1.heap.size w1 wd := by rw [hwd]; exact (Below.refl _ _).drew
      have HBD := Aside0.mk (below_step HB1.out hb1d)
      have HND := Aside0.mk (HN1.out.below hb1d)
      have hwith := header_With.calls (some ad) c0 y1 x.f0 a2 _ wd (Kd.C_below HC1.out HBD.out) (by rw [HL1.out]; omega) (if_pos HF1.out)
      rw [HL1.out] at hwith
      have HW := Aside0.mk hwith
      go_wp2_with fail
      rw [← hwd]
      clear hwd hb1d hwith
      go_wp2_with (first | (go_at_call 68; go_loud (refine HW.out.mono ?_; rintro e w2 ⟨v2, rfl, ho2, hb2⟩; have HO2 := Aside0.mk ho2; have HB2 := Aside0.mk hb2; have HN2 := Aside0.mk (HND.out.below hb2); have HBW := Aside0.mk (below_step HBD.out hb2); clear ho2 hb2)) | (go_at_call 99; go_loud (refine (clone_any A2 (c0 - (i + 1)) y2 _ (Kd.C_below HC2.out HBW.out) HF2.out.1).mono ?_; rintro e w3 ⟨v3, rfl, ho3, hb3⟩; have HO3 := Aside0.mk ho3; have HB3 := Aside0.mk hb3; clear ho3 hb3)))
      obtain ⟨⟨AN, cN, hn1, hn2⟩, hn3⟩ := HN2.out
      have hdel := delete_own y2 AN cN [a1] w2 w3 w2.heap.size (w.heap.size + 1) v3 HO3.out HF2.out HB3.out.size ((HB3.out.block _ (blk_lt hn1)).trans hn1) hn2 hn3 rfl HB3.out
      have HD := Aside0.mk hdel
      have hkl := keepF_len (isAny [a1]) y2
      obtain ⟨z, hz⟩ : ∃ z, z = keepF (isAny [a1]) y2 := ⟨_, rfl⟩
      rw [← hz] at hkl
      have HZ := Aside0.mk hz
      clear hn1 hn2 hn3 hdel hz
      go_wp2_with (first | (go_at_call 98; go_loud (refine HD.out.mono ?_; rw [← HZ.out]; rintro e w4 ⟨v4, rfl, ho4, hb4⟩; obtain ⟨A4, c4, rfl⟩ := Kd.R_slice ho4; have HB4 := Aside0.mk (HB3.out.trans hb4); have HBW4 := Aside0.mk (below_step HBW.out HB4.out); have HOO := Aside0.mk (Kd.R_lower (Kd.R_below HO2.out HB4.out) (HBD.out.size)); have HRR := Aside0.mk (Kd.R_reads' ho4).2.2; clear ho4 hb4)) | (at_builtin; go_loud (refine Kd.R_append_rows k84 (Rr := k84.K w4) (w0 := w) w.heap.size rfl (.tmp 32) (.tmp 39) 73 84 (.agg #[.string ⟨#[]⟩, .string ⟨#[]⟩]) 32 rfl Try.underlying73 infoF rfl (by decide) (by omega) v2 (y1 ++ [⟨x.f0, a2⟩]) z A4 z.length c4 (fun _ => True) (fun _ => False) rfl rfl HOO.out HRR.out (fun x cs hk => (by rw [k84_open hk]; exact k84_mkM _ _ _ x)) (fun _ hk => hk.elim) (fun _ _ => trivial) HBW4.out HBW4.out.size (by simp; omega) ?_; intro v1 w5 ho hb hg hat; have HO5 := Aside0.mk ho; have HB5 := Aside0.mk hb; clear ho hb hg hat)))
      go_ret
      refine ⟨_, rfl, ?_, HB5.out⟩
      rw [← H.out, ← isAny_one, ← HZ.out]
      exact HO5.out
  · rw [if_neg hb] at h
    exact absurd h (by simp)
end Go.Proofs.Ytacglolggaobdaa.PAll
