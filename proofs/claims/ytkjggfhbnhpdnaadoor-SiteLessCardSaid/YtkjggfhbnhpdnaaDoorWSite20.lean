/-
  Walks: the law SiteLess.
-/
import Derived.Test.YtkjggfhbnhpdnaaDoorWSite21
namespace Go.Proofs.YtkjggfhbnhpdnaaDoor
open Go.RowKit Go.Lib Go.Maps
attribute [local go_sem] after_cell
set_option linter.unusedVariables false

theorem fits_set {S : SiteR} {C : List CapR} {W : List WantR} {Z : List Int} (h : fitsB S C W Z = true) {i : Nat} (hi : i < Z.length) {b : Int} (h0 : 0 ≤ b) (h1 : b ≤ Z[i]) : fitsB S C W (Z.set i (Z[i] - b)) = true := by
  obtain ⟨hE, _, _, _⟩ := fitsB_iff.1 h
  obtain ⟨_, hWZ, hall⟩ := loadE_zero hE
  have hz : ∀ z ∈ Z, 0 ≤ z := fun z hz => by
    obtain ⟨j, hj, rfl⟩ := List.mem_iff_getElem.1 hz
    exact (wantB_iff.1 (List.all_eq_true.1 hall (W[j]'(by omega), Z[j]) (List.mem_iff_getElem.2 ⟨j, by simp; omega, by simp⟩))).w0
  refine fits_less h (by simp) (fun y hy => ?_) (fun j h3 h4 => ?_)
  · rcases List.mem_or_eq_of_mem_set hy with h | h
    · exact hz y h
    · subst h; omega
  · rw [List.getElem_set]
    split
    · rename_i e; subst e; omega
    · exact Int.le_refl _
theorem encZ_set (Z : List Int) (i : Nat) (y : Int) : (Z.flatMap encZ).set i (.int .i64 y) = (Z.set i y).flatMap encZ := by
  have e : ∀ l : List Int, l.flatMap encZ = l.map (fun z => Value.int .i64 z) := fun l => by
    induction l with
    | nil => rfl
    | cons x l ih => rw [List.flatMap_cons, ih]; rfl
  rw [e, e, List.map_set]
theorem own_free {w : World} {base n size g c : Nat} {e : TypeId} {v : Value} {xs : List Value} (h : w.ownsRow base e size v n xs) (hv : v = .slice (some ⟨g, 0, none⟩) n c) (j : Nat) : w.frozen? ⟨g, j, none⟩ = false := by
  rcases h.2 with ⟨h1, hx⟩ | ⟨g2, cap, cur, h1, hg, hh, _⟩
  · rw [h1] at hv; cases hv
  · rw [h1] at hv
    injection hv with h2 _ _
    injection h2 with h2
    injection h2 with h2 _ _
    subst h2
    exact frozen_of_row w g2 j cur e hh
theorem fits_bd {S : SiteR} {C : List CapR} {W : List WantR} {Z : List Int} (h : fitsB S C W Z = true) {i : Nat} (hi : i < Z.length) : 0 ≤ Z[i] ∧ Z[i] ≤ 1048576 := by
  obtain ⟨hE, _, _, _⟩ := fitsB_iff.1 h
  obtain ⟨_, hWZ, hall⟩ := loadE_zero hE
  have hr := wantB_iff.1 (List.all_eq_true.1 hall (W[i]'(by omega), Z[i]) (List.mem_iff_getElem.2 ⟨i, by simp; omega, by simp⟩))
  exact ⟨hr.w0, hr.w1⟩

set_option maxRecDepth 100000 in
set_option maxHeartbeats 12800000 in
theorem less_early (a : CaseV) (i b : Int) (w : World) (ha : CaseIn w a) (h : ¬ (smallB a.s.S.F.length a.s.S.P.length a.W.length a.Z.length a.C.length = true ∧ fitsB a.s.S a.C a.W a.Z = true ∧ 0 ≤ i ∧ i < (a.Z.length : Int))) : Calls Tryd.prog 8 #[.agg #[.string a.s.S.name, a.s.fv, a.s.pv, a.cv, a.wv, a.zv], .int .i64 i, .int .i64 b] w fun e w' => e = .returned (.bool true) ∧ Below w.heap.size w w' := by
  obtain ⟨⟨S, fv, pv⟩, C, W, Z, cv, wv, zv⟩ := a
  obtain ⟨⟨hF, hP, hn, fF, fP⟩, hC, hW, hZ, fW⟩ := ha
  simp only at hF hP hn fF fP hC hW hZ fW h ⊢
  obtain ⟨A, c, rfl, hlc, hcm, hsl⟩ := islen' hF
  obtain ⟨B, d, rfl, hld, hdm, _⟩ := islen' hP
  obtain ⟨C', c', rfl, hlc', hcm', _⟩ := islen' hC
  obtain ⟨D, d', rfl, hld', hdm', hsw⟩ := islen' hW
  obtain ⟨E, e', rfl, hle', hem', hsz⟩ := islen' hZ
  obtain ⟨W0, hW0, hb0, hg0, hx0⟩ := box1 w #[.string S.name, .slice A S.F.length c, .slice B S.P.length d, .slice C' C.length c', .slice D W.length d', .slice E Z.length e'] 31
  have HSM := Lib.hid (fun w => small_any S.name A B C' D E S.F.length c S.P.length d C.length c' W.length d' Z.length e' w (by unfold maxLen at *; omega))
  have HFI := Lib.hid (fun (w1 : World) (hb : Below W0.heap.size W0 w1) h1 h2 h3 => fits_any S C W Z _ _ _ _ _ w1 ((hF.below hb0).below hb) ((hP.below hb0).below hb) ((hC.below hb0).below hb) ((hW.below hb0).below hb) ((hZ.below hb0).below hb) hn fF fP fW h1 h2 h3)
  have mZ : Z.length ≤ 9223372036854775807 := by unfold maxLen at *; omega
  clear hF hP hC hW hZ hsl hsw hsz
  cases hs : smallB S.F.length S.P.length W.length Z.length C.length with
  | false =>
    go_enter Tryd.func8, Tryd.ntmps8
    go_wp2_with fail
    rw [← hW0]
    clear hW0
    refine (HSM.out _).mono ?_
    rintro e w1 ⟨rfl, hb1⟩
    rw [hs]
    go_wp2_with fail
    refine (siteHolds_any _).mono ?_
    rintro e w2 ⟨rfl, hb2⟩
    go_wp2_with fail
    go_ret
    exact ⟨rfl, below_step hb0 (below_step hb1 hb2)⟩
  | true =>
  obtain ⟨l1, l2, l3, l4, l5⟩ := small_t hs
  cases hfi : fitsB S C W Z with
  | false =>
    go_enter Tryd.func8, Tryd.ntmps8
    go_wp2_with fail
    rw [← hW0]
    clear hW0
    refine (HSM.out _).mono ?_
    rintro e w1 ⟨rfl, hb1⟩
    rw [hs]
    obtain ⟨hc, hf⟩ := bcell hb1
    go_wp2_with fail
    refine (HFI.out _ hb1 (by omega) (by omega) (by omega)).mono ?_
    rintro e w2 ⟨rfl, hb2⟩
    rw [hfi]
    go_wp2_with fail
    refine (siteHolds_any _).mono ?_
    rintro e w3 ⟨rfl, hb3⟩
    go_wp2_with fail
    go_ret
    exact ⟨rfl, below_step hb0 (below_step hb1 (below_step hb2 hb3))⟩
  | true =>
  by_cases hi0 : i < 0
  · clear h
    go_enter Tryd.func8, Tryd.ntmps8
    go_wp2_with fail
    rw [← hW0]
    clear hW0
    refine (HSM.out _).mono ?_
    rintro e w1 ⟨rfl, hb1⟩
    rw [hs]
    obtain ⟨hc, hf⟩ := bcell hb1
    go_wp2_with fail
    refine (HFI.out _ hb1 (by omega) (by omega) (by omega)).mono ?_
    rintro e w2 ⟨rfl, hb2⟩
    rw [hfi]
    go_wp2_with fail
    refine (siteHolds_any _).mono ?_
    rintro e w3 ⟨rfl, hb3⟩
    go_wp2_with fail
    go_ret
    exact ⟨rfl, below_step hb0 (below_step hb1 (below_step hb2 hb3))⟩
  · have hi1 : (Z.length : Int) ≤ i := by
      by_cases hh : (Z.length : Int) ≤ i
      · exact hh
      · exact absurd ⟨hs, hfi, by omega, by omega⟩ h
    clear h
    go_enter Tryd.func8, Tryd.ntmps8
    go_wp2_with fail
    rw [← hW0]
    clear hW0
    refine (HSM.out _).mono ?_
    rintro e w1 ⟨rfl, hb1⟩
    rw [hs]
    obtain ⟨hc, hf⟩ := bcell hb1
    go_wp2_with fail
    refine (HFI.out _ hb1 (by omega) (by omega) (by omega)).mono ?_
    rintro e w2 ⟨rfl, hb2⟩
    rw [hfi]
    clear hc hf
    obtain ⟨hc, hf⟩ := bcell (below_step hb1 hb2)
    go_wp2_with fail
    refine (siteHolds_any _).mono ?_
    rintro e w3 ⟨rfl, hb3⟩
    go_wp2_with fail
    go_ret
    exact ⟨rfl, below_step hb0 (below_step hb1 (below_step hb2 hb3))⟩

set_option maxRecDepth 100000 in
set_option maxHeartbeats 12800000 in
theorem lawLess (a : CaseV) (i b : Int) (w : World) (ha : CaseIn w a) : Calls Tryd.prog 8 #[.agg #[.string a.s.S.name, a.s.fv, a.s.pv, a.cv, a.wv, a.zv], .int .i64 i, .int .i64 b] w fun e w' => e = .returned (.bool true) ∧ Below w.heap.size w w' := by
  by_cases hall : smallB a.s.S.F.length a.s.S.P.length a.W.length a.Z.length a.C.length = true ∧ fitsB a.s.S a.C a.W a.Z = true ∧ 0 ≤ i ∧ i < (a.Z.length : Int)
  rotate_left 1
  · exact less_early a i b w ha hall
  obtain ⟨⟨S, fv, pv⟩, C, W, Z, cv, wv, zv⟩ := a
  obtain ⟨⟨hF, hP, hn, fF, fP⟩, hC, hW, hZ, fW⟩ := ha
  simp only at hF hP hn fF fP hC hW hZ fW hall ⊢
  obtain ⟨hs, hfi, hi0, hi1⟩ := hall
  obtain ⟨l1, l2, l3, l4, l5⟩ := small_t hs
  obtain ⟨A, c, rfl, hlc, hcm, hsl⟩ := islen' hF
  obtain ⟨B, d, rfl, hld, hdm, _⟩ := islen' hP
  obtain ⟨C', c', rfl, hlc', hcm', _⟩ := islen' hC
  obtain ⟨D, d', rfl, hld', hdm', hsw⟩ := islen' hW
  obtain ⟨E, e', rfl, hle', hem', hsz⟩ := islen' hZ
  obtain ⟨W0, hW0, hb0, hg0, hx0⟩ := box1 w #[.string S.name, .slice A S.F.length c, .slice B S.P.length d, .slice C' C.length c', .slice D W.length d', .slice E Z.length e'] 31
  have HSM := Lib.hid (fun w => small_any S.name A B C' D E S.F.length c S.P.length d C.length c' W.length d' Z.length e' w (by unfold maxLen at *; omega))
  rw [hs] at HSM
  have HFI := Lib.hid (fun (w1 : World) (hb : Below W0.heap.size W0 w1) (Y : List Int) (v : Value) (hv : IsSl w1 1 v (Y.map encZ)) h1 h2 h3 => fits_any S C W Y _ _ _ _ v w1 ((hF.below hb0).below hb) ((hP.below hb0).below hb) ((hC.below hb0).below hb) ((hW.below hb0).below hb) hv hn fF fP fW h1 h2 h3)
  have HZ := Lib.hid (hZ.below hb0)
  have HSZ := Lib.hid (hsz.below hb0)
  obtain ⟨I, rfl⟩ : ∃ I : Nat, i = I := ⟨i.toNat, by omega⟩
  have hIZ : I < Z.length := by omega
  have hbd := fits_bd hfi hIZ
  obtain ⟨bz, oz, hE, hbz, d0⟩ := int_at HSZ.out hIZ
  have HST := Lib.hid (fun h0 h1 => fits_set hfi hIZ (b := b) h0 h1)
  have hn3 : (0 : Int) ≤ (I : Int) := by omega
  have HES := Lib.hid (fun y => encZ_set Z I y)
  have hzi : (Z.flatMap encZ)[I]? = some (.int .i64 Z[I]) := by
    have := flat_at encZ 1 encZ_len Z I Z[I] (List.getElem?_eq_getElem hIZ) 0 _ rfl
    simpa using this
  have HZI := Lib.hid hzi
  clear hF hP hC hW hZ hsl hsw hsz hn fF fP fW hs hi0 hzi
  generalize Z[I] = z at *
  subst hE
  by_cases hb1 : b < 0
  · skip
    go_enter Tryd.func8, Tryd.ntmps8
    go_wp2_with fail
    rw [← hW0]
    clear hW0
    refine (HSM.out _).mono ?_
    rintro e w1 ⟨rfl, hb1⟩
    obtain ⟨hc, hf⟩ := bcell hb1
    go_wp2_with fail
    refine (HFI.out _ hb1 Z _ (HZ.out.below hb1) (by omega) (by omega) (by omega)).mono ?_
    rintro e w2 ⟨rfl, hb2⟩
    rw [hfi]
    clear hc hf
    obtain ⟨hc, hf⟩ := bcell (below_step hb1 hb2)
    go_wp2_with fail
    refine (siteHolds_any _).mono ?_
    rintro e w3 ⟨rfl, hb3⟩
    go_wp2_with fail
    go_ret
    exact ⟨rfl, below_step hb0 (below_step hb1 (below_step hb2 hb3))⟩
  by_cases hb2 : z < b
  · skip
    go_enter Tryd.func8, Tryd.ntmps8
    go_wp2_with fail
    rw [← hW0]
    clear hW0
    refine (HSM.out _).mono ?_
    rintro e w1 ⟨rfl, hb1⟩
    obtain ⟨hc, hf⟩ := bcell hb1
    go_wp2_with fail
    refine (HFI.out _ hb1 Z _ (HZ.out.below hb1) (by omega) (by omega) (by omega)).mono ?_
    rintro e w2 ⟨rfl, hb2⟩
    rw [hfi]
    clear hc hf
    obtain ⟨hc, hf⟩ := bcell (below_step hb1 hb2)
    go_wp2_with fail
    refine (siteHolds_any _).mono ?_
    rintro e w3 ⟨rfl, hb3⟩
    go_wp2_with fail
    go_ret
    exact ⟨rfl, below_step hb0 (below_step hb1 (below_step hb2 hb3))⟩
  have HST2 := Lib.hid (HST.out (by omega) (by omega))
  obtain ⟨iz, hiz, hz0, hz1, hz2⟩ := info_parts intInfo
  clear HST
  go_enter Tryd.func8, Tryd.ntmps8
  go_wp2_with fail
  rw [← hW0]
  clear hW0
  refine (HSM.out _).mono ?_
  rintro e w1 ⟨rfl, hb1⟩
  obtain ⟨hc, hf⟩ := bcell hb1
  go_wp2_with fail
  refine (HFI.out _ hb1 Z _ (HZ.out.below hb1) (by omega) (by omega) (by omega)).mono ?_
  rintro e w2 ⟨rfl, hb2⟩
  rw [hfi]
  have hb02 := below_step hb1 hb2
  have hx2 : ∀ j, w2.cell? ⟨w.heap.size, j, none⟩ = (#[.string S.name, .slice A S.F.length c, .slice B S.P.length d, .slice C' C.length c', .slice D W.length d', .slice (some ⟨bz, oz, none⟩) Z.length e'] : Array Value)[j]? := fun j => (hb02.cell (p := ⟨w.heap.size, j, none⟩) hg0).trans (hx0 j)
  have hg2 : w.heap.size < w2.heap.size := Nat.lt_of_lt_of_le hg0 hb02.size
  clear hc hf hx0 hb1 hb2
  obtain ⟨hc, hf⟩ := bcell hb02
  have hbA := below_alloc hb02 (.cells #[] 3)
  go_wp2_with (at_builtin; refine wpList_append_list _ rfl (.tmp 48) (.tmp 50) _ rfl W0.heap.size 3 iz _ 1 8 Tryd.underlying29 hiz hz0 hz1 hz2 rfl (by decide) encZ_len encZ_one (.slice (some ⟨w2.heap.size, 0, none⟩) 0 0) 0 [] rfl (World.ownsRow_lit _ #[] 0 hb02.size (by decide) rfl) _ _ Z rfl (HSZ.out.below hbA) (by unfold maxLen; omega) (by omega) (by simp; have := hb02.size; omega) ?_; intro v3 w3 hown3 hgrow3 hnil3 hblk3; rw [Nat.zero_add, List.nil_append] at hown3; obtain ⟨g, cap, rfl, hgb, hgl, hcap, hcap2, hcl⟩ := own_split hown3 (by omega); have hzg := hcl I _ HZI.out; have hfg := own_free hown3 (g := g) rfl I; have hbw3 : Below W0.heap.size W0 w3 := hbA.grown hgrow3 hbA.size (fun j hj => by have h2 : some w2.heap.size = some j := hj; injection h2 with h2; subst h2; exact hb02.size); have hbx3 : Below w2.heap.size w2 w3 := ((Below.refl _ _).alloc (Nat.le_refl _) _).grown hgrow3 (by simp) (fun j hj => by have h2 : some w2.heap.size = some j := hj; injection h2 with h2; omega); have hx3 := fun (j : Nat) => (hbx3.cell (p := ⟨w.heap.size, j, none⟩) hg2).trans (hx2 j); have hfar := far_cell (b := w.heap.size) (g := g) (by omega); clear hc hf hcl)
  have hb04 : Below W0.heap.size W0 (w3.setCell ⟨g, I, none⟩ (.int .i64 (z - b))) := hbw3.setCell (p := ⟨g, I, none⟩) hgb _
  have hown4 := (hown3.stored I (.int .i64 (z - b))).1
  rw [HES.out] at hown4
  refine (HFI.out _ hb04 (Z.set I (z - b)) _ (IsSl.of_own encZ_len hown4 (by simp)) (by omega) (by omega) (by simp; omega)).mono ?_
  rintro e w5 ⟨rfl, hb5⟩
  rw [HST2.out]
  go_wp2_with fail
  refine (siteHolds_any _).mono ?_
  rintro e w6 ⟨rfl, hb6⟩
  go_wp2_with fail
  go_ret
  exact ⟨rfl, below_step hb0 (below_step hb04 (below_step hb5 hb6))⟩

end Go.Proofs.YtkjggfhbnhpdnaaDoor
