/-
  Walks: the law SiteTurns.
-/
import Derived.Test.YtkjggfhbnhpdnaaDoorWSite17
import Derived.Test.YtkjggfhbnhpdnaaDoorPSite4
import Derived.Test.YtkjggfhbnhpdnaaDoorAp2
import Derived.Deep.RegionLaw
namespace Go.Proofs.YtkjggfhbnhpdnaaDoor
open Go.RowKit Go.Lib Go.Maps
attribute [local go_sem] after_cell
set_option linter.unusedVariables false

theorem WantR.one (x : WantR) : ∀ u ∈ x.cells, u.oneCell' = true := by
  intro u hu
  simp [WantR.cells] at hu
  rcases hu with rfl | rfl | rfl <;> rfl
theorem encZ_one (x : Int) : ∀ u ∈ encZ x, u.oneCell' = true := by
  intro u hu
  simp [encZ] at hu
  subst hu; rfl
theorem wantInfo : (Tryd.prog.info? 61).map (fun i => (i.zero, i.size, i.bytes)) = some (some (.agg #[.int .i64 0, .int .i64 0, .int .i64 0]), 3, 24) := by kernel_rfl

set_option maxRecDepth 100000 in
set_option maxHeartbeats 12800000 in
theorem turns_early (a : CaseV) (k : Int) (w : World) (ha : CaseIn w a) (h : ¬ (smallB a.s.S.F.length a.s.S.P.length a.W.length a.Z.length a.C.length = true ∧ 0 ≤ k ∧ k ≤ (a.W.length : Int) ∧ a.Z.length = a.W.length)) : Calls Tryd.prog 9 #[.agg #[.string a.s.S.name, a.s.fv, a.s.pv, a.cv, a.wv, a.zv], .int .i64 k] w fun e w' => e = .returned (.bool true) ∧ Below w.heap.size w w' := by
  obtain ⟨⟨S, fv, pv⟩, C, W, Z, cv, wv, zv⟩ := a
  obtain ⟨⟨hF, hP, hn, fF, fP⟩, hC, hW, hZ, fW⟩ := ha
  simp only at hF hP hn fF fP hC hW hZ fW h ⊢
  obtain ⟨A, c, rfl, hlc, hcm, hsl⟩ := islen' hF
  obtain ⟨B, d, rfl, hld, hdm, _⟩ := islen' hP
  obtain ⟨C', c', rfl, hlc', hcm', _⟩ := islen' hC
  obtain ⟨D, d', rfl, hld', hdm', hsw⟩ := islen' hW
  obtain ⟨E, e', rfl, hle', hem', hsz⟩ := islen' hZ
  obtain ⟨W0, hW0, hb0, hg0, hx0⟩ := box1 w #[.string S.name, .slice A S.F.length c, .slice B S.P.length d, .slice C' C.length c', .slice D W.length d', .slice E Z.length e'] 31
  have HSM := Lib.hid (fun w => small_any S.name A B C' D E S.F.length c S.P.length d C.length c' W.length d' Z.length e' w (by unfold maxLen at *; omega))
  have mW : W.length ≤ 9223372036854775807 := by unfold maxLen at *; omega
  clear hF hP hC hW hZ hsl hsw hsz
  cases hs : smallB S.F.length S.P.length W.length Z.length C.length with
  | false =>
    go_enter Tryd.func9, Tryd.ntmps9
    go_wp2_with fail
    rw [← hW0]
    clear hW0
    refine (HSM.out _).mono ?_
    rintro e w1 ⟨rfl, hb1⟩
    rw [hs]
    go_wp2_with fail
    refine (siteHolds_any _).mono ?_
    rintro e w2 ⟨rfl, hb2⟩
    go_wp2_with fail
    go_ret
    exact ⟨rfl, below_step hb0 (below_step hb1 hb2)⟩
  | true =>
  by_cases hk0 : k < 0
  · skip
    go_enter Tryd.func9, Tryd.ntmps9
    go_wp2_with fail
    rw [← hW0]
    clear hW0
    refine (HSM.out _).mono ?_
    rintro e w1 ⟨rfl, hb1⟩
    rw [hs]
    go_wp2_with fail
    refine (siteHolds_any _).mono ?_
    rintro e w2 ⟨rfl, hb2⟩
    go_wp2_with fail
    go_ret
    exact ⟨rfl, below_step hb0 (below_step hb1 hb2)⟩
  by_cases hk1 : (W.length : Int) < k
  · skip
    go_enter Tryd.func9, Tryd.ntmps9
    go_wp2_with fail
    rw [← hW0]
    clear hW0
    refine (HSM.out _).mono ?_
    rintro e w1 ⟨rfl, hb1⟩
    rw [hs]
    obtain ⟨hc, hf⟩ := bcell hb1
    go_wp2_with fail
    refine (siteHolds_any _).mono ?_
    rintro e w2 ⟨rfl, hb2⟩
    go_wp2_with fail
    go_ret
    exact ⟨rfl, below_step hb0 (below_step hb1 hb2)⟩
  · have hzw : ¬ Z.length = W.length := fun e => h ⟨hs, by omega, by omega, e⟩
    have hne : ((Z.length : Int) != (W.length : Int)) = true := by simp; omega
    clear h
    go_enter Tryd.func9, Tryd.ntmps9
    go_wp2_with fail
    rw [← hW0]
    clear hW0
    refine (HSM.out _).mono ?_
    rintro e w1 ⟨rfl, hb1⟩
    rw [hs]
    obtain ⟨hc, hf⟩ := bcell hb1
    go_wp2_with fail
    refine (siteHolds_any _).mono ?_
    rintro e w2 ⟨rfl, hb2⟩
    go_wp2_with fail
    go_ret
    exact ⟨rfl, below_step hb0 (below_step hb1 hb2)⟩

set_option maxRecDepth 100000 in
set_option maxHeartbeats 12800000 in
theorem lawTurns (a : CaseV) (k : Int) (w : World) (ha : CaseIn w a) : Calls Tryd.prog 9 #[.agg #[.string a.s.S.name, a.s.fv, a.s.pv, a.cv, a.wv, a.zv], .int .i64 k] w fun e w' => e = .returned (.bool true) ∧ Below w.heap.size w w' := by
  by_cases hall : smallB a.s.S.F.length a.s.S.P.length a.W.length a.Z.length a.C.length = true ∧ 0 ≤ k ∧ k ≤ (a.W.length : Int) ∧ a.Z.length = a.W.length
  rotate_left 1
  · exact turns_early a k w ha hall
  obtain ⟨⟨S, fv, pv⟩, C, W, Z, cv, wv, zv⟩ := a
  obtain ⟨⟨hF, hP, hn, fF, fP⟩, hC, hW, hZ, fW⟩ := ha
  simp only at hF hP hn fF fP hC hW hZ fW hall ⊢
  obtain ⟨hs, hk0, hk1, hlen⟩ := hall
  obtain ⟨l1, l2, l3, l4, l5⟩ := small_t hs
  obtain ⟨A, c, rfl, hlc, hcm, hsl⟩ := islen' hF
  obtain ⟨B, d, rfl, hld, hdm, _⟩ := islen' hP
  obtain ⟨C', c', rfl, hlc', hcm', _⟩ := islen' hC
  obtain ⟨D, d', rfl, hld', hdm', hsw⟩ := islen' hW
  obtain ⟨E, e', rfl, hle', hem', hsz⟩ := islen' hZ
  obtain ⟨W0, hW0, hb0, hg0, hx0⟩ := box1 w #[.string S.name, .slice A S.F.length c, .slice B S.P.length d, .slice C' C.length c', .slice D W.length d', .slice E Z.length e'] 31
  have HF := Lib.hid (hF.below hb0)
  have HP := Lib.hid (hP.below hb0)
  have HW := Lib.hid (hW.below hb0)
  have HZ := Lib.hid (hZ.below hb0)
  have HSW := Lib.hid (hsw.below hb0)
  have HSZ := Lib.hid (hsz.below hb0)
  have HSM := Lib.hid (fun w => small_any S.name A B C' D E S.F.length c S.P.length d C.length c' W.length d' Z.length e' w (by unfold maxLen at *; omega))
  rw [hs] at HSM
  obtain ⟨K, rfl⟩ : ∃ K : Nat, k = K := ⟨k.toNat, by omega⟩
  have hKW : K ≤ W.length := by omega
  have hKZ : K ≤ Z.length := by omega
  have hne : ((Z.length : Int) != (W.length : Int)) = false := by simp; omega
  have HNF := Lib.hid (And.intro hn (And.intro fF (And.intro fP fW)))
  obtain ⟨het, hlt⟩ := loadE_turn (S := S) hlen.symm K
  have HLD := Lib.hid (fun (w1 : World) (hb : Below W0.heap.size W0 w1) => load_any S W Z _ _ _ _ w1 (HF.out.below hb) (HP.out.below hb) (HW.out.below hb) (HZ.out.below hb) HNF.out.1 HNF.out.2.1 HNF.out.2.2.1 HNF.out.2.2.2 (by omega) (by omega))
  have HLT : Hid (∀ (w1 : World) (hb : Below W0.heap.size W0 w1) (v1 v2 : Value), IsSl w1 3 v1 ((W.drop K ++ W.take K).map WantR.cells) → IsSl w1 1 v2 ((Z.drop K ++ Z.take K).map encZ) →
      Calls Tryd.prog 21 #[.agg #[.string S.name, .slice A S.F.length c, .slice B S.P.length d], v1, v2] w1 fun e w' => ∃ v, e = .returned (.tuple #[v, .int .i64 (loadE S W Z)]) ∧ IsSl w' 4 v ((loadsOf S W Z).map CapR.cells) ∧ Below w1.heap.size w1 w') := by
    intro w1 hb v1 v2 h1 h2
    have := load_any S (W.drop K ++ W.take K) (Z.drop K ++ Z.take K) _ _ _ _ w1 (HF.out.below hb) (HP.out.below hb) h1 h2 HNF.out.1 HNF.out.2.1 HNF.out.2.2.1 (fun x hx => HNF.out.2.2.2 x (by rcases List.mem_append.1 hx with h | h; exact List.mem_of_mem_drop h; exact List.mem_of_mem_take h)) (by simp; omega) (by simp; omega)
    rw [het, hlt] at this
    exact this
  have hLL : (loadsOf S W Z).length ≤ 1000 := by
    by_cases h0 : loadE S W Z = 0
    · rw [loadsOf_ok h0, loadL_len]; omega
    · rw [loadsOf_no h0]; simp
  obtain ⟨D2, hD2⟩ : ∃ D2, (if d' = K then D else Option.map (fun x => x.add (K * 3)) D) = D2 := ⟨_, rfl⟩
  obtain ⟨E2, hE2⟩ : ∃ E2, (if e' = K then E else Option.map (fun x => x.add K) E) = E2 := ⟨_, rfl⟩
  have QW1 : Hid (SlAt W0 3 D ((W.take K).map WantR.cells)) := by unfold Hid; rw [List.map_take]; exact HSW.out.take K
  have QW2 : Hid (SlAt W0 3 D2 ((W.drop K).map WantR.cells)) := by unfold Hid; rw [← hD2, List.map_drop]; exact subAddr_at (size := 3) HSW.out (by simpa using hld')
  have QZ1 : Hid (SlAt W0 1 E ((Z.take K).map encZ)) := by unfold Hid; rw [List.map_take]; exact HSZ.out.take K
  have QZ2 : Hid (SlAt W0 1 E2 ((Z.drop K).map encZ)) := by
    have h := subAddr_at (size := 1) (k := K) HSZ.out (by simpa using hle')
    unfold Hid
    rw [← hE2, List.map_drop]
    unfold subAddr at h
    simp only [Nat.mul_one] at h
    exact h
  have HWT : Hid ((W.take K).length = K) := by unfold Hid; rw [List.length_take]; omega
  have HWD : Hid ((W.drop K).length = W.length - K) := by unfold Hid; rw [List.length_drop]
  have HZT : Hid ((Z.take K).length = K) := by unfold Hid; rw [List.length_take]; omega
  have HZD : Hid ((Z.drop K).length = Z.length - K) := by unfold Hid; rw [List.length_drop]
  have hKd : (K : Int) ≤ (d' : Int) := by omega
  have hKe : (K : Int) ≤ (e' : Int) := by omega
  have hKz : (K : Int) ≤ (Z.length : Int) := by omega
  have HLEN := Lib.hid hlen
  have hn1 : ¬ W.length < K := by omega
  have hn2 : ¬ Z.length < K := by omega
  have hn3 : (0 : Int) ≤ (K : Int) := by omega
  obtain ⟨iw, hiw, hw0, hw1, hw2⟩ := info_parts wantInfo
  obtain ⟨iz, hiz, hz0, hz1, hz2⟩ := info_parts intInfo
  clear hF hP hC hW hZ hsl hsw hsz het hlt hlen hs hn fF fP fW hk0 HSW HSZ
  go_enter Tryd.func9, Tryd.ntmps9
  go_wp2_with fail
  rw [← hW0]
  clear hW0
  refine (HSM.out _).mono ?_
  rintro e w1 ⟨rfl, hb1⟩
  obtain ⟨hc, hf⟩ := bcell hb1
  go_wp2_with fail
  refine (HLD.out _ hb1).mono ?_
  rintro e w2 ⟨v2, rfl, hv2, hb2⟩
  have hb02 := below_step hb1 hb2
  have hx2 : ∀ j, w2.cell? ⟨w.heap.size, j, none⟩ = (#[.string S.name, .slice A S.F.length c, .slice B S.P.length d, .slice C' C.length c', .slice D W.length d', .slice E Z.length e'] : Array Value)[j]? := fun j => (hb02.cell (p := ⟨w.heap.size, j, none⟩) hg0).trans (hx0 j)
  have hg2 : w.heap.size < w2.heap.size := Nat.lt_of_lt_of_le hg0 hb02.size
  have HV2 := Lib.hid hv2
  clear hc hf hv2 hx0 hb1 hb2 HSM HLD
  go_wp2_with fail
  go_cut [7] (fun s wx => Hid (IsSl wx 3 s ((W.drop K ++ W.take K).map WantR.cells)) ∧ Below w2.heap.size w2 wx)
  case first =>
    have y3 := old_alloc hg2
    have hbA3 : Below W0.heap.size W0 ((w2.alloc (.cells #[] 61)).drew) := (below_alloc hb02 _).drew
    have hbB3 : Below w2.heap.size w2 ((w2.alloc (.cells #[] 61)).drew) := ((Below.refl _ _).alloc (Nat.le_refl _) _).drew
    have hown30 : ((w2.alloc (.cells #[] 61)).drew).ownsRow w2.heap.size 61 3 (.slice (some ⟨w2.heap.size, 0, none⟩) 0 0) 0 [] := (World.ownsRow_lit w2 #[] 0 (Nat.le_refl _) (by decide) rfl).drew
    have hzW3 := hbB3.size
    go_region_law ((first
      | (refine step_append_list (enc := WantR.cells) _ (by rfl) (.tmp 45) (.tmp 49) _ (by rfl) w2.heap.size 61 iw _ 3 24 Tryd.underlying28 hiw hw0 hw1 hw2 rfl (by decide) WantR.cells_len WantR.one (.slice (some ⟨w2.heap.size, 0, none⟩) 0 0) 0 [] (by rfl) hown30 D2 _ _ (W.drop K) HWD.out (by rfl) (QW2.out.below hbA3) (by unfold maxLen; omega) (by omega) hzW3 ?_; intro v3 w3 hown3 hgrow3 hnil3 hblk3; have hbw3 : Below W0.heap.size W0 w3 := hbA3.grown hgrow3 hbA3.size (fun j hj => by have h2 : some w2.heap.size = some j := hj; injection h2 with h2; subst h2; exact hb02.size); have hbx3 : Below w2.heap.size w2 w3 := hbB3.grown hgrow3 hbB3.size (fun j hj => by have h2 : some w2.heap.size = some j := hj; injection h2 with h2; omega); obtain ⟨hc, hf⟩ := bcell hbx3)
      | (refine step_append_list (enc := WantR.cells) _ (by rfl) (.tmp 50) (.tmp 54) _ (by rfl) w2.heap.size 61 iw _ 3 24 Tryd.underlying28 hiw hw0 hw1 hw2 rfl (by decide) WantR.cells_len WantR.one _ _ _ (by rfl) hown3 D _ _ (W.take K) HWT.out (by rfl) (QW1.out.below hbw3) (by unfold maxLen; omega) (by omega) hbx3.size ?_; intro v4 w4 hown4 hgrow4 hnil4 hblk4)
      | (go_simp; fail)))
    all_goals
      rw [Nat.zero_add, List.nil_append] at hown4
      have hbw24 := below_grown hbx3 hown3 (Nat.le_refl _) hgrow4
      have hfin4 : IsSl w4 3 v4 ((W.drop K ++ W.take K).map WantR.cells) := IsSl.of_own (l := W.drop K ++ W.take K) WantR.cells_len (by rw [List.flatMap_append]; exact hown4) (by rw [List.length_append, HWD.out, HWT.out])
      clear hc hf
      go_wp2_with fail
      go_meet
      exact ⟨hfin4, hbw24⟩
  case rest =>
  obtain ⟨HFIN4, hbw24⟩ := hcut
  have hb04 := below_step hb02 hbw24
  have hx4 : ∀ j, wc.cell? ⟨w.heap.size, j, none⟩ = (#[.string S.name, .slice A S.F.length c, .slice B S.P.length d, .slice C' C.length c', .slice D W.length d', .slice E Z.length e'] : Array Value)[j]? := fun j => (hbw24.cell (p := ⟨w.heap.size, j, none⟩) hg2).trans (hx2 j)
  have hg4 : w.heap.size < wc.heap.size := Nat.lt_of_lt_of_le hg2 hbw24.size
  have HV24 := Lib.hid (HV2.out.below hbw24)
  clear hx2 HV2 hbw24
  generalize wc = w4 at *
  go_wp2_with fail
  go_cut [8] (fun s wx => Hid (IsSl wx 1 s ((Z.drop K ++ Z.take K).map encZ)) ∧ Below w4.heap.size w4 wx)
  case first =>
    have y5 := old_alloc hg4
    have hbA5 : Below W0.heap.size W0 ((w4.alloc (.cells #[] 3)).drew) := (below_alloc hb04 _).drew
    have hbB5 : Below w4.heap.size w4 ((w4.alloc (.cells #[] 3)).drew) := ((Below.refl _ _).alloc (Nat.le_refl _) _).drew
    have hown50 : ((w4.alloc (.cells #[] 3)).drew).ownsRow w4.heap.size 3 1 (.slice (some ⟨w4.heap.size, 0, none⟩) 0 0) 0 [] := (World.ownsRow_lit w4 #[] 0 (Nat.le_refl _) (by decide) rfl).drew
    have hzW5 := hbB5.size
    go_region_law ((first
      | (refine step_append_list (enc := encZ) _ (by rfl) (.tmp 56) (.tmp 60) _ (by rfl) w4.heap.size 3 iz _ 1 8 Tryd.underlying29 hiz hz0 hz1 hz2 rfl (by decide) encZ_len encZ_one (.slice (some ⟨w4.heap.size, 0, none⟩) 0 0) 0 [] (by rfl) hown50 E2 _ _ (Z.drop K) HZD.out (by rfl) (QZ2.out.below hbA5) (by unfold maxLen; omega) (by omega) hzW5 ?_; intro v5 w5 hown5 hgrow5 hnil5 hblk5; have hbw5 : Below W0.heap.size W0 w5 := hbA5.grown hgrow5 hbA5.size (fun j hj => by have h2 : some w4.heap.size = some j := hj; injection h2 with h2; subst h2; exact hb04.size); have hbx5 : Below w4.heap.size w4 w5 := hbB5.grown hgrow5 hbB5.size (fun j hj => by have h2 : some w4.heap.size = some j := hj; injection h2 with h2; omega); obtain ⟨hc, hf⟩ := bcell hbx5)
      | (refine step_append_list (enc := encZ) _ (by rfl) (.tmp 61) (.tmp 65) _ (by rfl) w4.heap.size 3 iz _ 1 8 Tryd.underlying29 hiz hz0 hz1 hz2 rfl (by decide) encZ_len encZ_one _ _ _ (by rfl) hown5 E _ _ (Z.take K) HZT.out (by rfl) (QZ1.out.below hbw5) (by unfold maxLen; omega) (by omega) hbx5.size ?_; intro v6 w6 hown6 hgrow6 hnil6 hblk6)
      | (go_simp; fail)))
    all_goals
      rw [Nat.zero_add, List.nil_append] at hown6
      have hbw46 := below_grown hbx5 hown5 (Nat.le_refl _) hgrow6
      have hfin6 : IsSl w6 1 v6 ((Z.drop K ++ Z.take K).map encZ) := IsSl.of_own (l := Z.drop K ++ Z.take K) encZ_len (by rw [List.flatMap_append]; exact hown6) (by rw [List.length_append, HZD.out, HZT.out])
      clear hc hf
      go_wp2_with fail
      go_meet
      exact ⟨hfin6, hbw46⟩
  case rest =>
  obtain ⟨HFIN6, hbw46⟩ := hcut
  have hb06 := below_step hb04 hbw46
  have hx6 : ∀ j, wc.cell? ⟨w.heap.size, j, none⟩ = (#[.string S.name, .slice A S.F.length c, .slice B S.P.length d, .slice C' C.length c', .slice D W.length d', .slice E Z.length e'] : Array Value)[j]? := fun j => (hbw46.cell (p := ⟨w.heap.size, j, none⟩) hg4).trans (hx4 j)
  have hg6 : w.heap.size < wc.heap.size := Nat.lt_of_lt_of_le hg4 hbw46.size
  have HFIN46 := Lib.hid (HFIN4.out.below hbw46)
  have HV26 := Lib.hid (HV24.out.below hbw46)
  clear hx4
  go_wp2_with fail
  refine (HLT.out _ hb06 _ _ HFIN46.out HFIN6.out).mono ?_
  rintro e w7 ⟨v7, rfl, hv7, hb7⟩
  go_wp2_with fail
  refine (sameC_any _ _ v2 v7 _ (by omega) (by omega) (HV26.out.below hb7) hv7).mono ?_
  rintro e w8 ⟨rfl, hb8⟩
  rw [eqL_t rfl]
  go_wp2_with fail
  refine (siteHolds_any _).mono ?_
  rintro e w9 ⟨rfl, hb9⟩
  go_wp2_with fail
  go_ret
  exact ⟨rfl, below_step hb0 (below_step hb06 (below_step hb7 (below_step hb8 hb9)))⟩

end Go.Proofs.YtkjggfhbnhpdnaaDoor
