/-
  Walks: Change of package list, at the changes that make B of A.
-/
import Derived.Test.YtcaicdjlfgpbfaaWLst5
namespace Go.Proofs.Ytcaicdjlfgpbfaa
open Go.RowKit Go.Lib Go.Joins Go.Maps
attribute [local go_sem] after_cell
set_option linter.unusedVariables false
set_option linter.unusedSimpArgs false

/-- a list without repeats that lies in another is not longer -/
theorem len_le : ∀ (l m : List Tok), l.Pairwise (fun a b => keyT a ≠ keyT b) → (∀ x ∈ l, x ∈ m) → l.length ≤ m.length
  | [], m, _, _ => by simp
  | a :: l, m, hp, hs => by
    obtain ⟨s, u, rfl⟩ := List.append_of_mem (hs a (by simp))
    rw [List.pairwise_cons] at hp
    have := len_le l (s ++ u) hp.2 (fun y hy => by
      have h1 := hs y (by simp [hy])
      have h2 := hp.1 y hy
      simp at h1 ⊢
      rcases h1 with e | e | e
      · exact .inl e
      · exact absurd (by rw [e]) h2
      · exact .inr e)
    simp at this ⊢
    omega

set_option maxRecDepth 100000 in
set_option maxHeartbeats 25600000 in
theorem change_any (A B D : List Tok) (va vb : Int) (u v : Value) (w : World) (hA : ListV w va u A) (hv : IsSl w 6 v (D.map Tok.cells)) (hD : D = diffL A B) (hB : GoodL B) (hks : KeySub A B) (hab : va < vb) (hb2' : vb ≤ 2) :
    Calls Try.prog 7 #[.agg #[.int .i64 va, u], .int .i64 va, .int .i64 vb, v] w fun e w' => ∃ u', e = .returned (.tuple #[.agg #[.int .i64 vb, u'], .int .i64 0]) ∧ IsSl w' 6 u' (B.map Tok.cells) ∧ Below w.heap.size w w' := by
  obtain ⟨W0, hW0, hb0, hg1, hg0, hx0, hx1, hz1⟩ := box2f w #[.int .i64 va, u] 29 #[.int .i64 0, .slice none 0 0] 29
  have HV1 := Lib.hid (lvalid_all (hA.below hb0))
  have hgD : GoodL D := hD ▸ diff_good (A := A) hB
  have HCL := Lib.hid (fun w' (hb : Below W0.heap.size W0 w') => collect_any A D u v w' ((hA.sl.below hb0).below hb) ((hv.below hb0).below hb) hA.good hgD)
  obtain ⟨Aa, ca, rfl, hlc, hcm, hsl⟩ := islen' hA.sl
  obtain ⟨Ad, cd, rfl, hlc', hcm', hsl'⟩ := islen' hv
  obtain ⟨i0, hi0, iz0, iz1, iz2⟩ := info_parts tokInfo
  have HA := Lib.hid hA.good
  have HB := Lib.hid hB
  have HD := Lib.hid hgD
  have hla := hA.good.len
  have hlb := hB.len
  have hld := hgD.len
  have HSA := Lib.hid (hsl.below hb0)
  have HSD := Lib.hid (hsl'.below hb0)
  have hva := hA.ver
  have HCM : Hid (∀ x, x ∈ restL A D ++ D ↔ x ∈ B) := fun x => by rw [hD]; exact change_mem hA.good hB hks x
  have HCK := Lib.hid (change_keys (A := A) hA.good.sorted hgD.sorted)
  have q1 : ¬ (vb < 1) := by omega
  have q2 : ¬ (2147483647 < vb) := by omega
  have q3 : (va != va) = false := by simp
  have q4 : ¬ (vb ≤ va) := by omega
  have q5 : ¬ (128 < (D.length : Int)) := by omega
  clear hA hB hv hsl hsl' hcm hcm' hlc hlc' hab hD hgD hva hb2'
  go_enter Try.func7, Try.ntmps7
  go_wp2_with fail
  rw [← hW0]
  clear hW0
  go_wp2_with fail
  refine HV1.out.mono ?_
  rintro e w1 ⟨rfl, hb1⟩
  obtain ⟨hc, hf⟩ := bcell hb1
  go_wp2_with fail
  refine (HCL.out _ hb1).mono ?_
  rintro e wc ⟨bm, nm, rfl, hTc, hb2⟩
  have HTC := Lib.hid hTc
  replace hb2 := below_step hb1 hb2
  clear hc hf hb1 hTc HV1 HCL
  obtain ⟨hc, hf⟩ := bcell hb2
  have hbase : W0.heap.size ≤ wc.heap.size := hb2.size
  go_wp2_with fail
  clear hc hf
  go_loopw [13, 61] (fun ua i wr => ∃ k : Nat, k ≤ A.length ∧ i = .int .i64 k ∧ Below wc.heap.size wc wr ∧ Hid (wr.ownsRow wc.heap.size 24 6 ua ((A.take k).filter (fun t => decide (keyT t ∉ D.map keyT))).length (((A.take k).filter (fun t => decide (keyT t ∉ D.map keyT))).flatMap Tok.cells))) (fun _ i _ => A.length - (intOf i).toNat)
  case atStart => exact ⟨0, by omega, rfl, Below.refl _ _, World.ownsRow_nil _ _ _ _⟩
  case round =>
    obtain ⟨k, hk, rfl, hbx, HO⟩ := hrel
    have hbx0 := below_step hb2 hbx
    by_cases hlt : k < A.length
    · have hki : (k : Int) < (A.length : Int) := by omega
      obtain ⟨b, off, rfl, hbb, d0, d1, d2, d3, d4, d5⟩ := tok_at (HSA.out.below hbx0) hlt
      have hft := HA.out.fits _ (List.getElem_mem hlt)
      have HFS := Lib.hid (filter_step (p := fun t => decide (keyT t ∉ D.map keyT)) hlt)
      have HFL : Hid (((A.take k).filter (fun t => decide (keyT t ∉ D.map keyT))).length ≤ 100) := Nat.le_trans (List.length_filter_le _ _) (by rw [List.length_take]; omega)
      generalize A[k] = X at *
      obtain ⟨W1, hW1, hb3, hg3, hx3⟩ := box1 wr #[.string X.id, .string X.group, .string X.contract, .int .i64 X.kind, .int .i64 X.status, .int .i64 X.expiry] 24
      have hsz : (capS X.id).size ≤ maxLen := by rw [cap_sizeL]; exact hft.1
      have hcd : (capS X.id).data.toList = keyT X := capS_data _
      have HK := Lib.hid (fun w' => lkey_any X.id w' hft.1)
      go_wp2_with fail
      rw [← hW1]
      clear hW1 d0 d1 d2 d3 d4 d5
      go_wp2_with fail
      refine (HK.out _).mono ?_
      rintro e w4 ⟨rfl, hgr⟩
      have hx4 : ∀ j, w4.cell? ⟨wr.heap.size, j, none⟩ = (#[.string X.id, .string X.group, .string X.contract, .int .i64 X.kind, .int .i64 X.status, .int .i64 X.expiry] : Array Value)[j]? := fun j => (hgr.below.cell (p := ⟨wr.heap.size, j, none⟩) hg3).trans (hx3 j)
      have hg4 : wr.heap.size < w4.heap.size := Nat.lt_of_lt_of_le hg3 hgr.below.size
      have hb4 := below_step hb3 hgr.below
      have HO4 := Lib.hid (own_below HO.out hb4)
      have hbx4 := below_step hbx hb4
      have hT4 := HTC.out.below hbx4
      have hs4 := hbx4.size
      clear hx3 hgr HO
      by_cases hXD : keyT X ∈ D.map keyT
      · have hz0 : (findK D (capS X.id).data.toList).isSome = true := by rw [hcd, findK_some, decide_eq_true hXD]
        have HST : Hid ((A.take (k + 1)).filter (fun t => decide (keyT t ∉ D.map keyT)) = (A.take k).filter (fun t => decide (keyT t ∉ D.map keyT))) := by unfold Hid; rw [HFS.out, if_neg (by simpa using hXD)]
        go_wp2_with (at_lookup; refine wpList_lookup_tok _ rfl _ _ 47 rfl 9 24 Try.underlying9 Try.underlying47 zeroTk zeroTokL _ _ _ rfl hT4 (capS X.id) rfl hsz ?_; intro cz hcz; rw [hz0]; clear hcz)
        have HO7 : Hid ((w4.alloc (.cells #[.string cz.id, .string cz.group, .string cz.contract, .int .i64 cz.kind, .int .i64 cz.status, .int .i64 cz.expiry] 24)).ownsRow wc.heap.size 24 6 u13 ((A.take (k + 1)).filter (fun t => decide (keyT t ∉ D.map keyT))).length (((A.take (k + 1)).filter (fun t => decide (keyT t ∉ D.map keyT))).flatMap Tok.cells)) := by
          unfold Hid
          rw [HST.out]
          exact own_below HO4.out (below_alloc (Below.refl _ _) _)
        have hb7 := below_alloc hbx4 (.cells #[.string cz.id, .string cz.group, .string cz.contract, .int .i64 cz.kind, .int .i64 cz.status, .int .i64 cz.expiry] 24)
        clear hT4
        go_roundw
        case measure => simp [intOf]; omega
        case rel => exact ⟨k + 1, by omega, by go_num, hb7, HO7⟩
      · have hz0 : (findK D (capS X.id).data.toList).isSome = false := by rw [hcd, findK_some, decide_eq_false hXD]
        have HST : Hid ((A.take (k + 1)).filter (fun t => decide (keyT t ∉ D.map keyT)) = (A.take k).filter (fun t => decide (keyT t ∉ D.map keyT)) ++ [X]) := by unfold Hid; rw [HFS.out, if_pos (decide_eq_true hXD)]
        go_wp2_with (first
          | (at_lookup; refine wpList_lookup_tok _ rfl _ _ 47 rfl 9 24 Try.underlying9 Try.underlying47 zeroTk zeroTokL _ _ _ rfl hT4 (capS X.id) rfl hsz ?_; intro cz hcz; rw [hz0]; clear hcz)
          | (at_builtin; refine wpList_append_row _ _ rfl (.tmp 75) (.tmp 77) _ rfl wc.heap.size 24 i0 _ 6 72 Try.underlying22 hi0 iz0 iz1 iz2 rfl (by decide) u13 ((A.take k).filter (fun t => decide (keyT t ∉ D.map keyT))).length (((A.take k).filter (fun t => decide (keyT t ∉ D.map keyT))).flatMap Tok.cells) rfl (own_below HO4.out (below_alloc (Below.refl _ _) _)) 1 (by rw [size_more]; rfl) rfl (by intro u hu; simp at hu; rcases hu with rfl | rfl | rfl | rfl | rfl | rfl <;> rfl) (by have := HFL.out; omega) (by have := HFL.out; omega) (by simp; omega) ?_; intro v6 w6 hown6 hgrow6 hblk6; have hbx6 := below_grown (below_alloc hbx4 _) (own_below HO4.out (below_alloc (Below.refl _ _) _)) (Nat.le_refl _) hgrow6))
        have HO7 : Hid (w6.ownsRow wc.heap.size 24 6 v6 ((A.take (k + 1)).filter (fun t => decide (keyT t ∉ D.map keyT))).length (((A.take (k + 1)).filter (fun t => decide (keyT t ∉ D.map keyT))).flatMap Tok.cells)) := by
          unfold Hid
          rw [HST.out, List.length_append, List.flatMap_append]
          exact hown6
        clear hT4 hown6
        go_roundw
        case measure => simp [intOf]; omega
        case rel => exact ⟨k + 1, by omega, by go_num, hbx6, HO7⟩
    · have hki : ¬ (k : Int) < (A.length : Int) := by omega
      have HO1 : Hid (wr.ownsRow wc.heap.size 24 6 u13 (restL A D ++ D.take 0).length ((restL A D ++ D.take 0).flatMap Tok.cells)) := by
        have ho := HO.out
        rw [show (A.take k).filter (fun t => decide (keyT t ∉ D.map keyT)) = restL A D ++ D.take 0 by unfold restL; rw [List.take_of_length_le (by omega)]; simp] at ho
        exact ho
      clear HO
      generalize wr = w3 at *
      go_wp2_with fail
      go_loopw [13, 82] (fun ua i wr => ∃ k : Nat, k ≤ D.length ∧ i = .int .i64 k ∧ Below wc.heap.size wc wr ∧ Hid (wr.ownsRow wc.heap.size 24 6 ua (restL A D ++ D.take k).length ((restL A D ++ D.take k).flatMap Tok.cells))) (fun _ i _ => D.length - (intOf i).toNat)
      case atStart => exact ⟨0, by omega, rfl, hbx, HO1⟩
      case round =>
        clear HO1 hlt hki hk hbx hbx0
        obtain ⟨k, hk, rfl, hbx, HO⟩ := hrel
        have hbx0 := below_step hb2 hbx
        by_cases hlt : k < D.length
        · have hki : (k : Int) < (D.length : Int) := by omega
          obtain ⟨b, off, rfl, hbb, d0, d1, d2, d3, d4, d5⟩ := tok_at (HSD.out.below hbx0) hlt
          have hst := valid_status (HD.out.valid _ (List.getElem_mem hlt))
          have HST : Hid (D.take (k + 1) = D.take k ++ [D[k]]) := List.take_succ_eq_append_getElem hlt
          have HFL : Hid ((restL A D ++ D.take k).length ≤ 200) := by
            have h1 := change_len (A := A) (D := D)
            unfold Hid
            rw [List.length_append] at h1 ⊢
            rw [List.length_take]; omega
          generalize D[k] = X at *
          have hne : (X.status != 0) = true := bne_iff_ne.2 (by omega)
          have hs4 := hbx.size
          clear hst
          go_wp2_with (at_builtin; refine wpList_append_row _ _ rfl (.tmp 89) (.tmp 91) _ rfl wc.heap.size 24 i0 _ 6 72 Try.underlying22 hi0 iz0 iz1 iz2 rfl (by decide) u13 (restL A D ++ D.take k).length ((restL A D ++ D.take k).flatMap Tok.cells) rfl (own_below HO.out (below_alloc (Below.refl _ _) _)) 1 (by rw [size_more]; rfl) rfl (by intro u hu; simp at hu; rcases hu with rfl | rfl | rfl | rfl | rfl | rfl <;> rfl) (by have := HFL.out; omega) (by have := HFL.out; omega) (by simp; omega) ?_; intro v6 w6 hown6 hgrow6 hblk6; have hbx6 := below_grown (below_alloc hbx _) (own_below HO.out (below_alloc (Below.refl _ _) _)) (Nat.le_refl _) hgrow6)
          have HO7 : Hid (w6.ownsRow wc.heap.size 24 6 v6 (restL A D ++ D.take (k + 1)).length ((restL A D ++ D.take (k + 1)).flatMap Tok.cells)) := by
            unfold Hid
            rw [HST.out, ← List.append_assoc, List.length_append, List.flatMap_append]
            exact hown6
          clear hown6 d0 d1 d2 d3 d4 d5
          go_roundw
          case measure => simp [intOf]; omega
          case rel => exact ⟨k + 1, by omega, by go_num, hbx6, HO7⟩
        · have hki : ¬ (k : Int) < (D.length : Int) := by omega
          have ho := HO.out
          rw [List.take_of_length_le (by omega)] at ho
          have HLN := Lib.hid (len_le _ B HCK.out (fun x hx => (HCM.out x).1 hx))
          obtain ⟨R, HR⟩ : ∃ R, Hid (restL A D ++ D = R) := ⟨_, rfl⟩
          rw [HR.out] at ho
          have HCM2 : Hid (∀ x, x ∈ R ↔ x ∈ B) := HR.out ▸ HCM.out
          have HCK2 : Hid (R.Pairwise (fun a b => keyT a ≠ keyT b)) := HR.out ▸ HCK.out
          have hRl : R.length ≤ B.length := by rw [← HR.out]; exact HLN.out
          have hRz : ¬ (128 < (R.length : Int)) := by omega
          obtain ⟨A9, c9, hu9, hM9⟩ := MutT.of_own rfl ho
          subst hu9
          have HAP : Hid (0 < R.length → ∃ g', A9 = some ⟨g', 0, none⟩ ∧ wc.heap.size ≤ g') := fun hp => by
            obtain ⟨g', e, h1, _⟩ := hM9.own hp
            exact ⟨g', e, h1⟩
          have HM9 := Lib.hid hM9
          clear HO ho hM9 HCM HCK HLN
          go_wp2_with fail
          refine (sortTok_any hbx0 hbase HM9.out HB.out HCK2.out HCM2.out (by omega)).mono ?_
          rintro e w7 ⟨rfl, hs7, hb7⟩
          have hx7 : ∀ j, w7.cell? ⟨w.heap.size + 1, j, none⟩ = (#[.int .i64 0, .slice none 0 0] : Array Value)[j]? := fun j => (hb7.cell (p := ⟨w.heap.size + 1, j, none⟩) hg1).trans (hx1 j)
          have hf7 : ∀ j, w7.frozen? ⟨w.heap.size + 1, j, none⟩ = false := fun j => (hb7.frozen (p := ⟨w.heap.size + 1, j, none⟩) hg1).trans (hz1 j)
          go_wp2_with fail
          obtain ⟨hx8, hb8⟩ := rowStored hb7 hg1 hx1 rfl [.int .i64 vb, .slice A9 R.length c9] rfl
          have hs8 := isSl_far hs7 HAP.out (show w.heap.size + 1 < wc.heap.size by omega) 0 [.int .i64 vb, .slice A9 R.length c9]
          have hb9 := hb8 w.heap.size w (by omega) (below_step hb0 hb7)
          generalize hw9 : World.setCell _ _ _ = w9
          rw [show storeRow w7 (w.heap.size + 1) 0 [.int .i64 vb, .slice A9 R.length c9] = w9 from hw9] at hx8 hs8 hb9
          have d0 := hx8 0 (by simp)
          have d1 := hx8 1 (by simp)
          exact bodyPost_ret (v := .tuple #[.agg #[.int .i64 vb, .slice A9 R.length c9], .int .i64 0]) (by simp [results, Try.results7, go_sem, d0, d1]) rfl ⟨_, rfl, hs8, hb9⟩

end Go.Proofs.Ytcaicdjlfgpbfaa
