/-
  Walks: Put, in the reference.
-/
import Derived.Test.YtkbkemjghbajiaaWToken7
import Derived.Test.YtkbkemjghbajiaaAp
namespace Go.Proofs.Ytkbkemjghbajiaa
open Go.RowKit Go.Lib Go.Joins
attribute [local go_sem] after_cell
set_option linter.unusedVariables false

theorem more_cap (x t : Tok) : (!(Op.bytesLess (capS x.id).toList (capS t.id).toList || (capS x.id).toList == (capS t.id).toList)) = !notMore t x := by
  unfold notMore
  rw [Lib.toList_data, Lib.toList_data, capS_data, capS_data]

/-- the list that the reference builds, after k elements -/
def buildT (t : Tok) (l : List Tok) : List Tok := l.takeWhile (notMore t) ++ (if l.all (notMore t) then [] else t :: l.dropWhile (notMore t))
theorem build_nil (t : Tok) : buildT t [] = [] := by simp [buildT]
theorem tw_all {p : Tok → Bool} : ∀ {l : List Tok}, l.all p = true → l.takeWhile p = l ∧ l.dropWhile p = []
  | [], _ => by simp
  | x :: l, h => by
    rw [List.all_cons, Bool.and_eq_true] at h
    have ih := tw_all (p := p) h.2
    simp [h.1, ih.1, ih.2]
theorem tw_snoc {p : Tok → Bool} {x : Tok} : ∀ {l : List Tok}, l.all p = false → (l ++ [x]).takeWhile p = l.takeWhile p ∧ (l ++ [x]).dropWhile p = l.dropWhile p ++ [x]
  | [], h => by simp at h
  | y :: l, h => by
    cases hy : p y with
    | false => simp [hy]
    | true =>
      have h' : l.all p = false := by simpa [hy] using h
      have ih := tw_snoc (p := p) (x := x) h'
      simp [hy, ih.1, ih.2]
theorem build_more {t x : Tok} {l : List Tok} (h : l.all (notMore t) = true) (hx : notMore t x = false) : buildT t (l ++ [x]) = buildT t l ++ [t] ++ [x] := by
  have e := tw_stop (p := notMore t) (a := l) (b := [x]) (fun y hy => List.all_eq_true.1 h y hy) (fun y b' hb => by injection hb with hb _; rw [← hb]; exact hx)
  have e2 := tw_all h
  unfold buildT
  rw [e.1, e.2, e2.1, h, List.all_append, h]
  simp [hx]
theorem build_less {t x : Tok} {l : List Tok} (h : l.all (notMore t) = true) (hx : notMore t x = true) : buildT t (l ++ [x]) = buildT t l ++ [x] := by
  have h2 : (l ++ [x]).all (notMore t) = true := by rw [List.all_append, h]; simp [hx]
  unfold buildT
  rw [(tw_all h2).1, (tw_all h).1, h2, h]
  simp
theorem build_done {t x : Tok} {l : List Tok} (h : l.all (notMore t) = false) : buildT t (l ++ [x]) = buildT t l ++ [x] := by
  have h2 : (l ++ [x]).all (notMore t) = false := by simp only [List.all_append, h]; simp
  have e := tw_snoc (x := x) h
  unfold buildT
  rw [e.1, e.2, h2, h]
  simp
theorem build_end_t {t : Tok} {l : List Tok} (h : l.all (notMore t) = true) : buildT t l ++ [t] = l.takeWhile (notMore t) ++ t :: l.dropWhile (notMore t) := by
  unfold buildT
  rw [h, (tw_all h).1, (tw_all h).2]
  simp
theorem build_end_f {t : Tok} {l : List Tok} (h : l.all (notMore t) = false) : buildT t l = l.takeWhile (notMore t) ++ t :: l.dropWhile (notMore t) := by
  unfold buildT
  rw [h]
  simp
theorem build_len (t : Tok) (l : List Tok) : (buildT t l).length ≤ l.length + 1 := by
  have e : l.length = (l.takeWhile (notMore t) ++ l.dropWhile (notMore t)).length := by rw [List.takeWhile_append_dropWhile]
  rw [List.length_append] at e
  unfold buildT
  split
  · simp only [List.length_append, List.length_nil]; omega
  · simp only [List.length_append, List.length_cons]; omega

theorem puttr_bad {l : List Tok} {t : Tok} (h : validT t ≠ 0) : putTR l t = l ∧ putTE l t = validT t := by
  have e := (tput_bad (l := l) h).2
  exact ⟨by unfold putTR; rw [e, if_pos h], e⟩
theorem puttr_full {l : List Tok} {t : Tok} (h : validT t = 0) (hi : idxT l t.id = none) (hl : 128 ≤ l.length) : putTR l t = l ∧ putTE l t = 3 := by
  have e := (tput_full h hi hl).2
  exact ⟨by unfold putTR; rw [e, if_pos (by omega)], e⟩
theorem puttr_go {l : List Tok} {t : Tok} (e : putTE l t = 0) : putTR l t = (dropTL l t.id).takeWhile (notMore t) ++ t :: (dropTL l t.id).dropWhile (notMore t) := by
  unfold putTR; rw [e, if_neg (by omega)]

set_option maxRecDepth 100000 in
set_option maxHeartbeats 6400000 in
theorem refTput_any (l : List Tok) (v : Value) (t : Tok) (w : World) (hl : l.length ≤ 1000000) (hv : IsSl w 6 v (l.map Tok.cells)) (hfs : ∀ x ∈ l, x.fits) (htf : t.fits) :
    Calls Try.prog 19 #[v, .agg #[.string t.id, .string t.group, .string t.contract, .int .i64 t.kind, .int .i64 t.status, .int .i64 t.expiry]] w fun e w' => ∃ u, e = .returned (.tuple #[u, .int .i64 (putTE l t)]) ∧ IsSl w' 6 u ((putTR l t).map Tok.cells) ∧ Below w.heap.size w w' := by
  have hv0 := hv
  obtain ⟨A, c, rfl, hlc, hcm, hsl⟩ := islen' hv
  clear hv
  obtain ⟨W0, hW0, hb0, hgl, hbx⟩ := box1 w #[.string t.id, .string t.group, .string t.contract, .int .i64 t.kind, .int .i64 t.status, .int .i64 t.expiry] 23
  obtain ⟨i0, hi0, hz0, hz1, hz2⟩ := info_parts tokInfo
  have h1t := htf.1
  by_cases hval : validT t = 0
  rotate_left 1
  · have HP := Lib.hid (puttr_bad (l := l) hval)
    have hne : (validT t != 0) = true := by simpa using hval
    clear hval
    go_enter Try.func19, Try.ntmps19
    go_wp2_with fail
    rw [← hW0]
    clear hW0
    refine (refTvalid_any t _ htf).mono ?_
    rintro e w1 ⟨rfl, hb⟩
    obtain ⟨hc, hf⟩ := bcell hb
    have hz := hb.size
    have hgl1 : w.heap.size < w1.heap.size := by omega
    go_wp2_with fail
    go_ret2
    exact ⟨_, by rw [HP.out.2]; rfl, by rw [HP.out.1]; exact hv0.below (below_step hb0 hb), below_step hb0 hb⟩
  have HV := Lib.hid hval
  clear hval
  rcases idx_cases l t.id with ⟨hi, hii⟩ | ⟨k, hi, hk, hii⟩
  · by_cases hfull : 128 ≤ l.length
    · have HP := Lib.hid (puttr_full HV.out hi hfull)
      have HI := Lib.hid hii
      clear hi hii
      have hfi : (128 : Int) ≤ (l.length : Int) := by omega
      go_enter Try.func19, Try.ntmps19
      go_wp2_with fail
      rw [← hW0]
      clear hW0
      refine (refTvalid_any t _ htf).mono ?_
      rintro e w1 ⟨rfl, hb⟩
      obtain ⟨hc, hf⟩ := bcell hb
      have hz := hb.size
      have hgl1 : w.heap.size < w1.heap.size := by omega
      rw [HV.out]
      go_wp2_with fail
      refine (refIndex_any l _ t.id _ hl ((hv0.below hb0).below hb) hfs htf.1).mono ?_
      rintro e w2 ⟨rfl, hb'⟩
      rw [HI.out]
      have hb2 := hb.trans (hb'.mono hz)
      clear hc hf hz hgl1 hb hb'
      obtain ⟨hc, hf⟩ := bcell hb2
      have hz := hb2.size
      have hgl1 : w.heap.size < w2.heap.size := by omega
      go_wp2_with fail
      go_ret2
      exact ⟨_, by rw [HP.out.2]; rfl, by rw [HP.out.1]; exact hv0.below (below_step hb0 hb2), below_step hb0 hb2⟩
    · have HE := Lib.hid (tput_new HV.out hi hfull).2
      have HR := Lib.hid (puttr_go HE.out)
      have HD0 : Hid (dropTL l t.id = l) := (drop_none hi).1
      have HI := Lib.hid hii
      clear hi hii
      have hfi : (l.length : Int) < 128 := by omega
      go_enter Try.func19, Try.ntmps19
      go_wp2_with fail
      rw [← hW0]
      clear hW0
      refine (refTvalid_any t _ htf).mono ?_
      rintro e w1 ⟨rfl, hb⟩
      obtain ⟨hc, hf⟩ := bcell hb
      have hz := hb.size
      have hgl1 : w.heap.size < w1.heap.size := by omega
      rw [HV.out]
      go_wp2_with fail
      refine (refIndex_any l _ t.id _ hl ((hv0.below hb0).below hb) hfs htf.1).mono ?_
      rintro e w2 ⟨rfl, hb'⟩
      rw [HI.out]
      have hb2 := hb.trans (hb'.mono hz)
      clear hc hf hz hgl1 hb hb'
      obtain ⟨hc, hf⟩ := bcell hb2
      have hz := hb2.size
      have hgl1 : w.heap.size < w2.heap.size := by omega
      obtain ⟨R, hR⟩ : ∃ R, R = l := ⟨_, rfl⟩
      obtain ⟨wR, hwR⟩ : ∃ wR, wR = w2 := ⟨_, rfl⟩
      subst hR
      subst hwR
      have hbR := hb2
      have hslR := (hsl.below hb0).below hbR
      have hRf := hfs
      have hRl := hl
      clear hc hf hz hgl1 hb2
      have hglR : w.heap.size < wR.heap.size := Nat.lt_of_lt_of_le hgl hbR.size
      have hbxR : ∀ j, wR.cell? ⟨w.heap.size, j, none⟩ = (#[.string t.id, .string t.group, .string t.contract, .int .i64 t.kind, .int .i64 t.status, .int .i64 t.expiry] : Array Value)[j]? := fun j => (hbR.cell (p := ⟨w.heap.size, j, none⟩) hgl).trans (hbx j)
      clear hbx
      go_wp2_with fail
      go_loopw [9, 10, 11] (fun u d i wr => ∃ (k : Nat) (D : Bool), k ≤ R.length ∧ i = .int .i64 k ∧ d = .bool D ∧ Below wR.heap.size wR wr ∧ Hid ((R.take k).all (notMore t) = !D) ∧
        wr.ownsRow wR.heap.size 23 6 u (buildT t (R.take k)).length ((buildT t (R.take k)).flatMap Tok.cells)) (fun _ _ i _ => R.length - (intOf i).toNat)
      case atStart => exact ⟨0, false, by omega, rfl, rfl, Below.refl _ _, rfl, World.ownsRow_nil _ _ _ _⟩
      case round =>
        obtain ⟨k, D, hk, rfl, rfl, hbw, HD, hown⟩ := hrel
        have hkl := build_len t (R.take k)
        have hktk : (R.take k).length ≤ k := List.length_take_le _ _
        have hbl : (buildT t (R.take k)).length ≤ 1000002 := by omega
        clear hkl hktk
        obtain ⟨hc, hf⟩ := bcell hbw
        have hgl1 : w.heap.size < wr.heap.size := Nat.lt_of_lt_of_le hglR hbw.size
        by_cases hlt : k < R.length
        · have hki : (k : Int) < (R.length : Int) := by omega
          have HTK : Hid (R.take (k + 1) = R.take k ++ [R[k]]) := List.take_succ_eq_append_getElem hlt
          have HAT := Lib.hid (all_take' R (notMore t) hlt)
          have h1 := (hRf _ (List.getElem_mem hlt)).1
          obtain ⟨b, off, hAR, hbb, c0, c1, c2, c3, c4, c5⟩ := tok_at hslR hlt
          subst hAR
          have hbb2 : b < wr.heap.size := Nat.lt_of_lt_of_le hbb hbw.size
          have HM := Lib.hid (fun (h : (R.take k).all (notMore t) = true) (h2 : notMore t (R[k]'hlt) = false) => build_more h h2)
          have HL := Lib.hid (fun (h : (R.take k).all (notMore t) = true) (h2 : notMore t (R[k]'hlt) = true) => build_less h h2)
          have HN := Lib.hid (fun (h : (R.take k).all (notMore t) = false) => build_done (x := R[k]'hlt) h)
          have HMC := Lib.hid (more_cap R[k] t)
          generalize R[k] = x at *
          generalize buildT t (R.take k) = M at *
          have hbr := Below.refl wr.heap.size wr
          cases D with
          | true =>
            have HB : Hid (buildT t (R.take (k + 1)) = M ++ [x]) := by unfold Hid; rw [HTK.out]; exact HN.out HD.out
            go_wp2_with fail
            (refine wp_region_kept wr (by kernel_rfl) (by kernel_rfl) (by assumption) ?_; (repeat (go_big_quiet_step ((first | (go_at_call 30; exact kept_call (refCapitals_any _ _ (by assumption))))))); refine wpQuiet_nil ?_; intro _ hw'; obtain ⟨x9, hw''⟩ := hw'; subst hw''; have hk9 := after_kept x9; generalize after x9 = w9 at *)
            have hown9 := own_below hown hk9.2
            have hb9 := hbw.trans (hk9.2.mono hbw.size)
            have hc9 := hk9.1
            clear hown
            go_wp2_with (at_builtin; refine wpList_append_row _ _ rfl (.tmp 60) (.tmp 65) _ rfl wR.heap.size 23 i0 _ 6 72 Try.underlying32 hi0 hz0 hz1 hz2 rfl (by decide) _ _ _ rfl hown9 _ rfl rfl (by intro u hu; simp at hu; rcases hu with rfl | rfl | rfl | rfl | rfl | rfl <;> rfl) (by omega) (by omega) hb9.size ?_; intro v' w3 hown3 hgrow3 hblk3)
            have hb3 := below_grown hb9 hown9 (Nat.le_refl _) hgrow3
            clear hgrow3 hblk3 hown9
            go_roundw
            case measure => simp [intOf]; omega
            case rel => exact ⟨k + 1, true, by omega, by go_num, rfl, hb3, by show _ = _; rw [HAT.out, HD.out]; rfl, by rw [HB.out, List.length_append, List.flatMap_append]; simpa [Tok.cells] using hown3⟩
          | false =>
            have hcase : (∃ b1 b2, Op.bytesLess (capS x.id).toList (capS t.id).toList = b1 ∧ ((capS x.id).toList == (capS t.id).toList) = b2 ∧ (b1 || b2) = true ∧ Hid (notMore t x = true)) ∨ (Op.bytesLess (capS x.id).toList (capS t.id).toList = false ∧ ((capS x.id).toList == (capS t.id).toList) = false ∧ Hid (notMore t x = false)) := by
              have hmc := HMC.out
              cases e1 : Op.bytesLess (capS x.id).toList (capS t.id).toList <;> cases e2 : ((capS x.id).toList == (capS t.id).toList) <;> rw [e1, e2] at hmc <;> simp at hmc
              · exact .inr ⟨rfl, rfl, hmc.symm ▸ rfl⟩
              · exact .inl ⟨_, _, rfl, rfl, rfl, hmc.symm ▸ rfl⟩
              · exact .inl ⟨_, _, rfl, rfl, rfl, hmc.symm ▸ rfl⟩
              · exact .inl ⟨_, _, rfl, rfl, rfl, hmc.symm ▸ rfl⟩
            rcases hcase with ⟨b1, b2, e1, e2, hor, HX⟩ | ⟨e1, e2, HX⟩
            · have HB : Hid (buildT t (R.take (k + 1)) = M ++ [x]) := by unfold Hid; rw [HTK.out]; exact HL.out HD.out HX.out
              cases b1 <;> cases b2
              · simp at hor
              all_goals
                go_wp2_with fail
                (refine wp_region_kept wr (by kernel_rfl) (by kernel_rfl) (by assumption) ?_; (repeat (go_big_quiet_step ((first | (go_at_call 30; exact kept_call (refCapitals_any _ _ (by assumption))))))); refine wpQuiet_nil ?_; intro _ hw'; obtain ⟨x9, hw''⟩ := hw'; subst hw''; have hk9 := after_kept x9; generalize after x9 = w9 at *)
                have hown9 := own_below hown hk9.2
                have hb9 := hbw.trans (hk9.2.mono hbw.size)
                have hc9 := hk9.1
                clear hown
                go_wp2_with (at_builtin; refine wpList_append_row _ _ rfl (.tmp 60) (.tmp 65) _ rfl wR.heap.size 23 i0 _ 6 72 Try.underlying32 hi0 hz0 hz1 hz2 rfl (by decide) _ _ _ rfl hown9 _ rfl rfl (by intro u hu; simp at hu; rcases hu with rfl | rfl | rfl | rfl | rfl | rfl <;> rfl) (by omega) (by omega) hb9.size ?_; intro v' w3 hown3 hgrow3 hblk3)
                have hb3 := below_grown hb9 hown9 (Nat.le_refl _) hgrow3
                clear hgrow3 hblk3 hown9
                go_roundw
                case measure => simp [intOf]; omega
                case rel => exact ⟨k + 1, false, by omega, by go_num, rfl, hb3, by show _ = _; rw [HAT.out, HD.out, HX.out]; rfl, by rw [HB.out, List.length_append, List.flatMap_append]; simpa [Tok.cells] using hown3⟩
            · have HB : Hid (buildT t (R.take (k + 1)) = M ++ [t] ++ [x]) := by unfold Hid; rw [HTK.out]; exact HM.out HD.out HX.out
              go_wp2_with fail
              (refine wp_region_kept wr (by kernel_rfl) (by kernel_rfl) (by assumption) ?_; (repeat (go_big_quiet_step ((first | (go_at_call 30; exact kept_call (refCapitals_any _ _ (by assumption))))))); refine wpQuiet_nil ?_; intro _ hw'; obtain ⟨x9, hw''⟩ := hw'; subst hw''; have hk9 := after_kept x9; generalize after x9 = w9 at *)
              have hown9 := own_below hown hk9.2
              have hb9 := hbw.trans (hk9.2.mono hbw.size)
              have hc9 := hk9.1
              clear hown
              go_wp2_with (first
                | (at_builtin; refine wpList_append_row _ _ rfl (.tmp 56) (.tmp 58) _ rfl wR.heap.size 23 i0 _ 6 72 Try.underlying32 hi0 hz0 hz1 hz2 rfl (by decide) _ _ _ rfl hown9 _ rfl rfl (by intro u hu; simp at hu; rcases hu with rfl | rfl | rfl | rfl | rfl | rfl <;> rfl) (by omega) (by omega) hb9.size ?_; intro v' w3 hown3 hgrow3 hblk3
                   have hb3 := below_grown hb9 hown9 (Nat.le_refl _) hgrow3
                   clear hc hf hc9 hown9
                   obtain ⟨hc, hf⟩ := bcell hb3
                   have hz3 := hb3.size)
                | (at_builtin; refine wpList_append_row _ _ rfl (.tmp 60) (.tmp 65) _ rfl wR.heap.size 23 i0 _ 6 72 Try.underlying32 hi0 hz0 hz1 hz2 rfl (by decide) _ _ _ rfl hown3 _ rfl rfl (by intro u hu; simp at hu; rcases hu with rfl | rfl | rfl | rfl | rfl | rfl <;> rfl) (by omega) (by omega) hb3.size ?_; intro v4 w4 hown4 hgrow4 hblk4))
              have hb4 := below_grown hb3 hown3 (Nat.le_refl _) hgrow4
              clear hgrow4 hblk4 hgrow3 hblk3 hown3
              go_roundw
              case measure => simp [intOf]; omega
              case rel => exact ⟨k + 1, true, by omega, by go_num, rfl, hb4, by show _ = _; rw [HAT.out, HD.out, HX.out]; rfl, by rw [HB.out, List.length_append, List.length_append, List.flatMap_append, List.flatMap_append]; simpa [Tok.cells] using hown4⟩
        · have HAF := Lib.hid (all_full' R (notMore t) hlt)
          have hfull : R.take k = R := List.take_of_length_le (by omega)
          rw [hfull] at hown HD hbl
          clear hfull
          cases D with
          | true =>
            have HB := Lib.hid (build_end_f (t := t) (l := R) HD.out)
            go_wp2_with fail
            go_ret2
            refine ⟨_, by rw [HE.out]; rfl, ?_, below_step hb0 (below_step hbR hbw)⟩
            rw [HR.out, HD0.out, ← HB.out]
            exact IsSl.of_own Tok.cells_len hown rfl
          | false =>
            have HB := Lib.hid (build_end_t (t := t) (l := R) HD.out)
            go_wp2_with (at_builtin; refine wpList_append_row _ _ rfl (.tmp 69) (.tmp 71) _ rfl wR.heap.size 23 i0 _ 6 72 Try.underlying32 hi0 hz0 hz1 hz2 rfl (by decide) _ _ _ rfl hown _ rfl rfl (by intro u hu; simp at hu; rcases hu with rfl | rfl | rfl | rfl | rfl | rfl <;> rfl) (by omega) (by omega) hbw.size ?_; intro v' w3 hown3 hgrow3 hblk3)
            have hb3 := below_grown hbw hown (Nat.le_refl _) hgrow3
            clear hgrow3 hblk3 hown
            go_wp2_with fail
            go_ret2
            refine ⟨_, by rw [HE.out]; rfl, ?_, below_step hb0 (below_step hbR hb3)⟩
            rw [HR.out, HD0.out, ← HB.out]
            exact IsSl.of_own (l := buildT t R ++ [t]) Tok.cells_len (by rw [List.flatMap_append]; simpa [Tok.cells] using hown3) (by simp)
  · have HE := Lib.hid (tput_old HV.out hi).2
    have HR := Lib.hid (puttr_go HE.out)
    have HI := Lib.hid hii
    clear hi hii
    have hki : (k : Int) < (l.length : Int) := by omega
    go_enter Try.func19, Try.ntmps19
    go_wp2_with fail
    rw [← hW0]
    clear hW0
    refine (refTvalid_any t _ htf).mono ?_
    rintro e w1 ⟨rfl, hb⟩
    obtain ⟨hc, hf⟩ := bcell hb
    have hz := hb.size
    have hgl1 : w.heap.size < w1.heap.size := by omega
    rw [HV.out]
    go_wp2_with fail
    refine (refIndex_any l _ t.id _ hl ((hv0.below hb0).below hb) hfs htf.1).mono ?_
    rintro e w2 ⟨rfl, hb'⟩
    rw [HI.out]
    have hb2 := hb.trans (hb'.mono hz)
    clear hc hf hz hgl1 hb hb'
    obtain ⟨hc, hf⟩ := bcell hb2
    have hz := hb2.size
    have hgl1 : w.heap.size < w2.heap.size := by omega
    go_wp2_with fail
    refine (refDrop_any l _ t.id _ hl ((hv0.below hb0).below hb2) hfs h1t).mono ?_
    rintro e wR ⟨u0, rfl, hu0, hb'⟩
    have hbR := hb2.trans (hb'.mono hz)
    obtain ⟨AR, cR, rfl, hRlc, hRcm, hslR⟩ := islen' hu0
    have hRf : ∀ x ∈ dropTL l t.id, x.fits := fun x hx => by
      unfold dropTL at hx
      split at hx
      · exact hfs x ((List.eraseIdx_sublist _ _).mem hx)
      · exact hfs x hx
    have hRl : (dropTL l t.id).length ≤ 1000000 := Nat.le_trans (dropTL_len l t.id) hl
    obtain ⟨R, hR⟩ : ∃ R, dropTL l t.id = R := ⟨_, rfl⟩
    have HD0 := Lib.hid hR
    rw [hR] at hRf hRl hslR hRlc ⊢
    clear hR hu0 hc hf hz hgl1 hb2 hb' hRcm hRlc
    have hglR : w.heap.size < wR.heap.size := Nat.lt_of_lt_of_le hgl hbR.size
    have hbxR : ∀ j, wR.cell? ⟨w.heap.size, j, none⟩ = (#[.string t.id, .string t.group, .string t.contract, .int .i64 t.kind, .int .i64 t.status, .int .i64 t.expiry] : Array Value)[j]? := fun j => (hbR.cell (p := ⟨w.heap.size, j, none⟩) hgl).trans (hbx j)
    clear hbx
    go_wp2_with fail
    go_loopw [9, 10, 11] (fun u d i wr => ∃ (k : Nat) (D : Bool), k ≤ R.length ∧ i = .int .i64 k ∧ d = .bool D ∧ Below wR.heap.size wR wr ∧ Hid ((R.take k).all (notMore t) = !D) ∧
      wr.ownsRow wR.heap.size 23 6 u (buildT t (R.take k)).length ((buildT t (R.take k)).flatMap Tok.cells)) (fun _ _ i _ => R.length - (intOf i).toNat)
    case atStart => exact ⟨0, false, by omega, rfl, rfl, Below.refl _ _, rfl, World.ownsRow_nil _ _ _ _⟩
    case round =>
      obtain ⟨k, D, hk, rfl, rfl, hbw, HD, hown⟩ := hrel
      have hkl := build_len t (R.take k)
      have hktk : (R.take k).length ≤ k := List.length_take_le _ _
      have hbl : (buildT t (R.take k)).length ≤ 1000002 := by omega
      clear hkl hktk
      obtain ⟨hc, hf⟩ := bcell hbw
      have hgl1 : w.heap.size < wr.heap.size := Nat.lt_of_lt_of_le hglR hbw.size
      by_cases hlt : k < R.length
      · have hki : (k : Int) < (R.length : Int) := by omega
        have HTK : Hid (R.take (k + 1) = R.take k ++ [R[k]]) := List.take_succ_eq_append_getElem hlt
        have HAT := Lib.hid (all_take' R (notMore t) hlt)
        have h1 := (hRf _ (List.getElem_mem hlt)).1
        obtain ⟨b, off, hAR, hbb, c0, c1, c2, c3, c4, c5⟩ := tok_at hslR hlt
        subst hAR
        have hbb2 : b < wr.heap.size := Nat.lt_of_lt_of_le hbb hbw.size
        have HM := Lib.hid (fun (h : (R.take k).all (notMore t) = true) (h2 : notMore t (R[k]'hlt) = false) => build_more h h2)
        have HL := Lib.hid (fun (h : (R.take k).all (notMore t) = true) (h2 : notMore t (R[k]'hlt) = true) => build_less h h2)
        have HN := Lib.hid (fun (h : (R.take k).all (notMore t) = false) => build_done (x := R[k]'hlt) h)
        have HMC := Lib.hid (more_cap R[k] t)
        generalize R[k] = x at *
        generalize buildT t (R.take k) = M at *
        have hbr := Below.refl wr.heap.size wr
        cases D with
        | true =>
          have HB : Hid (buildT t (R.take (k + 1)) = M ++ [x]) := by unfold Hid; rw [HTK.out]; exact HN.out HD.out
          go_wp2_with fail
          (refine wp_region_kept wr (by kernel_rfl) (by kernel_rfl) (by assumption) ?_; (repeat (go_big_quiet_step ((first | (go_at_call 30; exact kept_call (refCapitals_any _ _ (by assumption))))))); refine wpQuiet_nil ?_; intro _ hw'; obtain ⟨x9, hw''⟩ := hw'; subst hw''; have hk9 := after_kept x9; generalize after x9 = w9 at *)
          have hown9 := own_below hown hk9.2
          have hb9 := hbw.trans (hk9.2.mono hbw.size)
          have hc9 := hk9.1
          clear hown
          go_wp2_with (at_builtin; refine wpList_append_row _ _ rfl (.tmp 60) (.tmp 65) _ rfl wR.heap.size 23 i0 _ 6 72 Try.underlying32 hi0 hz0 hz1 hz2 rfl (by decide) _ _ _ rfl hown9 _ rfl rfl (by intro u hu; simp at hu; rcases hu with rfl | rfl | rfl | rfl | rfl | rfl <;> rfl) (by omega) (by omega) hb9.size ?_; intro v' w3 hown3 hgrow3 hblk3)
          have hb3 := below_grown hb9 hown9 (Nat.le_refl _) hgrow3
          clear hgrow3 hblk3 hown9
          go_roundw
          case measure => simp [intOf]; omega
          case rel => exact ⟨k + 1, true, by omega, by go_num, rfl, hb3, by show _ = _; rw [HAT.out, HD.out]; rfl, by rw [HB.out, List.length_append, List.flatMap_append]; simpa [Tok.cells] using hown3⟩
        | false =>
          have hcase : (∃ b1 b2, Op.bytesLess (capS x.id).toList (capS t.id).toList = b1 ∧ ((capS x.id).toList == (capS t.id).toList) = b2 ∧ (b1 || b2) = true ∧ Hid (notMore t x = true)) ∨ (Op.bytesLess (capS x.id).toList (capS t.id).toList = false ∧ ((capS x.id).toList == (capS t.id).toList) = false ∧ Hid (notMore t x = false)) := by
            have hmc := HMC.out
            cases e1 : Op.bytesLess (capS x.id).toList (capS t.id).toList <;> cases e2 : ((capS x.id).toList == (capS t.id).toList) <;> rw [e1, e2] at hmc <;> simp at hmc
            · exact .inr ⟨rfl, rfl, hmc.symm ▸ rfl⟩
            · exact .inl ⟨_, _, rfl, rfl, rfl, hmc.symm ▸ rfl⟩
            · exact .inl ⟨_, _, rfl, rfl, rfl, hmc.symm ▸ rfl⟩
            · exact .inl ⟨_, _, rfl, rfl, rfl, hmc.symm ▸ rfl⟩
          rcases hcase with ⟨b1, b2, e1, e2, hor, HX⟩ | ⟨e1, e2, HX⟩
          · have HB : Hid (buildT t (R.take (k + 1)) = M ++ [x]) := by unfold Hid; rw [HTK.out]; exact HL.out HD.out HX.out
            cases b1 <;> cases b2
            · simp at hor
            all_goals
              go_wp2_with fail
              (refine wp_region_kept wr (by kernel_rfl) (by kernel_rfl) (by assumption) ?_; (repeat (go_big_quiet_step ((first | (go_at_call 30; exact kept_call (refCapitals_any _ _ (by assumption))))))); refine wpQuiet_nil ?_; intro _ hw'; obtain ⟨x9, hw''⟩ := hw'; subst hw''; have hk9 := after_kept x9; generalize after x9 = w9 at *)
              have hown9 := own_below hown hk9.2
              have hb9 := hbw.trans (hk9.2.mono hbw.size)
              have hc9 := hk9.1
              clear hown
              go_wp2_with (at_builtin; refine wpList_append_row _ _ rfl (.tmp 60) (.tmp 65) _ rfl wR.heap.size 23 i0 _ 6 72 Try.underlying32 hi0 hz0 hz1 hz2 rfl (by decide) _ _ _ rfl hown9 _ rfl rfl (by intro u hu; simp at hu; rcases hu with rfl | rfl | rfl | rfl | rfl | rfl <;> rfl) (by omega) (by omega) hb9.size ?_; intro v' w3 hown3 hgrow3 hblk3)
              have hb3 := below_grown hb9 hown9 (Nat.le_refl _) hgrow3
              clear hgrow3 hblk3 hown9
              go_roundw
              case measure => simp [intOf]; omega
              case rel => exact ⟨k + 1, false, by omega, by go_num, rfl, hb3, by show _ = _; rw [HAT.out, HD.out, HX.out]; rfl, by rw [HB.out, List.length_append, List.flatMap_append]; simpa [Tok.cells] using hown3⟩
          · have HB : Hid (buildT t (R.take (k + 1)) = M ++ [t] ++ [x]) := by unfold Hid; rw [HTK.out]; exact HM.out HD.out HX.out
            go_wp2_with fail
            (refine wp_region_kept wr (by kernel_rfl) (by kernel_rfl) (by assumption) ?_; (repeat (go_big_quiet_step ((first | (go_at_call 30; exact kept_call (refCapitals_any _ _ (by assumption))))))); refine wpQuiet_nil ?_; intro _ hw'; obtain ⟨x9, hw''⟩ := hw'; subst hw''; have hk9 := after_kept x9; generalize after x9 = w9 at *)
            have hown9 := own_below hown hk9.2
            have hb9 := hbw.trans (hk9.2.mono hbw.size)
            have hc9 := hk9.1
            clear hown
            go_wp2_with (first
              | (at_builtin; refine wpList_append_row _ _ rfl (.tmp 56) (.tmp 58) _ rfl wR.heap.size 23 i0 _ 6 72 Try.underlying32 hi0 hz0 hz1 hz2 rfl (by decide) _ _ _ rfl hown9 _ rfl rfl (by intro u hu; simp at hu; rcases hu with rfl | rfl | rfl | rfl | rfl | rfl <;> rfl) (by omega) (by omega) hb9.size ?_; intro v' w3 hown3 hgrow3 hblk3
                 have hb3 := below_grown hb9 hown9 (Nat.le_refl _) hgrow3
                 clear hc hf hc9 hown9
                 obtain ⟨hc, hf⟩ := bcell hb3
                 have hz3 := hb3.size)
              | (at_builtin; refine wpList_append_row _ _ rfl (.tmp 60) (.tmp 65) _ rfl wR.heap.size 23 i0 _ 6 72 Try.underlying32 hi0 hz0 hz1 hz2 rfl (by decide) _ _ _ rfl hown3 _ rfl rfl (by intro u hu; simp at hu; rcases hu with rfl | rfl | rfl | rfl | rfl | rfl <;> rfl) (by omega) (by omega) hb3.size ?_; intro v4 w4 hown4 hgrow4 hblk4))
            have hb4 := below_grown hb3 hown3 (Nat.le_refl _) hgrow4
            clear hgrow4 hblk4 hgrow3 hblk3 hown3
            go_roundw
            case measure => simp [intOf]; omega
            case rel => exact ⟨k + 1, true, by omega, by go_num, rfl, hb4, by show _ = _; rw [HAT.out, HD.out, HX.out]; rfl, by rw [HB.out, List.length_append, List.length_append, List.flatMap_append, List.flatMap_append]; simpa [Tok.cells] using hown4⟩
      · have HAF := Lib.hid (all_full' R (notMore t) hlt)
        have hfull : R.take k = R := List.take_of_length_le (by omega)
        rw [hfull] at hown HD hbl
        clear hfull
        cases D with
        | true =>
          have HB := Lib.hid (build_end_f (t := t) (l := R) HD.out)
          go_wp2_with fail
          go_ret2
          refine ⟨_, by rw [HE.out]; rfl, ?_, below_step hb0 (below_step hbR hbw)⟩
          rw [HR.out, HD0.out, ← HB.out]
          exact IsSl.of_own Tok.cells_len hown rfl
        | false =>
          have HB := Lib.hid (build_end_t (t := t) (l := R) HD.out)
          go_wp2_with (at_builtin; refine wpList_append_row _ _ rfl (.tmp 69) (.tmp 71) _ rfl wR.heap.size 23 i0 _ 6 72 Try.underlying32 hi0 hz0 hz1 hz2 rfl (by decide) _ _ _ rfl hown _ rfl rfl (by intro u hu; simp at hu; rcases hu with rfl | rfl | rfl | rfl | rfl | rfl <;> rfl) (by omega) (by omega) hbw.size ?_; intro v' w3 hown3 hgrow3 hblk3)
          have hb3 := below_grown hbw hown (Nat.le_refl _) hgrow3
          clear hgrow3 hblk3 hown
          go_wp2_with fail
          go_ret2
          refine ⟨_, by rw [HE.out]; rfl, ?_, below_step hb0 (below_step hbR hb3)⟩
          rw [HR.out, HD0.out, ← HB.out]
          exact IsSl.of_own (l := buildT t R ++ [t]) Tok.cells_len (by rw [List.flatMap_append]; simpa [Tok.cells] using hown3) (by simp)

end Go.Proofs.Ytkbkemjghbajiaa
