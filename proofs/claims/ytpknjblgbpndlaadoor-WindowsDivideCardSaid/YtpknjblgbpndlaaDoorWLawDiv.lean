/-
  Walks: the law WindowsDivide.
-/
import Derived.Test.YtpknjblgbpndlaaDoorWSer2
import Derived.Test.YtpknjblgbpndlaaDoorAp2
import Derived.Deep.RegionHeld3
namespace Go.Proofs.YtpknjblgbpndlaaDoor
open Go.RowKit Go.Lib Go.Maps
set_option linter.unusedVariables false

theorem encP_one (p : Int × Int) : ∀ u ∈ encP p, u.oneCell' = true := by intro u hu; simp [encP] at hu; rcases hu with rfl | rfl <;> rfl

theorem pair_atD {w : World} {A : Option Addr} {l : List (Int × Int)} (h : SlAt w 2 A (l.map encP)) {k : Nat} {x : Int × Int} (hk : l[k]? = some x) :
    ∃ b off, A = some ⟨b, off, none⟩ ∧ b < w.heap.size ∧ w.cell? ⟨b, off + k * 2, none⟩ = some (.int .i64 x.1) ∧ w.cell? ⟨b, off + k * 2 + 1, none⟩ = some (.int .i64 x.2) := by
  obtain ⟨b, off, e, hb, hc⟩ := h k (encP x) (by rw [List.getElem?_map, hk]; rfl)
  have c0 := hc 0 _ rfl
  have c1 := hc 1 _ rfl
  exact ⟨b, off, e, hb, by simpa using c0, by simpa [Nat.add_assoc] using c1⟩

/-- a slice literal of one pair -/
theorem one_at (w : World) (T : TypeId) (p : Int × Int) : SlAt (w.alloc (.cells #[.int .i64 p.1, .int .i64 p.2] T)) 2 (some ⟨w.heap.size, 0, none⟩) ([p].map encP) := by
  intro k row hk
  cases k with
  | zero =>
    simp at hk
    subst hk
    refine ⟨w.heap.size, 0, rfl, by simp, fun j u hu => ?_⟩
    have := World.cell?_alloc_mark w #[.int .i64 p.1, .int .i64 p.2] T (0, 0) j
    simp only [Nat.zero_mul, Nat.add_zero, Nat.zero_add]
    rw [this]
    simpa [encP] using hu
  | succ k => simp at hk

theorem slAt_grown {W w' : World} {g j : Nat} {rows : List (List Value)} {size : Nat} (h : SlAt W size (some ⟨g, 0, none⟩) rows) (hg : W.grownBy w' (some j)) (hn : g ≠ j) : SlAt w' size (some ⟨g, 0, none⟩) rows := fun k row hk => by
  obtain ⟨b, off, e, hb, hc⟩ := h k row hk
  have e0 := e
  injection e with e
  injection e with e1 e2 _
  subst e1
  refine ⟨g, off, e0, Nat.lt_of_lt_of_le hb hg.size, fun i u hu => ?_⟩
  exact (World.cell?_of_block (a := ⟨g, off + k * size + i, none⟩) (hg.block g hb (by intro x; injection x with x; exact hn x))).trans (hc i u hu)

set_option maxRecDepth 100000 in
set_option maxHeartbeats 6400000 in
theorem awakeWin_any (w : World) (hv : LenV w) : Calls Tryd.prog 15 #[] w fun e w' => e = .returned (.bool true) ∧ Below w.heap.size w w' := by
  have HV := Lib.hid hv
  clear hv
  have hok : serOk [(0, 5)] := ⟨by decide, by
    have := OkTo.first (L := [(0, 5)]) (by decide) (by decide) (by decide)
    exact this⟩
  have HOK := Lib.hid hok
  have he : enF [(0, 5)] 0 10 = 50 := by decide
  clear hok
  go_enter Tryd.func15, Tryd.ntmps15
  go_wp2_with fail
  refine (spans_any exW exZ 500 2000 _ HV.out).mono ?_
  rintro e w1 ⟨v, rfl, hv1, hb1⟩
  rw [spans_ex.e]
  rw [spans_ex.l] at hv1
  obtain ⟨A, c, rfl, hlc, hcm, hsl⟩ := hv1
  simp only [List.map_cons, List.map_nil, List.length_cons, List.length_nil, Nat.zero_add, Nat.reduceAdd]
  go_wp2_with fail
  have hs : IsSl (w1.alloc (.cells #[.int .i64 0, .int .i64 5] 62)) 2 (.slice (some ⟨w1.heap.size, 0, none⟩) 1 1) ([(0, 5)].map encP) := by
    exact ⟨_, 1, rfl, by decide, by unfold maxLen; omega, one_at w1 _ (0, 5)⟩
  refine (serEnergy_any [(0, 5)] _ 0 10 _ hs HOK.out (by decide) (by decide) (by decide) (by decide) (by decide)).mono ?_
  rintro e w2 ⟨rfl, hb2⟩
  rw [he]
  go_wp2_with fail
  go_ret
  exact ⟨rfl, below_step hb1 (below_step (below_alloc (Below.refl _ _) _) hb2)⟩

set_option maxRecDepth 100000 in
set_option maxHeartbeats 12800000 in
theorem lawDivide (L : List (Int × Int)) (v : Value) (W : WinR) (z : ZoneR) (a b : Int) (w : World) (hv : LenV w) (hL : IsSl w 2 v (L.map encP)) (hb6 : b ≤ 9223372036854775807) :
    Calls Tryd.prog 3 #[.agg #[v, .int .i64 W.dy, .int .i64 W.st, .int .i64 W.en, .int .i64 W.fr, .int .i64 W.to, .int .i64 z.off, .bool z.sum, .int .i64 a, .int .i64 b]] w fun e w' => e = .returned (.bool true) ∧ Below w.heap.size w w' := by
  have hL0 := hL
  obtain ⟨A, c, rfl, hlc, hcm, hsl⟩ := hL
  rw [List.length_map] at hlc
  unfold maxLen at hcm
  simp only [List.length_map] at hL0 ⊢
  obtain ⟨W0, hW0, hb0, hg0, hx0⟩ := box1 w #[.slice A L.length c, .int .i64 W.dy, .int .i64 W.st, .int .i64 W.en, .int .i64 W.fr, .int .i64 W.to, .int .i64 z.off, .bool z.sum, .int .i64 a, .int .i64 b] 30
  have HV := Lib.hid (hv.below hb0)
  clear hv
  by_cases hout : 40 < L.length ∨ a < 0 ∨ b < a ∨ 5000 < b - a ∨ 268435456 < b
  · have hcase : (40 : Int) < (L.length : Int) ∨ (¬ (40 : Int) < (L.length : Int) ∧ a < 0) ∨ (¬ (40 : Int) < (L.length : Int) ∧ ¬ a < 0 ∧ b < a) ∨ (¬ (40 : Int) < (L.length : Int) ∧ ¬ a < 0 ∧ ¬ b < a ∧ 5000 < b - a) ∨ (¬ (40 : Int) < (L.length : Int) ∧ ¬ a < 0 ∧ ¬ b < a ∧ ¬ 5000 < b - a ∧ 268435456 < b) := by omega
    clear hout
    rcases hcase with h1 | ⟨h1, h2⟩ | ⟨h1, h2, h3⟩ | ⟨h1, h2, h3, h4⟩ | ⟨h1, h2, h3, h4, h5⟩
    · go_enter Tryd.func3, Tryd.ntmps3
      go_wp2_with fail
      go_ret
      exact ⟨rfl, by rw [← hW0]; exact hb0⟩
    · go_enter Tryd.func3, Tryd.ntmps3
      go_wp2_with fail
      go_ret
      exact ⟨rfl, by rw [← hW0]; exact hb0⟩
    · go_enter Tryd.func3, Tryd.ntmps3
      go_wp2_with fail
      go_ret
      exact ⟨rfl, by rw [← hW0]; exact hb0⟩
    all_goals
      have hw : IntKind.i64.wrap (b - a) = b - a := IntWalk.i64_in _ (by omega)
      go_enter Tryd.func3, Tryd.ntmps3
      go_wp2_with fail
      go_ret
      exact ⟨rfl, by rw [← hW0]; exact hb0⟩
  have h1 : ¬ (40 : Int) < (L.length : Int) := by omega
  have h40 : L.length ≤ 40 := by omega
  have h2 : ¬ a < 0 := by omega
  have h3 : ¬ b < a := by omega
  have h4 : ¬ 5000 < b - a := by omega
  have h5 : ¬ 268435456 < b := by omega
  clear hout hb6
  have hw : IntKind.i64.wrap (b - a) = b - a := IntWalk.i64_in _ (by omega)
  have a0 : 0 ≤ a := by omega
  have ab : a ≤ b := by omega
  have b1 : b ≤ 268435456 := by omega
  have hd : b - a ≤ 5000 := by omega
  have HL := Lib.hid (hL0.below hb0)
  clear hL0
  go_enter Tryd.func3, Tryd.ntmps3
  go_wp2_with fail
  rw [← hW0]
  clear hW0
  refine (serValid_any L _ _ HL.out).mono ?_
  rintro e w1 ⟨q, rfl, hq, hb1⟩
  obtain ⟨hc, hf⟩ := bcell hb1
  by_cases hq0 : ¬ q = 0
  · have e5 : (q != 0) = true := by simpa using hq0
    go_wp2_with fail
    go_ret
    exact ⟨rfl, below_step hb0 hb1⟩
  replace hq0 := Classical.not_not.1 hq0
  have hok := hq.1 hq0
  subst hq0
  clear hq
  cases hW : winB W with
  | false =>
    have H1 := Lib.hid (winE_false hW)
    clear hW
    go_wp2_with fail
    refine (winValid_any W _).mono ?_
    rintro e w2 ⟨rfl, hb2⟩
    rw [H1.out]
    go_wp2_with fail
    go_ret
    exact ⟨rfl, below_step hb0 (below_step hb1 hb2)⟩
  | true =>
  have H1 := Lib.hid (winE_true hW)
  clear hW
  have HE1 := Lib.hid (fun x y (p : x ≤ y) (r : y - x ≤ 5000) => en_rng hok h40 p r)
  have HEN := Lib.hid (fun (v : Value) (x y : Int) (w : World) (hL : IsSl w 2 v (L.map encP)) (p : 0 ≤ x) (q : x ≤ y) (r : y ≤ 268435456) (s : y - x ≤ 5000) => serEnergy_any L v x y w hL hok h40 p q r s)
  have HADD := Lib.hid (fun x y t (p : x ≤ y) (q : y ≤ t) => en_add L p q)
  have HNONE := Lib.hid (en_none L a)
  clear hok
  have hcov := spans_cov W z a0 ab b1
  go_wp2_with fail
  refine (winValid_any W _).mono ?_
  rintro e w2 ⟨rfl, hb2⟩
  rw [H1.out]
  have hbw := below_step hb1 hb2
  clear hc hf hb1 hb2
  obtain ⟨hc, hf⟩ := bcell hbw
  go_wp2_with fail
  refine (spans_any W z a b _ (HV.out.below hbw)).mono ?_
  rintro e w3 ⟨v3, rfl, hv3, hb3⟩
  replace hbw := below_step hbw hb3
  clear hc hf hb3
  obtain ⟨hc, hf⟩ := bcell hbw
  generalize spansE W z a b = ee at *
  generalize spansL W z a b = l at *
  obtain ⟨B, d, rfl, hld, hdm, hsm⟩ := hv3
  rw [List.length_map] at hld
  unfold maxLen at hdm
  simp only [List.length_map]
  rcases hcov with ⟨hee, _⟩ | ⟨rfl, hcov⟩
  · have e5 : (ee != 0) = true := by simpa using hee
    go_wp2_with fail
    go_ret
    exact ⟨rfl, below_step hb0 hbw⟩
  have HDV := Lib.hid (fun k (h : k < (l ++ [(b, b)]).length) => div_ok ab hcov h)
  have HDE := Lib.hid (div_end (a := a) (b := b) l)
  have hll := cov_len ab hcov
  clear hcov
  go_wp2_with fail
  refine (HEN.out _ a b _ (HL.out.below hbw) a0 ab b1 hd).mono ?_
  rintro e w4 ⟨rfl, hb4⟩
  replace hsm := hsm.below hb4
  replace hbw := below_step hbw hb4
  clear hc hf hb4
  obtain ⟨hc, hf⟩ := bcell hbw
  go_wp2_with fail
  go_quiet (fail)
  have hg4 : w.heap.size < (w4.drewN nq).heap.size := Nat.lt_of_lt_of_le hg0 hbw.size
  replace hbw : Below W0.heap.size W0 (w4.drewN nq) := below_drewN hbw nq
  replace hsm : SlAt (w4.drewN nq) 2 B (l.map encP) := hsm
  clear hc hf
  obtain ⟨hc, hf⟩ := bcell hbw
  generalize w4.drewN nq = w5 at *
  go_wp2_with fail
  have y3 := old_allocS hg4
  go_cut [98, 99, 100] (fun s n i wx => Hid (IsSl wx 2 s ((l ++ [(b, b)]).map encP)) ∧ n = .int .i64 ((l.length : Int) + 1) ∧ i = .int .i64 0 ∧ Below w5.heap.size w5 wx)
  case first =>
    obtain ⟨i1, hi, hz0, hz1, hz2⟩ := info_parts spanInfo
    have hownA : ((w5.alloc (.cells #[] 28)).drew).ownsRow w5.heap.size 28 2 (.slice (some ⟨w5.heap.size, 0, none⟩) 0 0) 0 [] := (World.ownsRow_lit w5 #[] 0 (Nat.le_refl _) (by decide) rfl).drew
    have hownB : (((w5.alloc (.cells #[] 28)).alloc (.cells #[.int .i64 b, .int .i64 b] 28)).drew).ownsRow w5.heap.size 28 2 (.slice (some ⟨w5.heap.size, 0, none⟩) 0 0) 0 [] := ((World.ownsRow_lit w5 #[] 0 (Nat.le_refl _) (by decide) rfl).alloc _).drew
    have hownC : (((w5.alloc (.cells #[.int .i64 b, .int .i64 b] 28)).alloc (.cells #[] 28)).drew).ownsRow (w5.heap.size + 1) 28 2 (.slice (some ⟨w5.heap.size + 1, 0, none⟩) 0 0) 0 [] := by
      have := World.ownsRow_lit (e := 28) (size := 2) (w5.alloc (.cells #[.int .i64 b, .int .i64 b] 28)) #[] 0 (Nat.le_refl _) (by decide) rfl
      rw [World.size_alloc] at this
      exact this.drew
    have hoB : SlAt (((w5.alloc (.cells #[] 28)).alloc (.cells #[.int .i64 b, .int .i64 b] 28)).drew) 2 (some ⟨w5.heap.size + 1, 0, none⟩) ([(b, b)].map encP) := by
      have := one_at (w5.alloc (.cells #[] 28)) 28 (b, b)
      rw [World.size_alloc] at this
      exact this
    have hoC : SlAt (((w5.alloc (.cells #[.int .i64 b, .int .i64 b] 28)).alloc (.cells #[] 28)).drew) 2 (some ⟨w5.heap.size, 0, none⟩) ([(b, b)].map encP) := (one_at w5 28 (b, b)).below ((Below.refl _ _).alloc (Nat.le_refl _) _).drew
    have hbA : Below w5.heap.size w5 ((w5.alloc (.cells #[] 28)).drew) := ((Below.refl _ _).alloc (Nat.le_refl _) _).drew
    have hbB : Below w5.heap.size w5 (((w5.alloc (.cells #[] 28)).alloc (.cells #[.int .i64 b, .int .i64 b] 28)).drew) := (below_alloc (below_alloc (Below.refl _ _) _) _).drew
    have hbC : Below w5.heap.size w5 (((w5.alloc (.cells #[.int .i64 b, .int .i64 b] 28)).alloc (.cells #[] 28)).drew) := (below_alloc (below_alloc (Below.refl _ _) _) _).drew
    have hbr5 := Below.refl w5.heap.size w5
    have hbD : Below w5.heap.size w5 ((w5.alloc (.cells #[.int .i64 b, .int .i64 b] 28)).drew) := (below_alloc (Below.refl _ _) _).drew
    go_region_held3 (fun w' => (∀ b o, b < w5.heap.size → w'.cell? ⟨b, o, none⟩ = w5.cell? ⟨b, o, none⟩) ∧ Below w5.heap.size w5 w') (first | exact ⟨(bcell (W := w5) (by assumption)).1, by assumption⟩ | exact ⟨(bcell (W := w5) (Below.drew (by assumption))).1, Below.drew (by assumption)⟩ | exact ⟨(bcell (W := w5) (below_alloc (by assumption) _)).1, below_alloc (by assumption) _⟩ | exact ⟨(bcell (W := w5) (below_alloc (And.right (by assumption)) _)).1, below_alloc (And.right (by assumption)) _⟩) ((first
      | (refine step_append_list (enc := encP) _ (by rfl) (.tmp 87) (.tmp 88) _ (by rfl) w5.heap.size 28 i1 _ 2 16 Tryd.underlying34 hi hz0 hz1 hz2 rfl (by decide) encP_len encP_one _ _ _ (by rfl) hownA B d _ l rfl (by rfl) (hsm.below hbA) (by unfold maxLen; omega) (by omega) hbA.size ?_; intro v6 w6 hown6 hgrow6 hnil6 hblk6; have hbx6 : Below w5.heap.size w5 w6 := below_grown hbA hownA (Nat.le_refl _) hgrow6; have hb1 : True := trivial; obtain ⟨hc, hf⟩ := bcell (hbw.trans (hbx6.mono hbw.size)))
      | (refine step_append_list (enc := encP) _ (by rfl) (.tmp 87) (.tmp 88) _ (by rfl) w5.heap.size 28 i1 _ 2 16 Tryd.underlying34 hi hz0 hz1 hz2 rfl (by decide) encP_len encP_one _ _ _ (by rfl) hownB B d _ l rfl (by rfl) (hsm.below hbB) (by unfold maxLen; omega) (by omega) hbB.size ?_; intro v6 w6 hown6 hgrow6 hnil6 hblk6; have hbx6 : Below w5.heap.size w5 w6 := below_grown hbB hownB (Nat.le_refl _) hgrow6; have hb1 : SlAt w6 2 (some ⟨w5.heap.size + 1, 0, none⟩) ([(b, b)].map encP) := slAt_grown hoB hgrow6 (Nat.succ_ne_self _))
      | (refine step_append_list (enc := encP) _ (by rfl) (.tmp 87) (.tmp 88) _ (by rfl) (w5.heap.size + 1) 28 i1 _ 2 16 Tryd.underlying34 hi hz0 hz1 hz2 rfl (by decide) encP_len encP_one _ _ _ (by rfl) hownC B d _ l rfl (by rfl) (hsm.below hbC) (by unfold maxLen; omega) (by omega) (by simp [World.drew]) ?_; intro v6 w6 hown6 hgrow6 hnil6 hblk6; have hbx6 : Below w5.heap.size w5 w6 := below_grown hbC hownC (by omega) hgrow6; have hb1 : SlAt w6 2 (some ⟨w5.heap.size, 0, none⟩) ([(b, b)].map encP) := slAt_grown hoC hgrow6 (Nat.succ_ne_self _).symm)
      | (refine step_append_list (enc := encP) _ (by rfl) (.tmp 89) (.tmp 97) _ (by rfl) _ 28 i1 _ 2 16 Tryd.underlying34 hi hz0 hz1 hz2 rfl (by decide) encP_len encP_one _ _ _ (by rfl) (own_below hown6 ((Below.refl _ _).alloc (Nat.le_refl _) _)) _ 1 _ [(b, b)] rfl (by rfl) (one_at w6 _ (b, b)) (by unfold maxLen; simp; omega) (by simp; omega) (by simp; exact Nat.le_succ_of_le hbx6.size) ?_; intro v7 w7 hown7 hgrow7 hnil7 hblk7; have hbx7 : Below w5.heap.size w5 w7 := below_grown (below_alloc hbx6 _) (own_below hown6 ((Below.refl _ _).alloc (Nat.le_refl _) _)) (Nat.le_refl _) hgrow7; obtain ⟨A7, c7, rfl⟩ := own_shape hown7)
      | (refine step_append_list (enc := encP) _ (by rfl) (.tmp 89) (.tmp 97) _ (by rfl) _ 28 i1 _ 2 16 Tryd.underlying34 hi hz0 hz1 hz2 rfl (by decide) encP_len encP_one _ _ _ (by rfl) hown6 _ 1 _ [(b, b)] rfl (by rfl) hb1 (by unfold maxLen; simp; omega) (by simp; omega) (by have h9 := hgrow6.size; simp [World.drew] at h9; first | exact hbx6.size | omega) ?_; intro v7 w7 hown7 hgrow7 hnil7 hblk7; have hbx7 : Below w5.heap.size w5 w7 := below_grown hbx6 hown6 (by omega) hgrow7; obtain ⟨A7, c7, rfl⟩ := own_shape hown7)))
    all_goals
      have hfin : IsSl w7 2 (.slice A7 (0 + l.length + 1) c7) ((l ++ [(b, b)]).map encP) := IsSl.of_own (l := l ++ [(b, b)]) encP_len (by rw [List.flatMap_append]; simpa using hown7) (by simp)
      clear hc hf
      go_wp2_with fail
      go_meet
      exact ⟨hfin, by simp, rfl, hbx7⟩
  case rest =>
    clear hc hf hsm y3
    obtain ⟨HSP, rfl, rfl, hb6⟩ := hcut
    have hbc := below_step hbw hb6
    clear hb6 hbw hg4
    obtain ⟨A9, c9, rfl, hlc9, hcm9, hs9⟩ := HSP
    have hsl9 : ((l ++ [(b, b)]).map encP).length = l.length + 1 := by simp
    have hsp9 : (l ++ [(b, b)]).length = l.length + 1 := by simp
    rw [hsl9]
    rw [hsl9] at hlc9
    rw [hsp9] at HDE
    unfold maxLen at hcm9
    have HSP9 := Lib.hid hsp9
    clear hsl9
    generalize l ++ [(b, b)] = sp at *
    clear hdm hld
    clear hsp9
    go_wp2_with fail
    go_loopw [6, 7, 100] (fun sm at' i wr => ∃ k : Nat, k ≤ l.length + 1 ∧ sm = .int .i64 (enF L a (prevF a sp k)) ∧ at' = .int .i64 (prevF a sp k) ∧ i = .int .i64 k ∧ Below wc.heap.size wc wr) (fun _ _ i _ => l.length + 1 - (intOf i).toNat)
    case atStart => exact ⟨0, by omega, by rw [show prevF a sp 0 = a from rfl, HNONE.out], rfl, rfl, Below.refl _ _⟩
    case round =>
      obtain ⟨k, hk, rfl, rfl, rfl, hbx⟩ := hrel
      have hbw := below_step hbc hbx
      obtain ⟨hc, hf⟩ := bcell hbw
      have hg5 : w.heap.size < wr.heap.size := Nat.lt_of_lt_of_le hg0 hbw.size
      by_cases hlt : k < l.length + 1
      · have hki : (k : Int) < (l.length : Int) + 1 := by omega
        have hksp : k < sp.length := by rw [HSP9.out]; exact hlt
        have hdv := HDV.out k hksp
        obtain ⟨g, off, rfl, hg, c0, c1⟩ := pair_atD (hs9.below hbx) (List.getElem?_eq_getElem hksp)
        have HPS := Lib.hid (prevF_succ (a := a) hksp)
        generalize sp[k] = p at *
        obtain ⟨p1, p2⟩ := p
        obtain ⟨v1, v2, v3, v4, v5⟩ := hdv
        simp only at c0 c1 v1 v2 v3 v4 v5 HPS
        generalize prevF a sp k = q at *
        have HON := Lib.hid v5
        have HA1 := Lib.hid (HADD.out a q p1 v1 v2)
        have HA2 := Lib.hid (HADD.out a p1 p2 (by omega) v3)
        have r1 := HE1.out a q v1 (by omega)
        have r2 := HE1.out q p1 v2 (by omega)
        have r3 := HE1.out p1 p2 v3 (by omega)
        have hq1 : IntKind.i64.wrap (enF L a q + enF L q p1) = enF L a q + enF L q p1 := IntWalk.i64_in _ (by omega)
        have hq2 : IntKind.i64.wrap (enF L a q + enF L q p1 + enF L p1 p2) = enF L a q + enF L q p1 + enF L p1 p2 := IntWalk.i64_in _ (by omega)
        have k1 : ¬ p1 < q := by omega
        have k2 : ¬ p2 < p1 := by omega
        have HR := Lib.hid (And.intro r1 (And.intro r2 r3))
        clear r1 r2 r3 hq1 hq2 v5
        have y3 := old_allocS (w := wr) (b := w.heap.size) hg5
        go_wp2_with fail
        refine (HEN.out _ q p1 _ (HL.out.below (below_alloc hbw _)) (by omega) v2 (by omega) (by omega)).mono ?_
        rintro e wa ⟨rfl, hba⟩
        have hbwa := below_step (below_alloc hbw _) hba
        have e0 := ((bcell hba).1 wr.heap.size 0 (by simp)).trans (World.cell?_alloc_mark wr #[.int .i64 p1, .int .i64 p2] 28 (0, 0) 0)
        have e1 := ((bcell hba).1 wr.heap.size 1 (by simp)).trans (World.cell?_alloc_mark wr #[.int .i64 p1, .int .i64 p2] 28 (0, 0) 1)
        have ez : wr.heap.size < wa.heap.size := Nat.lt_of_lt_of_le (by simp) hba.size
        have hbxa := below_step (below_alloc hbx _) hba
        clear hc hf hba c0 c1 y3
        obtain ⟨hc, hf⟩ := bcell hbwa
        go_wp2_with fail
        refine (HEN.out _ p1 p2 _ (HL.out.below hbwa) (by omega) v3 (by omega) (by omega)).mono ?_
        rintro e wb ⟨rfl, hbb⟩
        have hbwb := below_step hbwa hbb
        have hbxb := below_step hbxa hbb
        have f0 := ((bcell hbb).1 wr.heap.size 0 ez).trans e0
        have f1 := ((bcell hbb).1 wr.heap.size 1 ez).trans e1
        have fz : wr.heap.size < wb.heap.size := Nat.lt_of_lt_of_le ez hbb.size
        generalize wr.heap.size = gs at *
        clear hc hf hbb e0 e1 ez hbwa hbxa hbx hbw
        obtain ⟨hc, hf⟩ := bcell hbwb
        go_wp2_with fail
        go_loopw [14] (fun tt wx => ∃ u : Int, tt = .int .i64 u ∧ p1 ≤ u ∧ u ≤ p2 ∧ Below wb.heap.size wb wx) (fun tt _ => (p2 - intOf tt).toNat)
        case atStart => exact ⟨p1, rfl, Int.le_refl _, v3, Below.refl _ _⟩
        case round =>
          clear hc hf
          obtain ⟨u, rfl, u1, u2, hbu⟩ := hrel
          have hbwu := below_step hbwb hbu
          have hbxu := below_step hbxb hbu
          have g0 := ((bcell hbu).1 gs 0 fz).trans f0
          have g1 := ((bcell hbu).1 gs 1 fz).trans f1
          have gz : gs < wr.heap.size := Nat.lt_of_lt_of_le fz hbu.size
          obtain ⟨hc, hf⟩ := bcell hbwu
          by_cases hu : u < p2
          · have HC := Lib.hid (holdsC (HON.out u u1 hu))
            go_wp2_with fail
            refine (HC.out _ (HV.out.below hbwu)).mono ?_
            rintro e wd ⟨rfl, hbd⟩
            go_wp2_with fail
            go_roundw
            case measure => simp [intOf]; omega
            case rel => exact ⟨u + 1, by go_num, by omega, by omega, below_step hbu hbd⟩
          · have HSUM : Hid (enF L a q + enF L q p1 + enF L p1 p2 = enF L a (prevF a sp (k + 1))) := by unfold Hid; rw [HPS.out, HA1.out, HA2.out]
            go_wp2_with fail
            go_quiet (fail)
            go_wp2_with fail
            go_roundw
            case measure => simp [intOf]; omega
            case rel => exact ⟨k + 1, by omega, by obtain ⟨⟨r1, r2⟩, ⟨r3, r4⟩, r5, r6⟩ := HR.out; rw [IntWalk.wrap64_in (enF L a q + enF L q p1) ⟨by omega, by omega⟩, IntWalk.wrap64_in _ ⟨by omega, by omega⟩, HSUM.out], by rw [HPS.out], by go_num, below_drewN hbxu _⟩
      · have hki : ¬ (k : Int) < (l.length : Int) + 1 := by omega
        obtain rfl : k = l.length + 1 := by omega
        rw [HDE.out]
        have hee : (enF L a b == enF L a b) = true := by simp
        generalize enF L a b = tot at *
        go_wp2_with fail
        refine (awakeWin_any _ (HV.out.below hbw)).mono ?_
        rintro e we ⟨rfl, hbe⟩
        go_wp2_with fail
        go_ret
        exact ⟨rfl, below_step hb0 (below_step hbw hbe)⟩

end Go.Proofs.YtpknjblgbpndlaaDoor
