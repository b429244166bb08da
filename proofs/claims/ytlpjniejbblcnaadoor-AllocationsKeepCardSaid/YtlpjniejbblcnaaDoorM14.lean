/-
  Walks: the size test, and the example of the chapter on the allocation of power.
  The arguments of the laws of package allocate, opened.
  The row of a law: behind a call of which it is known that it returns true and that no old memory has turned, the row's condition on what is left holds. No program is named here.
-/
import Derived.Test.YtlpjniejbblcnaaDoorM12
import Derived.Test.YtlpjniejbblcnaaDoorM13
import Derived.Test.YtlpjniejbblcnaaDoorM7
import Derived.Test.YtlpjniejbblcnaaDoorM9
import Derived.ProofKit
import Derived.OpenShut
import Derived.Below

namespace Go.Proofs.YtlpjniejbblcnaaDoor
open Go.RowKit Go.Lib Go.Maps
attribute [local go_sem] after_cell
set_option linter.unusedVariables false

theorem ints_cell {w : World} {A : Option Addr} {l : List Int} (h : SlAt w 1 A (l.map encZ)) (h0 : 0 < l.length) : ∃ b off, A = some ⟨b, off, none⟩ ∧ ∀ j, j < l.length → w.cell? ⟨b, off + j, none⟩ = some (.int .i64 (l.getD j 0)) := by
  obtain ⟨b, off, e, _, _⟩ := int_at h h0
  refine ⟨b, off, e, fun j hj => ?_⟩
  obtain ⟨b2, off2, e2, _, c2⟩ := int_at h hj
  rw [e] at e2
  injection e2 with e2
  injection e2 with e3 e4
  subst e3 e4
  rw [c2, List.getD_eq_getElem?_getD, List.getElem?_eq_getElem hj]; rfl
theorem equal_any (xs ys : List Int) (u v : Value) (w : World) (hU : IsSl w 1 u (xs.map encZ)) (hV : IsSl w 1 v (ys.map encZ)) :
    Calls Tryd.prog 14 #[u, v] w fun e w' => e = .returned (.bool (xs == ys)) ∧ Below w.heap.size w w' := by
  obtain ⟨A, c, rfl, hlc, hcm, hsl⟩ := islen' hU
  obtain ⟨B, d, rfl, hld, hdm, hsl2⟩ := islen' hV
  unfold maxLen at hcm hdm
  by_cases hl : xs.length = ys.length
  · rcases Nat.eq_zero_or_pos xs.length with h0 | h0
    · have e1 : xs = [] := List.eq_nil_of_length_eq_zero h0
      have e2 : ys = [] := List.eq_nil_of_length_eq_zero (by omega)
      subst e1 e2
      exact (Tryd.slices_Equal_int_empty A B c 0 d w (by omega)).mono fun e w' ⟨h1, h2⟩ => ⟨h1, h2 ▸ Below.refl _ _⟩
    · obtain ⟨b, off, rfl, hc⟩ := ints_cell hsl h0
      obtain ⟨b2, off2, rfl, hc2⟩ := ints_cell hsl2 (by omega)
      refine (Tryd.slices_Equal_int b off xs.length c b2 off2 ys.length d xs ys w (Nat.le_refl _) (Nat.le_refl _) (by omega) (by omega) hc hc2).mono fun e w' ⟨h1, q, h2⟩ => ⟨?_, h2 ▸ below_drewN (Below.refl _ _) q⟩
      rw [List.take_length, List.take_length] at h1
      exact h1
  · refine (Tryd.slices_Equal_int_lens A B xs.length c ys.length d w hl).mono fun e w' ⟨h1, h2⟩ => ⟨?_, h2 ▸ Below.refl _ _⟩
    rw [h1]
    have : (xs == ys) = false := by
      cases h : xs == ys with
      | false => rfl
      | true => exact absurd (by rw [eq_of_beq h]) hl
    rw [this]

theorem equal_same (xs : List Int) (u v : Value) (w : World) (hU : IsSl w 1 u (xs.map encZ)) (hV : IsSl w 1 v (xs.map encZ)) :
    Calls Tryd.prog 14 #[u, v] w fun e w' => e = .returned (.bool true) ∧ Below w.heap.size w w' := by
  have h := equal_any xs xs u v w hU hV
  have e : (xs == xs) = true := by simp
  rw [e] at h
  exact h
/-- what the size test says -/
def BigPost (S : SiteR) (C : List CapR) (W : List WantR) (w : World) (e : Ending) (w' : World) : Prop :=
  Below w.heap.size w w' ∧ ∃ b : Bool, e = .returned (.bool b) ∧ (b = false → S.F.length ≤ 40 ∧ S.P.length ≤ 40 ∧ C.length ≤ 40 ∧ W.length ≤ 40)
theorem BigPost.yes {S : SiteR} {C : List CapR} {W : List WantR} {w w' : World} (hb : Below w.heap.size w w') : BigPost S C W w (.returned (.bool true)) w' := ⟨hb, true, rfl, fun h => by cases h⟩

set_option maxRecDepth 100000 in
set_option maxHeartbeats 12800000 in
theorem big_any (S : SiteR) (C : List CapR) (W : List WantR) (fv pv cv wv : Value) (w : World) (hF : IsSl w 5 fv (S.F.map Feed.cells)) (hP : IsSl w 5 pv (S.P.map Pnt.cells)) (hC : IsSl w 4 cv (C.map CapR.cells)) (hW : IsSl w 3 wv (W.map WantR.cells)) :
    Calls Tryd.prog 11 #[.agg #[.string S.name, fv, pv], cv, wv] w (BigPost S C W w) := by
  obtain ⟨A, c, rfl, hlc, hcm, hsl⟩ := islen' hF
  obtain ⟨B, d, rfl, hld, hdm, hsp⟩ := islen' hP
  obtain ⟨C', c', rfl, hlc', hcm', hsc⟩ := islen' hC
  obtain ⟨D, d', rfl, hld', hdm', hsw⟩ := islen' hW
  obtain ⟨W0, hW0, hb0, hg0, hx0⟩ := box1 w #[.string S.name, .slice A S.F.length c, .slice B S.P.length d] 30
  have HSF := Lib.hid (hsl.below hb0)
  have HSP := Lib.hid (hsp.below hb0)
  clear hF hP hC hW hsl hsp hsc hsw hlc hld hlc' hld' hcm hdm hcm' hdm'
  have hcase : (40 : Int) < S.F.length ∨ (¬ (40 : Int) < S.F.length ∧ (40 : Int) < S.P.length) ∨ (¬ (40 : Int) < S.F.length ∧ ¬ (40 : Int) < S.P.length ∧ (40 : Int) < C.length) ∨ (¬ (40 : Int) < S.F.length ∧ ¬ (40 : Int) < S.P.length ∧ ¬ (40 : Int) < C.length ∧ (40 : Int) < W.length) ∨
      (¬ (40 : Int) < S.F.length ∧ ¬ (40 : Int) < S.P.length ∧ ¬ (40 : Int) < C.length ∧ ¬ (40 : Int) < W.length ∧ (4096 : Int) < S.name.size) ∨ (¬ (40 : Int) < S.F.length ∧ ¬ (40 : Int) < S.P.length ∧ ¬ (40 : Int) < C.length ∧ ¬ (40 : Int) < W.length ∧ ¬ (4096 : Int) < S.name.size) := by omega
  rcases hcase with h1 | ⟨h1, h2⟩ | ⟨h1, h2, h3⟩ | ⟨h1, h2, h3, h4⟩ | ⟨h1, h2, h3, h4, h5⟩ | ⟨h1, h2, h3, h4, h5⟩
  iterate 5
    · go_enter Tryd.func11, Tryd.ntmps11
      go_wp2_with fail
      go_ret
      exact .yes (by rw [← hW0]; exact hb0)
  have HSZ : Hid (S.F.length ≤ 40 ∧ S.P.length ≤ 40 ∧ C.length ≤ 40 ∧ W.length ≤ 40) := by unfold Hid; omega
  go_enter Tryd.func11, Tryd.ntmps11
  go_wp2_with fail
  rw [← hW0]
  clear hW0
  go_loopw [38] (fun i wr => ∃ k : Nat, k ≤ S.F.length ∧ i = .int .i64 k ∧ Below W0.heap.size W0 wr) (fun i _ => S.F.length - (intOf i).toNat)
  case atStart => exact ⟨0, by omega, rfl, Below.refl _ _⟩
  case round =>
    obtain ⟨k, hk, rfl, hbw⟩ := hrel
    obtain ⟨hc, hf⟩ := bcell hbw
    by_cases hlt : k < S.F.length
    · have hki : (k : Int) < (S.F.length : Int) := by omega
      obtain ⟨b, off, rfl, hbb, c0, c1, c2, c3, c4⟩ := feed_at HSF.out hlt
      generalize S.F[k].name = nm at *
      clear c1 c2 c3 c4
      by_cases hn : (4096 : Int) < nm.size
      · go_wp2_with fail
        go_ret
        exact .yes (below_step hb0 hbw)
      · go_wp2_with fail
        go_roundw
        case measure => simp [intOf] <;> omega
        case rel => exact ⟨k + 1, by omega, by go_num, hbw⟩
    · have hki : ¬ (k : Int) < (S.F.length : Int) := by omega
      go_wp2_with fail
      go_loopw [53] (fun i wi => ∃ k : Nat, k ≤ S.P.length ∧ i = .int .i64 k ∧ Below W0.heap.size W0 wi) (fun i _ => S.P.length - (intOf i).toNat)
      case atStart => exact ⟨0, by omega, rfl, hbw⟩
      case round =>
        clear hc hf hki hk hlt hbw
        obtain ⟨k, hk, rfl, hbw⟩ := hrel
        obtain ⟨hc, hf⟩ := bcell hbw
        by_cases hlt : k < S.P.length
        · have hki : (k : Int) < (S.P.length : Int) := by omega
          obtain ⟨b, off, rfl, hbb, c0, c1, c2, c3, c4⟩ := pnt_at HSP.out hlt
          generalize S.P[k].name = nm at *
          clear c1 c2 c3 c4
          by_cases hn : (4096 : Int) < nm.size
          · go_wp2_with fail
            go_ret
            exact .yes (below_step hb0 hbw)
          · go_wp2_with fail
            go_roundw
            case measure => simp [intOf] <;> omega
            case rel => exact ⟨k + 1, by omega, by go_num, hbw⟩
        · have hki : ¬ (k : Int) < (S.P.length : Int) := by omega
          go_wp2_with fail
          go_ret
          exact ⟨below_step hb0 hbw, false, rfl, fun _ => HSZ.out⟩

/-- the example in memory -/
structure ExM (w : World) (b : Nat) (l ph : Int) : Prop where
  f : Blk w (b + 1) 26 (eF.flatMap Feed.cells)
  p : Blk w (b + 2) 34 ((eP l ph).flatMap Pnt.cells)
  c : Blk w (b + 4) 41 (eC.flatMap CapR.cells)
  w : Blk w (b + 5) 36 (eW.flatMap WantR.cells)
theorem ExM.below {w w' : World} {b : Nat} {l ph : Int} (h : ExM w b l ph) (hb : Below w.heap.size w w') : ExM w' b l ph := ⟨h.f.below hb h.f.lt, h.p.below hb h.p.lt, h.c.below hb h.c.lt, h.w.below hb h.w.lt⟩

set_option maxRecDepth 100000 in
set_option maxHeartbeats 6400000 in
theorem ex17_any (l : Int) (w : World) : Calls Tryd.prog 29 #[.int .i64 l] w fun e w' =>
    e = .returned (.tuple #[.agg #[.string ⟨#[115]⟩, .slice (some ⟨w.heap.size + 1, 0, none⟩) 1 1, .slice (some ⟨w.heap.size + 2, 0, none⟩) 2 2], .slice (some ⟨w.heap.size + 4, 0, none⟩) 1 1, .slice (some ⟨w.heap.size + 5, 0, none⟩) 2 2]) ∧ ExM w' w.heap.size l 1 ∧ Below w.heap.size w w' := by
  go_enter Tryd.func29, Tryd.ntmps29
  go_wp2_with fail
  refine bodyPost_ret (v := .tuple #[.agg #[.string ⟨#[115]⟩, .slice (some ⟨w.heap.size + 1, 0, none⟩) 1 1, .slice (some ⟨w.heap.size + 2, 0, none⟩) 2 2], .slice (some ⟨w.heap.size + 4, 0, none⟩) 1 1, .slice (some ⟨w.heap.size + 5, 0, none⟩) 2 2]) ?_ rfl ?_
  · simp [results, Tryd.results29, go_sem]
  · refine ⟨rfl, ⟨?_, ?_, ?_, ?_⟩, ?_⟩
    · repeat (first | (refine Blk.new' ?_ _ _ rfl; simp; done) | refine Blk.alloc ?_ _)
    · repeat (first | (refine Blk.new' ?_ _ _ rfl; simp; done) | refine Blk.alloc ?_ _)
    · repeat (first | (refine Blk.new' ?_ _ _ rfl; simp; done) | refine Blk.alloc ?_ _)
    · repeat (first | (refine Blk.new' ?_ _ _ rfl; simp; done) | refine Blk.alloc ?_ _)
    · repeat (first | exact Below.refl _ _ | refine below_alloc ?_ _)

theorem IsSl.far {w w0 : World} {v : Value} {rows : List (List Value)} (h : IsSl w 1 v rows) (hf : Fresh w0 v) {g : Nat} (hg : g < w0.heap.size) (k : Nat) (u : Value) : IsSl (w.setCell ⟨g, k, none⟩ u) 1 v rows := by
  obtain ⟨A, c, rfl, h1, h2, h3⟩ := h
  refine ⟨A, c, rfl, h1, h2, fun i row hi => ?_⟩
  obtain ⟨b, off, rfl, hb, hc⟩ := h3 i row hi
  have := hf b off _ _ rfl
  exact ⟨b, off, rfl, by simpa using hb, fun j x hx => (far_cell (by omega) _ _ _ _).trans (hc j x hx)⟩
theorem lit_sl (w : World) (l : List Int) (cs : Array Value) (h : cs.toList = l.flatMap encZ) (hl : l.length ≤ 1000) : IsSl (w.alloc (.cells cs 3)) 1 (.slice (some ⟨w.heap.size, 0, none⟩) l.length l.length) (l.map encZ) :=
  Blk.isSl (T := 3) encZ_len (Blk.new' rfl _ _ h) rfl (by unfold maxLen; omega)
theorem eF_fits : ∀ f ∈ eF, f.fits := by
  intro f hf; simp [eF] at hf; subst hf; unfold Feed.fits; decide
theorem eP_fits (l ph : Int) : ∀ p ∈ eP l ph, p.fits := by
  intro p hp; simp [eP] at hp; rcases hp with rfl | rfl
  · show (⟨#[112]⟩ : ByteArray).size ≤ maxLen; decide
  · show (⟨#[113]⟩ : ByteArray).size ≤ maxLen; decide
theorem eW_fits : ∀ x ∈ eW, I64 x.phases := by
  intro x hx; simp [eW] at hx; rcases hx with rfl | rfl <;> rfl
theorem Feed.cells_len (c : Feed) : c.cells.length = 5 := rfl
theorem Pnt.cells_len (c : Pnt) : c.cells.length = 5 := rfl
theorem WantR.cells_len' (c : WantR) : c.cells.length = 3 := rfl
section
variable {w : World} {b : Nat} {l ph : Int}
theorem ExM.sf (h : ExM w b l ph) : IsSl w 5 (.slice (some ⟨b + 1, 0, none⟩) 1 1) ((eS l ph).F.map Feed.cells) := h.f.isSl Feed.cells_len rfl (by decide)
theorem ExM.sp (h : ExM w b l ph) : IsSl w 5 (.slice (some ⟨b + 2, 0, none⟩) 2 2) ((eS l ph).P.map Pnt.cells) := h.p.isSl Pnt.cells_len rfl (by decide)
theorem ExM.sc (h : ExM w b l ph) : IsSl w 4 (.slice (some ⟨b + 4, 0, none⟩) 1 1) (eC.map CapR.cells) := h.c.isSl CapR.cells_len rfl (by decide)
theorem ExM.sw (h : ExM w b l ph) : IsSl w 3 (.slice (some ⟨b + 5, 0, none⟩) 2 2) (eW.map WantR.cells) := h.w.isSl WantR.cells_len' rfl (by decide)
theorem ExM.phase (h : ExM w b l ph) (q : Int) : ExM (w.setCell ⟨b + 2, 2, none⟩ (.int .i64 q)) b l q :=
  ⟨h.f.other (by omega) _, h.p.set 2 (.int .i64 q), h.c.other (by omega) _, h.w.other (by omega) _⟩
end

theorem exRaise_any {w : World} {b : Nat} {v : Value} (x : Int) (r : Bool) (hM : ExM w b 0 1) (hV : IsSl w 1 v ([x, 5000].map encZ)) (hx : 0 ≤ x) (hr : raiseB (eS 0 1) eC eW [x, 5000] 0 = r) :
    Calls Tryd.prog 16 #[.agg #[.string ⟨#[115]⟩, .slice (some ⟨b + 1, 0, none⟩) 1 1, .slice (some ⟨b + 2, 0, none⟩) 2 2], .slice (some ⟨b + 4, 0, none⟩) 1 1, .slice (some ⟨b + 5, 0, none⟩) 2 2, v, .int .i64 0] w fun e w' => e = .returned (.bool r) ∧ Below w.heap.size w w' := by
  have h := araise_any (eS 0 1) eC eW [x, 5000] 0 _ _ _ _ v w hM.sf hM.sp hM.sc hM.sw hV (by decide) eF_fits (eP_fits 0 1) eW_fits rfl (by decide) (by decide) (by decide) hx
  rw [hr] at h
  exact h
theorem exRaise_no : raiseB (eS 0 1) eC eW [5000, 5000] 0 = false := by
  show (true && fitsB (eS 0 1) eC eW [5001, 5000]) = false
  rw [ex_up]; rfl
theorem exRaise_yes : raiseB (eS 0 1) eC eW [4999, 5000] 0 = true := by
  show (true && fitsB (eS 0 1) eC eW [5000, 5000]) = true
  rw [ex_fit]; rfl

set_option maxRecDepth 100000 in
set_option maxHeartbeats 12800000 in
theorem ex17Holds_any (w : World) : Calls Tryd.prog 12 #[] w fun e w' => e = .returned (.bool true) ∧ Below w.heap.size w w' := by
  go_enter Tryd.func12, Tryd.ntmps12
  go_wp2_with fail
  refine (ex17_any 0 w).mono ?_
  rintro e w1 ⟨rfl, hM1, hb1⟩
  obtain ⟨W1, hW1, hbx1, hg1, hx1⟩ := box1 w1 #[.string ⟨#[115]⟩, .slice (some ⟨w.heap.size + 1, 0, none⟩) 1 1, .slice (some ⟨w.heap.size + 2, 0, none⟩) 2 2] 30
  have HM1 := Lib.hid (hM1.below hbx1)
  have HB1 := Lib.hid (below_step hb1 hbx1)
  have hlt1 := hM1.w.lt
  have hs1 := hb1.size
  clear hM1 hb1
  go_wp2_with fail
  rw [← hW1]
  clear hW1 hbx1
  refine (arun_any (eS 0 1) eC eW _ _ _ _ W1 HM1.out.sf HM1.out.sp HM1.out.sc HM1.out.sw (by decide) eF_fits (eP_fits 0 1) (by decide) (by decide)).mono ?_
  rintro e w2 ⟨hb2, hp2⟩
  rw [eAll0] at hp2
  rcases hp2 with ⟨h, _⟩ | ⟨_, v2, x2, rfl, hx2, hs2, hf2⟩
  · exact absurd rfl h
  have HX2 : Hid (IsSl w2 1 v2 ([5000, 5000].map encZ)) := by have h := hs2; rw [show eW.length = 2 from rfl, ex_even hx2] at h; exact h
  have HM2 := Lib.hid (HM1.out.below hb2)
  have HB2 := Lib.hid (below_step HB1.out hb2)
  have HF2 := Lib.hid hf2
  have hy2 := fun j => (hb2.cell (p := ⟨w1.heap.size, j, none⟩) hg1).trans (hx1 j)
  have hz2 := hb2.size
  clear hs2 hx2 hf2 hx1 hb2
  go_wp2_with fail
  refine (ex17_any 6000 w2).mono ?_
  rintro e w3 ⟨rfl, hM3, hb3⟩
  obtain ⟨W3, hW3, hbx3, hg3, hx3⟩ := box1 w3 #[.string ⟨#[115]⟩, .slice (some ⟨w2.heap.size + 1, 0, none⟩) 1 1, .slice (some ⟨w2.heap.size + 2, 0, none⟩) 2 2] 30
  have hb23 := below_step hb3 hbx3
  have HN3 := Lib.hid (hM3.below hbx3)
  have HM3 := Lib.hid (HM2.out.below hb23)
  have HX3 := Lib.hid (HX2.out.below hb23)
  have HB3 := Lib.hid (below_step HB2.out hb23)
  have hy3 := fun j => (hb23.cell (p := ⟨w1.heap.size, j, none⟩) (show w1.heap.size < w2.heap.size by omega)).trans (hy2 j)
  have hz3 := hb23.size
  clear hM3 hb3 hy2 HX2 HM2 HM1
  go_wp2_with fail
  rw [← hW3]
  clear hW3 hbx3
  refine (arun_any (eS 6000 1) eC eW _ _ _ _ W3 HN3.out.sf HN3.out.sp HM3.out.sc HM3.out.sw (by decide) eF_fits (eP_fits 6000 1) (by decide) (by decide)).mono ?_
  rintro e w4 ⟨hb4, hp4⟩
  rw [eAll6] at hp4
  rcases hp4 with ⟨h, _⟩ | ⟨_, v4, x4, rfl, hx4, hs4, hf4⟩
  · exact absurd rfl h
  have HX4 : Hid (IsSl w4 1 v4 ([7000, 0].map encZ)) := by have h := hs4; rw [show eW.length = 2 from rfl, ex_least hx4] at h; exact h
  have HV4 := Lib.hid (HX3.out.below hb4)
  have HM4 := Lib.hid (HM3.out.below hb4)
  have HB4 := Lib.hid (below_step HB3.out hb4)
  have HF4 := Lib.hid hf4
  have hy4 := fun j => (hb4.cell (p := ⟨w1.heap.size, j, none⟩) (show w1.heap.size < W3.heap.size by omega)).trans (hy3 j)
  have hz4 := hb4.size
  have g4 : w1.heap.size < w4.heap.size := by omega
  clear hs4 hx4 hf4 hx3 hb4 hy3 HX3 HM3 HN3
  go_wp2_with fail
  refine (arun_any (eS 0 1) eC [] _ _ _ _ w4 HM4.out.sf HM4.out.sp HM4.out.sc (IsSl.nil _ _) (by decide) eF_fits (eP_fits 0 1) (by decide) (by decide)).mono ?_
  rintro e w5 ⟨hb5, hp5⟩
  rw [eAllN] at hp5
  rcases hp5 with ⟨h, _⟩ | ⟨_, v5, x5, rfl, hx5, hs5, hf5⟩
  · exact absurd rfl h
  obtain ⟨A5, c5, hv5, _, _, _⟩ := islen' hs5
  have hv5' : v5 = .slice A5 0 c5 := hv5
  subst hv5'
  have HV5 := Lib.hid (HV4.out.below hb5)
  have HX5 := Lib.hid (HX4.out.below hb5)
  have HM5 := Lib.hid (HM4.out.below hb5)
  have HB5 := Lib.hid (below_step HB4.out hb5)
  have hy5 := fun j => (hb5.cell (p := ⟨w1.heap.size, j, none⟩) g4).trans (hy4 j)
  have hz5 := hb5.size
  have g5 : w1.heap.size < w5.heap.size := by omega
  clear hs5 hx5 hf5 hb5 hy4 HV4 HX4 HM4 hv5
  go_wp2_with fail
  refine (arun_any (eS 0 1) [] eW _ _ _ _ w5 HM5.out.sf HM5.out.sp (IsSl.nil _ _) HM5.out.sw (by decide) eF_fits (eP_fits 0 1) (by decide) (by decide)).mono ?_
  rintro e w6 ⟨hb6, hp6⟩
  rw [eAllB] at hp6
  rcases hp6 with ⟨_, rfl⟩ | ⟨h, _⟩
  rotate_left 1
  · exact absurd h (by decide)
  have HV6 := Lib.hid (HV5.out.below hb6)
  have HX6 := Lib.hid (HX5.out.below hb6)
  have HM6 := Lib.hid (HM5.out.below hb6)
  have HB6 := Lib.hid (below_step HB5.out hb6)
  have hy6 := fun j => (hb6.cell (p := ⟨w1.heap.size, j, none⟩) g5).trans (hy5 j)
  have hz6 := hb6.size
  have g6 : w1.heap.size < w6.heap.size := by omega
  have q6 := (HM6.out.p.cell 2).trans rfl
  have f6 := HM6.out.p.free 2
  have hl6 := HM6.out.p.lt
  have hne6 : ¬ w1.heap.size = w.heap.size + 2 := by omega
  clear hb6 hy5 HV5 HX5 HM5
  go_wp2_with fail
  obtain ⟨W7, hW7⟩ : ∃ W7, W7 = ((w6.setCell ⟨w.heap.size + 2, 2, none⟩ (.int .i64 7)).alloc (.cells #[.int .i64 9000, .int .i64 9000, .int .i64 9000, .int .i64 10000] 41)).alloc (.cells #[.int .i64 0, .int .i64 7, .int .i64 7000] 36) := ⟨_, rfl⟩
  rw [← hW7]
  have hbs : Below (w6.setCell ⟨w.heap.size + 2, 2, none⟩ (.int .i64 7)).heap.size (w6.setCell ⟨w.heap.size + 2, 2, none⟩ (.int .i64 7)) W7 := by rw [hW7]; exact below_alloc (below_alloc (Below.refl _ _) _) _
  have hss : (w6.setCell ⟨w.heap.size + 2, 2, none⟩ (.int .i64 7)).heap.size = w6.heap.size := by simp
  have HM7 := Lib.hid ((HM6.out.phase 7).below hbs)
  have HV7 := Lib.hid ((HV6.out.far HF2.out (g := w.heap.size + 2) (by omega) 2 (.int .i64 7)).below hbs)
  have HX7 := Lib.hid ((HX6.out.far HF4.out (g := w.heap.size + 2) (by omega) 2 (.int .i64 7)).below hbs)
  have HB7 : Hid (Below w.heap.size w W7) := (HB6.out.setCell (p := ⟨w.heap.size + 2, 2, none⟩) (show w.heap.size ≤ w.heap.size + 2 by omega) (.int .i64 7)).trans (hbs.mono (by rw [hss]; omega))
  have hy7 := fun j => (hbs.cell (p := ⟨w1.heap.size, j, none⟩) (by rw [hss]; exact g6)).trans ((far_cell (b := w1.heap.size) (g := w.heap.size + 2) (by omega) w6 2 (.int .i64 7) j).trans (hy6 j))
  have HC7 : Hid (IsSl W7 4 (.slice (some ⟨w6.heap.size, 0, none⟩) 1 1) (eC3.map CapR.cells)) := by
    have h : Blk W7 w6.heap.size 41 (eC3.flatMap CapR.cells) := by rw [hW7]; exact (Blk.new' (by simp) _ _ rfl).alloc _
    exact h.isSl CapR.cells_len rfl (by decide)
  have HW7 : Hid (IsSl W7 3 (.slice (some ⟨w6.heap.size + 1, 0, none⟩) 1 1) (eW3.map WantR.cells)) := by
    have h : Blk W7 (w6.heap.size + 1) 36 (eW3.flatMap WantR.cells) := by rw [hW7]; exact Blk.new' (by simp) _ _ rfl
    exact h.isSl WantR.cells_len' rfl (by decide)
  have hz7 : w6.heap.size ≤ W7.heap.size := by have := hbs.size; rw [hss] at this; exact this
  clear hW7 hbs hss HV6 HX6 HM6 hy6 q6 f6 hl6
  refine (arun_any (eS 0 7) eC3 eW3 _ _ _ _ W7 HM7.out.sf HM7.out.sp HC7.out HW7.out (by decide) eF_fits (eP_fits 0 7) (by decide) (by decide)).mono ?_
  rintro e w8 ⟨hb8, hp8⟩
  rw [eAll7] at hp8
  rcases hp8 with ⟨h, _⟩ | ⟨_, v8, x8, rfl, hx8, hs8, hf8⟩
  · exact absurd rfl h
  have HZ8 : Hid (IsSl w8 1 v8 ([3333].map encZ)) := by have h := hs8; rw [show eW3.length = 1 from rfl, ex_three hx8] at h; exact h
  have HV8 := Lib.hid (HV7.out.below hb8)
  have HX8 := Lib.hid (HX7.out.below hb8)
  have HM8 := Lib.hid (HM7.out.below hb8)
  have HB8 := Lib.hid (below_step HB7.out hb8)
  have HF8 := Lib.hid hf8
  have hy8 := fun j => (hb8.cell (p := ⟨w1.heap.size, j, none⟩) (show w1.heap.size < W7.heap.size by omega)).trans (hy7 j)
  have hz8 := hb8.size
  have g8 : w1.heap.size < w8.heap.size := by omega
  have q8 := (HM8.out.p.cell 2).trans rfl
  have f8 := HM8.out.p.free 2
  have hl8 := HM8.out.p.lt
  clear hs8 hx8 hf8 hb8 hy7 HV7 HX7 HM7 HC7 HW7
  go_wp2_with fail
  obtain ⟨W9, hW9⟩ : ∃ W9, W9 = w8.setCell ⟨w.heap.size + 2, 2, none⟩ (.int .i64 1) := ⟨_, rfl⟩
  have hs9 : W9.heap.size = w8.heap.size := by rw [hW9]; simp
  rw [← hW9, ← hs9]
  have HM9 : Hid (ExM W9 w.heap.size 0 1) := by rw [hW9]; exact HM8.out.phase 1
  have HV9 : Hid (IsSl W9 1 v2 ([5000, 5000].map encZ)) := by rw [hW9]; exact HV8.out.far HF2.out (by omega) _ _
  have HX9 : Hid (IsSl W9 1 v4 ([7000, 0].map encZ)) := by rw [hW9]; exact HX8.out.far HF4.out (by omega) _ _
  have HZ9 : Hid (IsSl W9 1 v8 ([3333].map encZ)) := by rw [hW9]; exact HZ8.out.far HF8.out (by omega) _ _
  have HB9 : Hid (Below w.heap.size w W9) := by rw [hW9]; exact HB8.out.setCell (p := ⟨w.heap.size + 2, 2, none⟩) (show w.heap.size ≤ w.heap.size + 2 by omega) _
  have hy9 := fun j => (show W9.cell? ⟨w1.heap.size, j, none⟩ = w8.cell? ⟨w1.heap.size, j, none⟩ by rw [hW9]; exact far_cell (by omega) _ _ _ _).trans (hy8 j)
  have g9 : w1.heap.size < W9.heap.size := by omega
  clear hW9 q8 f8 hl8 HV8 HX8 HZ8 HM8 hy8 hs9
  refine (equal_same [5000, 5000] _ _ _ (HV9.out.below (below_alloc (Below.refl _ _) _)) (lit_sl W9 [5000, 5000] _ rfl (by decide))).mono ?_
  rintro e wa ⟨rfl, hba⟩
  have hb9a := below_step (below_alloc (Below.refl W9.heap.size W9) (.cells #[.int .i64 5000, .int .i64 5000] 3)) hba
  go_wp2_with fail
  refine (equal_same [7000, 0] _ _ _ ((HX9.out.below hb9a).below (below_alloc (Below.refl _ _) _)) (lit_sl wa [7000, 0] _ rfl (by decide))).mono ?_
  rintro e wb ⟨rfl, hbb⟩
  have hb9b := below_step hb9a (below_step (below_alloc (Below.refl wa.heap.size wa) (.cells #[.int .i64 7000, .int .i64 0] 3)) hbb)
  go_wp2_with fail
  refine (equal_same [3333] _ _ _ ((HZ9.out.below hb9b).below (below_alloc (Below.refl _ _) _)) (lit_sl wb [3333] _ rfl (by decide))).mono ?_
  rintro e wc ⟨rfl, hbc⟩
  have hb9c := below_step hb9b (below_step (below_alloc (Below.refl wb.heap.size wb) (.cells #[.int .i64 3333] 3)) hbc)
  have yc := fun j => (hb9c.cell (p := ⟨w1.heap.size, j, none⟩) g9).trans (hy9 j)
  have gc : w1.heap.size < wc.heap.size := Nat.lt_of_lt_of_le g9 hb9c.size
  have HRc := fun (o : Obj) => HM9.out.below (below_alloc hb9c o)
  have HRC := Lib.hid HRc
  clear HRc
  go_wp2_with fail
  refine (exRaise_any 5000 false (HRC.out _) (lit_sl wc [5000, 5000] _ rfl (by decide)) (by decide) exRaise_no).mono ?_
  rintro e wd ⟨rfl, hbd⟩
  have hb9d := below_step hb9c (below_step (below_alloc (Below.refl wc.heap.size wc) (.cells #[.int .i64 5000, .int .i64 5000] 3)) hbd)
  have yd := fun j => (hb9d.cell (p := ⟨w1.heap.size, j, none⟩) g9).trans (hy9 j)
  have gd : w1.heap.size < wd.heap.size := Nat.lt_of_lt_of_le g9 hb9d.size
  have HRD := Lib.hid (fun (o : Obj) => HM9.out.below (below_alloc hb9d o))
  clear HRC yc
  go_wp2_with fail
  refine (exRaise_any 4999 true (HRD.out _) (lit_sl wd [4999, 5000] _ rfl (by decide)) (by decide) exRaise_yes).mono ?_
  rintro e we ⟨rfl, hbe⟩
  have HBE := Lib.hid (below_step HB9.out (below_step hb9d (below_step (below_alloc (Below.refl wd.heap.size wd) (.cells #[.int .i64 4999, .int .i64 5000] 3)) hbe)))
  go_wp2_with fail
  go_ret
  exact ⟨rfl, HBE.out⟩

end Go.Proofs.YtlpjniejbblcnaaDoor

namespace Go.Proofs.YtlpjniejbblcnaaDoor
open Go.RowKit
set_option linter.unusedVariables false

structure SiteV where
  S : SiteR
  fv : Value
  pv : Value
structure SiteIn (w : World) (a : SiteV) : Prop where
  hF : IsSl w 5 a.fv (a.S.F.map Feed.cells)
  hP : IsSl w 5 a.pv (a.S.P.map Pnt.cells)
  hn : a.S.name.size ≤ maxLen
  fF : ∀ f ∈ a.S.F, f.fits
  fP : ∀ p ∈ a.S.P, p.fits
theorem feed_row {w : World} {row : List Value} (h : CellK.fitsAll w [.str, .int .i64, .int .i64, .int .i64, .int .i64] row) : ∃ t : Feed, row = t.cells ∧ t.fits := by
  simp only [CellK.fitsAll, CellK.fits] at h
  obtain ⟨_, _, rfl, ⟨a, rfl, ha⟩, _, _, rfl, ⟨b, rfl, _⟩, _, _, rfl, ⟨c, rfl, _⟩, _, _, rfl, ⟨d, rfl, _⟩, _, _, rfl, ⟨e, rfl, _⟩, rfl⟩ := h
  exact ⟨⟨a, b, c, d, e⟩, rfl, ha⟩
theorem pnt_row {w : World} {row : List Value} (h : CellK.fitsAll w [.str, .int .i64, .int .i64, .int .i64, .int .i64] row) : ∃ t : Pnt, row = t.cells ∧ t.fits := by
  simp only [CellK.fitsAll, CellK.fits] at h
  obtain ⟨_, _, rfl, ⟨a, rfl, ha⟩, _, _, rfl, ⟨b, rfl, _⟩, _, _, rfl, ⟨c, rfl, _⟩, _, _, rfl, ⟨d, rfl, _⟩, _, _, rfl, ⟨e, rfl, _⟩, rfl⟩ := h
  exact ⟨⟨a, b, c, d, e⟩, rfl, ha⟩
theorem cap_row {w : World} {row : List Value} (h : CellK.fitsAll w [.int .i64, .int .i64, .int .i64, .int .i64] row) : ∃ t : CapR, row = t.cells ∧ True := by
  simp only [CellK.fitsAll, CellK.fits] at h
  obtain ⟨_, _, rfl, ⟨b, rfl, _⟩, _, _, rfl, ⟨c, rfl, _⟩, _, _, rfl, ⟨d, rfl, _⟩, _, _, rfl, ⟨e, rfl, _⟩, rfl⟩ := h
  exact ⟨⟨b, c, d, e⟩, rfl, trivial⟩
theorem want_row {w : World} {row : List Value} (h : CellK.fitsAll w [.int .i64, .int .i64, .int .i64] row) : ∃ t : WantR, row = t.cells ∧ I64 t.phases := by
  simp only [CellK.fitsAll, CellK.fits] at h
  obtain ⟨_, _, rfl, ⟨b, rfl, _⟩, _, _, rfl, ⟨c, rfl, hc⟩, _, _, rfl, ⟨d, rfl, _⟩, rfl⟩ := h
  exact ⟨⟨b, c, d⟩, rfl, hc⟩
theorem int_row {w : World} {row : List Value} (h : CellK.fitsAll w [.int .i64] row) : ∃ t : Int, row = encZ t ∧ I64 t := by
  simp only [CellK.fitsAll, CellK.fits] at h
  obtain ⟨_, _, rfl, ⟨b, rfl, hb⟩, rfl⟩ := h
  exact ⟨b, rfl, hb⟩

section
variable {H : Type} {enc : TypeId × Value → H} {w : World} {held : Bool} {r : Reach} {b0 : Nat} {v : Value} {d : DataW H} {p : List MemPlace}

set_option maxRecDepth 100000 in
theorem open_site (hval : Value.okWide Tryd.prog w r b0 30 v) (hd : DataW.Trod enc Tryd.prog w 0 (fun _ => true) held 30 v d p) :
    ∃ a : SiteV, v = .agg #[.string a.S.name, a.fv, a.pv] ∧ SiteIn w a := by
  obtain ⟨cs, rfl, h⟩ := open_struct [.str, .sl [.str, .int .i64, .int .i64, .int .i64, .int .i64], .sl [.str, .int .i64, .int .i64, .int .i64, .int .i64]] (by kernel_rfl) Tryd.underlying30 hval hd
  simp only [CellK.fitsAll] at h
  obtain ⟨_, _, hcs, h0, _, _, rfl, h1, _, _, rfl, h2, rfl⟩ := h
  unfold CellK.fits at h0 h1 h2
  obtain ⟨s, rfl, hs⟩ := h0
  obtain ⟨r1, hr1, hf1⟩ := h1
  obtain ⟨r2, hr2, hf2⟩ := h2
  obtain ⟨l1, rfl, hl1⟩ := rows_list (fun _ => feed_row) r1 hf1
  obtain ⟨l2, rfl, hl2⟩ := rows_list (fun _ => pnt_row) r2 hf2
  exact ⟨⟨⟨s, l1, l2⟩, _, _⟩, agg_of hcs, hr1, hr2, hs, hl1, hl2⟩

set_option maxRecDepth 100000 in
theorem open_capsl (hval : Value.okWide Tryd.prog w r b0 42 v) (hd : DataW.Trod enc Tryd.prog w 0 (fun _ => true) held 42 v d p) :
    ∃ l : List CapR, IsSl w 4 v (l.map CapR.cells) ∧ True := by
  obtain ⟨rows, h1, h2⟩ := open_sl [.int .i64, .int .i64, .int .i64, .int .i64] (by kernel_rfl) Tryd.underlying42 hval hd
  obtain ⟨l, rfl, hl⟩ := rows_list (fun _ => cap_row) rows h2
  exact ⟨l, h1, trivial⟩

set_option maxRecDepth 100000 in
theorem open_wantsl (hval : Value.okWide Tryd.prog w r b0 31 v) (hd : DataW.Trod enc Tryd.prog w 0 (fun _ => true) held 31 v d p) :
    ∃ l : List WantR, IsSl w 3 v (l.map WantR.cells) ∧ ∀ x ∈ l, I64 x.phases := by
  obtain ⟨rows, h1, h2⟩ := open_sl [.int .i64, .int .i64, .int .i64] (by kernel_rfl) Tryd.underlying31 hval hd
  obtain ⟨l, rfl, hl⟩ := rows_list (fun _ => want_row) rows h2
  exact ⟨l, h1, hl⟩

set_option maxRecDepth 100000 in
theorem open_want (hval : Value.okWide Tryd.prog w r b0 36 v) (hd : DataW.Trod enc Tryd.prog w 0 (fun _ => true) held 36 v d p) :
    ∃ a : WantR, v = .agg #[.int .i64 a.point, .int .i64 a.phases, .int .i64 a.top] ∧ I64 a.phases := by
  obtain ⟨cs, rfl, h⟩ := open_struct [.int .i64, .int .i64, .int .i64] (by kernel_rfl) Tryd.underlying36 hval hd
  simp only [CellK.fitsAll, CellK.fits] at h
  obtain ⟨_, _, hcs, ⟨a, rfl, _⟩, _, _, rfl, ⟨b, rfl, hb⟩, _, _, rfl, ⟨c, rfl, _⟩, rfl⟩ := h
  exact ⟨⟨a, b, c⟩, agg_of hcs, hb⟩
end

end Go.Proofs.YtlpjniejbblcnaaDoor

namespace Go.Proofs.YtlpjniejbblcnaaDoor
open Go.RowKit Go.WideShapes Go.ChangeShapes Go.ChangeAt

section
variable {H : Type} {enc : TypeId × Value → H} {P : Program}

theorem trodAll_stays (hl : laidOutB P = true) {W W' : World} {sp' : Nat → Bool} : ∀ {ts : List TypeId} {vs : List Value} {ds : List (DataW H)} {ps : List MemPlace},
    (∀ t ∈ ts, P.readableRec t = true ∧ t < P.types.size) → DataW.TrodAll enc P W 0 (fun _ => true) true ts vs ds ps → (∀ p ∈ ps, W.sameAt W' p) → (∀ p ∈ ps, sp' p.block = true) →
    DataW.TrodAll enc P W' 0 sp' true ts vs ds ps
  | [], [], [], _, _, h, _, _ => h
  | [], _ :: _, _, _, _, h, _, _ => by simp [DataW.TrodAll] at h
  | [], [], _ :: _, _, _, h, _, _ => by simp [DataW.TrodAll] at h
  | _ :: _, [], _, _, _, h, _, _ => by simp [DataW.TrodAll] at h
  | _ :: _, _ :: _, [], _, _, h, _, _ => by simp [DataW.TrodAll] at h
  | t :: ts, v :: vs, d :: ds, ps, hr, h, hs, hp => by
    obtain ⟨p, q, h1, h2, rfl⟩ := h
    refine ⟨p, q, WideElems.Trod_stays hl (hr t (by simp)).1 (hr t (by simp)).2 h1 (fun x hx => hs x (by simp [hx])) (fun x hx => hp x (by simp [hx])), ?_, rfl⟩
    exact trodAll_stays hl (fun t' ht => hr t' (by simp [ht])) h2 (fun x hx => hs x (by simp [hx])) (fun x hx => hp x (by simp [hx]))

theorem law_post {f : Func} {s : ChangeSpec} {W W' : World} {args : Array Value} {ds gs : List (DataW H)} {before : List MemPlace} {tb : TypeId}
    (hW : DataW.Whole enc P f.params.toList s.vars false W args.toList ds gs before) (hl : laidOutB P = true) (hr : ∀ t ∈ f.params.toList, P.readableRec t = true ∧ t < P.types.size)
    (hv : s.vars = []) (hs : s.fn H ds = { results := [.lit (.bool true)], args := ds }) (hres : f.resultTypes = #[tb]) (htb : P.underlying tb = some .bool) (hb : Below W.heap.size W W') :
    s.post enc P f false true false false W args (.bool true) W' := by
  have hlt : ∀ p ∈ before, p.block < W.heap.size := fun p hp => hW.lt p hp
  have hold : ∀ p ∈ before, (fun b => decide (b < W.heap.size)) p.block = true := fun p hp => by simpa using hlt p hp
  have hW0 := hW
  obtain ⟨p, q, hA, hV, rfl, hz, hn⟩ := hW
  rw [hv] at hV
  obtain ⟨rfl, rfl⟩ := trodVars_none hV
  have hargs : ∀ sp : Nat → Bool, (∀ x ∈ p, sp x.block = true) → DataW.TrodAll enc P W' 0 sp true f.params.toList args.toList ds p := fun sp hsp =>
    trodAll_stays hl hr hA (fun x hx => hb.same (hlt x (by simpa using hx))) hsp
  have hR : ∀ (b : Nat) (sp : Nat → Bool) (hd : Bool), DataW.TrodAll enc P W' b sp hd f.resultTypes.toList ((Value.bool true).resultList f.resultTypes.size) [.lit (.bool true)] [] := by
    intro b sp hd
    rw [hres]
    exact trodAll_cons_mk (shut_bool htb true) trodAll_mk0
  have hsp : s.fn H (ds ++ []) = { results := [.lit (.bool true)], args := ds } := by rw [List.append_nil]; exact hs
  have hvv : ∀ sp : Nat → Bool, DataW.TrodVars enc P W' sp s.vars ([] : List (DataW H)) [] := fun sp => by rw [hv]; rfl
  refine ⟨ds, [], _, [], p, [], hW0, ?_, ?_, ?_, World.keptBut_mono (fun x hx => ⟨hx, ?_⟩) (hb.frame (· ∈ p ++ [])), fun _ => ?_⟩
  · rw [hsp]; exact hR _ _ _
  · rw [hsp]; exact hargs _ (fun x hx => hold x (by simpa using hx))
  · rw [hsp]; exact hvv _
  · simp at hx ⊢; exact hx
  · refine ⟨?_, [.lit (.bool true)] ++ ds, [], p ++ [], ⟨[] ++ p, [], trodAll_append (hargs _ (fun _ _ => rfl)) (hR 0 (fun _ => true) true), hvv _, rfl, ?_, fun h => by cases h⟩, fun x hx _ => hx⟩
    · intro j t r ht hr'
      rw [hres] at ht hr'
      have hj : j = 0 := by
        have := (Array.getElem?_eq_some_iff.1 ht).1
        simp at this; omega
      subst hj
      simp at ht
      subst ht
      have : r = .bool true := by simpa [Value.resultList] using hr'.symm
      subst this
      exact okWide_bool_mk htb true
    · intro b off hp
      have hin : MemPlace.cell b off ∈ p ++ [] := by simpa using hp
      rw [hb.frozen (p := ⟨b, off, none⟩) (hlt _ hin)]
      exact hz b off hin

end
end Go.Proofs.YtlpjniejbblcnaaDoor
