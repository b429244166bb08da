/-
  Walks: the law AllocateOne.
-/
import Derived.Test.YtlpjniejbblcnaaDoorM14
namespace Go.Proofs.YtlpjniejbblcnaaDoor
open Go.RowKit Go.Lib Go.Maps
attribute [local go_sem] after_cell
set_option linter.unusedVariables false

def LawEndE (w : World) (e : Ending) (w' : World) : Prop := e = .returned (.bool true) ∧ Below w.heap.size w w'

set_option maxRecDepth 100000 in
set_option maxHeartbeats 12800000 in
theorem lawOne17 (a : SiteV) (C : List CapR) (y : WantR) (more : Int) (cv : Value) (w : World) (hI : SiteIn w a) (hC : IsSl w 4 cv (C.map CapR.cells)) (fy : I64 y.phases) :
    Calls Tryd.prog 7 #[.agg #[.string a.S.name, a.fv, a.pv], cv, .agg #[.int .i64 y.point, .int .i64 y.phases, .int .i64 y.top], .int .i64 more] w (LawEndE w) := by
  obtain ⟨S, fv, pv⟩ := a
  obtain ⟨hF, hP, hn, fF, fP⟩ := hI
  simp only at hF hP hn fF fP ⊢
  obtain ⟨A, c, rfl, hlc, hcm, hsl⟩ := islen' hF
  obtain ⟨B, d, rfl, hld, hdm, hsp⟩ := islen' hP
  obtain ⟨C', c', rfl, hlc', hcm', hsc⟩ := islen' hC
  obtain ⟨W0, hW0, hb0, hg1, hg0, hx0, hy0⟩ := box2 w #[.string S.name, .slice A S.F.length c, .slice B S.P.length d] 30 #[.int .i64 y.point, .int .i64 y.phases, .int .i64 y.top] 36
  obtain ⟨W1, hW1, hbx, hgx, hwx⟩ := box1 W0 #[.int .i64 y.point, .int .i64 y.phases, .int .i64 y.top] 36
  have hb1 := below_step hb0 hbx
  have HF := Lib.hid (hF.below hb1)
  have HP := Lib.hid (hP.below hb1)
  have HC := Lib.hid (hC.below hb1)
  have HSP := Lib.hid (hsp.below hb1)
  have HW : Hid (IsSl W1 3 (.slice (some ⟨W0.heap.size, 0, none⟩) 1 1) ([y].map WantR.cells)) := by
    have h : Blk W1 W0.heap.size 36 ([y].flatMap WantR.cells) := by rw [hW1]; exact Blk.new' rfl _ _ rfl
    exact h.isSl WantR.cells_len' rfl (by decide)
  have HN := Lib.hid (And.intro hn (And.intro fF fP))
  have fW : ∀ x ∈ [y], I64 x.phases := fun x hx => by simp at hx; subst hx; exact fy
  have x1 := fun j => (hbx.cell (p := ⟨w.heap.size, j, none⟩) hg0).trans (hx0 j)
  have y1 := fun j => (hbx.cell (p := ⟨w.heap.size + 1, j, none⟩) hg1).trans (hy0 j)
  have hz1 := hbx.size
  have g1 : w.heap.size < W1.heap.size := by omega
  have g2 : w.heap.size + 1 < W1.heap.size := by omega
  have hs0 : W0.heap.size = w.heap.size + 1 + 1 := by rw [hW0]; simp
  clear hF hP hC hsl hsp hsc hlc hld hlc' hcm hdm hcm' hn fF fP hwx hgx
  have HBG := Lib.hid (big_any S C [y] _ _ _ _ W1 HF.out HP.out HC.out HW.out)
  go_enter Tryd.func7, Tryd.ntmps7
  go_wp2_with fail
  rw [← hW0, ← hW1, ← hs0]
  have HS0 := Lib.hid hs0
  clear hW0 hW1 hs0 hx0 hy0 hb0 hg0 hg1 hbx
  refine HBG.out.mono ?_
  rintro e w2 ⟨hb2, b, rfl, hbig⟩
  have hb02 := below_step hb1 hb2
  cases b with
  | true =>
    go_wp2_with fail
    refine (ex17Holds_any _).mono ?_
    rintro e w3 ⟨rfl, hb3⟩
    go_wp2_with fail
    go_ret
    exact ⟨rfl, below_step hb02 hb3⟩
  | false =>
    have HSZ := Lib.hid (hbig rfl)
    clear hbig HBG
    have x2' := fun j => (hb2.cell (p := ⟨w.heap.size, j, none⟩) g1).trans (x1 j)
    have y2' := fun j => (hb2.cell (p := ⟨w.heap.size + 1, j, none⟩) g2).trans (y1 j)
    have hz2 := hb2.size
    have l1 : w.heap.size < w2.heap.size := by omega
    have l2 : w.heap.size + 1 < w2.heap.size := by omega
    go_wp2_with fail
    refine (arun_any S C [y] _ _ _ _ w2 (HF.out.below hb2) (HP.out.below hb2) (HC.out.below hb2) (HW.out.below hb2) HN.out.1 HN.out.2.1 HN.out.2.2 (by have := HSZ.out; omega) (by simp)).mono ?_
    rintro e w3 ⟨hb3, hp3⟩
    have hb03 := below_step hb02 hb3
    have hb13 := below_step hb2 hb3
    rcases hp3 with ⟨hne, rfl⟩ | ⟨h0, v2, x2, rfl, hx2, hs2, hf2⟩
    · go_wp2_with fail
      refine (ex17Holds_any _).mono ?_
      rintro e w4 ⟨rfl, hb4⟩
      go_wp2_with fail
      go_ret
      exact ⟨rfl, below_step hb03 hb4⟩
    · have HA := Lib.hid (allocE_ok h0)
      have HON := Lib.hid (fun h1 h2 => alloc_one HA.out hx2 (more := more) h1 h2)
      have HRG := Lib.hid ((alloc_kept HA.out hx2).rng 0 (by simp))
      have HGB := Lib.hid (great_bd HA.out (W := [y]) (i := 0) (by simp))
      have HWT := Lib.hid (HA.out.want (W := [y]) (k := 0) (by simp)).1
      have hs2' : IsSl w3 1 v2 ([x2 0].map encZ) := hs2
      obtain ⟨G, g, hv2, _, _, hsx⟩ := islen' hs2'
      have hv3 : v2 = .slice G 1 g := hv2
      subst hv3
      obtain ⟨bx, offx, hG, hbx, x0⟩ := int_at hsx (k := 0) (by simp)
      subst hG
      have X0 : w3.cell? ⟨bx, offx, none⟩ = some (.int .i64 (x2 0)) := x0
      have x3 := fun j => (hb3.cell (p := ⟨w.heap.size, j, none⟩) l1).trans (x2' j)
      have y3 := fun j => (hb3.cell (p := ⟨w.heap.size + 1, j, none⟩) l2).trans (y2' j)
      have hz3 := hb3.size
      have m1 : w.heap.size < w3.heap.size := by omega
      have m2 : w.heap.size + 1 < w3.heap.size := by omega
      clear hs2 hs2' hsx x0 hv2 hf2 hx2 x1 y1 x2' y2' h0
      have hq : more < 1 ∨ (¬ more < 1 ∧ 1048576 < more) ∨ (¬ more < 1 ∧ ¬ 1048576 < more) := by omega
      rcases hq with h1 | ⟨h1, h2⟩ | ⟨h1, h2⟩
      · go_wp2_with fail
        go_ret
        exact ⟨rfl, hb03⟩
      · go_wp2_with fail
        go_ret
        exact ⟨rfl, hb03⟩
      · have hp0 := HWT.out.p0
        simp only [List.getElem_cons_zero] at hp0
        obtain ⟨j, hj⟩ : ∃ j : Nat, y.point = j := ⟨y.point.toNat, by omega⟩
        have hjl : j < S.P.length := by have := HWT.out.p1; simp only [List.getElem_cons_zero] at this; rw [hj] at this; simpa using this
        have hjli : (j : Int) < (S.P.length : Int) := by omega
        obtain ⟨bp, offp, hB, hbp, e0, e1, e2, e3, e4⟩ := pnt_at (HSP.out.below hb13) hjl
        subst hB
        have hrg := HRG.out
        have hgb := HGB.out
        simp only [List.getElem_cons_zero] at hrg hgb
        have hle : (pntOf S.P y).least = S.P[j].least := by
          have hp1 := HWT.out.p1
          simp only [List.getElem_cons_zero] at hp1
          rw [pntOf_eq hp1]; simp only [hj, Int.toNat_natCast]
        have HON2 : Hid (∀ f, fitsB S C [y] [x2 0 + more] = f → f = true → x2 0 = 0 ∧ more < S.P[j].least) := fun f e h => by
          have := HON.out (by omega) (e.trans h)
          rw [hle] at this; exact this
        have q1 : IntKind.i64.wrap (x2 0 + more) = x2 0 + more := IntWalk.i64_in _ (by omega)
        have HFT := Lib.hid (fun (w' : World) (h : Below w3.heap.size w3 w') (zv : Value) (hz : IsSl w' 1 zv ([x2 0 + more].map encZ)) => fits_any S C [y] [x2 0 + more] _ _ _ _ zv w' ((HF.out.below hb13).below h) ((HP.out.below hb13).below h) ((HC.out.below hb13).below h) ((HW.out.below hb13).below h) hz HN.out.1 HN.out.2.1 HN.out.2.2 fW (by have := HSZ.out; omega) (by simp) (by simp))
        rw [hj] at y3
        generalize hfv : fitsB S C [y] [x2 0 + more] = fv at *
        have HON3 := Lib.hid (HON2.out fv rfl)
        have hx0 : 0 ≤ x2 0 := hrg.1
        clear HON HON2 HRG HGB hrg hgb hle hfv
        generalize x2 0 = v at *
        obtain ⟨W4, hW4, hb4, hg4, hx4⟩ := box1 w3 #[.string S.P[j].name, .int .i64 S.P[j].feeder, .int .i64 S.P[j].phases, .int .i64 S.P[j].rated, .int .i64 S.P[j].least] 34
        have p4 : W4.cell? ⟨w3.heap.size, 4, none⟩ = some (.int .i64 S.P[j].least) := (hx4 4).trans rfl
        have X4 := (hb4.cell (p := ⟨bx, offx, none⟩) hbx).trans X0
        have Y4 := fun j => (hb4.cell (p := ⟨w.heap.size, j, none⟩) m1).trans (x3 j)
        have hz4 := hb4.size
        have n1 : w.heap.size < W4.heap.size := by omega
        have n2 : bx < W4.heap.size := by omega
        have hbr := Below.refl W4.heap.size W4
        have hbrd : Below W4.heap.size W4 W4.drew := Below.drew (Below.refl W4.heap.size W4)
        have HFT4 := Lib.hid (fun zv (w' : World) (h : (∀ b o, b < W4.heap.size → w'.cell? ⟨b, o, none⟩ = W4.cell? ⟨b, o, none⟩) ∧ Below W4.heap.size W4 w') (hz : IsSl w' 1 zv ([v + more].map encZ)) => HFT.out w' (below_step hb4 h.2) zv hz)
        have HLS := Lib.hid (fun w' => lit_sl w' [v + more] #[.int .i64 (v + more)] rfl (by simp))
        clear HFT
        go_wp2_with fail
        rw [← hW4]
        clear hW4
        go_cut [13] (fun u wx => u = .bool fv ∧ Below W4.heap.size W4 wx)
        case first =>
          go_region_law ((first
            | (go_simp; go_at_call 15; refine (HFT4.out _ _ ⟨(bcell (below_alloc (Below.refl _ _).drew (.cells #[.int .i64 (v + more)] 3))).1, below_alloc (Below.refl _ _).drew _⟩ (HLS.out _)).mono ?_; rintro e w8 ⟨rfl, hb8⟩; have hb68 := below_step (below_alloc (Below.refl W4.heap.size W4).drew (.cells #[.int .i64 (v + more)] 3)) hb8)))
          all_goals
            go_wp2_with fail
            go_meet
            exact ⟨rfl, hb68⟩
        case rest =>
          obtain ⟨rfl, hbx'⟩ := hcut
          have X5 := (hbx'.cell (p := ⟨bx, offx, none⟩) n2).trans X4
          have P5 := (hbx'.cell (p := ⟨w3.heap.size, 4, none⟩) hg4).trans p4
          have HBF := Lib.hid (below_step hb03 (below_step hb4 hbx'))
          clear X4 p4 Y4 hbr HFT4 HLS hbx'
          generalize S.P[j].least = le at *
          by_cases hv : 0 < v
          · cases fv with
            | true => exact absurd (HON3.out rfl).1 (by omega)
            | false =>
              go_wp2_with fail
              go_ret
              exact ⟨rfl, HBF.out⟩
          · cases fv with
            | true =>
              have hml := (HON3.out rfl).2
              go_wp2_with fail
              go_ret
              exact ⟨rfl, HBF.out⟩
            | false =>
              go_wp2_with fail
              go_ret
              exact ⟨rfl, HBF.out⟩

end Go.Proofs.YtlpjniejbblcnaaDoor
