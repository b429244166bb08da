/-
  Walks: the laws AllocateRun, AllocateOne.
-/
import Derived.Test.YtlpjniejbblcnaaDoorM14
namespace Go.Proofs.YtlpjniejbblcnaaDoor
open Go.RowKit Go.Lib Go.Maps
attribute [local go_sem] after_cell
set_option linter.unusedVariables false

/-- how a law ends -/
def LawEnd (w : World) (e : Ending) (w' : World) : Prop := e = .returned (.bool true) ∧ Below w.heap.size w w'

set_option maxRecDepth 100000 in
set_option maxHeartbeats 12800000 in
theorem lawRun17 (a : SiteV) (C : List CapR) (W : List WantR) (cv wv : Value) (w : World) (hI : SiteIn w a) (hC : IsSl w 4 cv (C.map CapR.cells)) (hW : IsSl w 3 wv (W.map WantR.cells)) :
    Calls Tryd.prog 4 #[.agg #[.string a.S.name, a.fv, a.pv], cv, wv] w (LawEnd w) := by
  obtain ⟨S, fv, pv⟩ := a
  obtain ⟨hF, hP, hn, fF, fP⟩ := hI
  simp only at hF hP hn fF fP ⊢
  obtain ⟨A, c, rfl, hlc, hcm, hsl⟩ := islen' hF
  obtain ⟨B, d, rfl, hld, hdm, hsp⟩ := islen' hP
  obtain ⟨C', c', rfl, hlc', hcm', hsc⟩ := islen' hC
  obtain ⟨D, d', rfl, hld', hdm', hsw⟩ := islen' hW
  obtain ⟨W0, hW0, hb0, hg0, hx0⟩ := box1 w #[.string S.name, .slice A S.F.length c, .slice B S.P.length d] 30
  have HF := Lib.hid (hF.below hb0)
  have HP := Lib.hid (hP.below hb0)
  have HC := Lib.hid (hC.below hb0)
  have HW := Lib.hid (hW.below hb0)
  have HN := Lib.hid (And.intro hn (And.intro fF fP))
  clear hF hP hC hW hsl hsp hsc hsw hlc hld hlc' hld' hcm hdm hcm' hdm' hn fF fP
  have HBG := Lib.hid (big_any S C W _ _ _ _ W0 HF.out HP.out HC.out HW.out)
  go_enter Tryd.func4, Tryd.ntmps4
  go_wp2_with fail
  rw [← hW0]
  clear hW0
  refine HBG.out.mono ?_
  rintro e w1 ⟨hb1, b, rfl, hbig⟩
  cases b with
  | true =>
    go_wp2_with fail
    refine (ex17Holds_any _).mono ?_
    rintro e w2 ⟨rfl, hb2⟩
    go_wp2_with fail
    go_ret
    exact ⟨rfl, below_step hb0 (below_step hb1 hb2)⟩
  | false =>
    have HSZ := Lib.hid (hbig rfl)
    clear hbig HBG
    have hx1 := fun j => (hb1.cell (p := ⟨w.heap.size, j, none⟩) hg0).trans (hx0 j)
    have hg1 : w.heap.size < w1.heap.size := Nat.lt_of_lt_of_le hg0 hb1.size
    go_wp2_with fail
    refine (arun_any S C W _ _ _ _ w1 (HF.out.below hb1) (HP.out.below hb1) (HC.out.below hb1) (HW.out.below hb1) HN.out.1 HN.out.2.1 HN.out.2.2 (by have := HSZ.out; omega) (by have := HSZ.out; omega)).mono ?_
    rintro e w2 ⟨hb2, hp2⟩
    have hb02 := below_step hb1 hb2
    have hx2 := fun j => (hb2.cell (p := ⟨w.heap.size, j, none⟩) hg1).trans (hx1 j)
    have hg2 : w.heap.size < w2.heap.size := Nat.lt_of_lt_of_le hg1 hb2.size
    have HR := Lib.hid (rrun_any S C W _ _ _ _ w2 (HF.out.below hb02) (HP.out.below hb02) (HC.out.below hb02) (HW.out.below hb02) HN.out.1 HN.out.2.1 HN.out.2.2 (by have := HSZ.out; omega) (by have := HSZ.out; omega))
    rcases hp2 with ⟨hne, rfl⟩ | ⟨h0, v2, x2, rfl, hx2', hs2, hf2⟩
    · go_wp2_with fail
      refine HR.out.mono ?_
      rintro e w3 ⟨hb3, hp3⟩
      rcases hp3 with ⟨_, rfl⟩ | ⟨h, _⟩
      rotate_left 1
      · exact absurd h hne
      go_wp2_with fail
      refine (equal_same [] _ _ _ (IsSl.nil _ _) (IsSl.nil _ _)).mono ?_
      rintro e w4 ⟨rfl, hb4⟩
      go_wp2_with fail
      refine (ex17Holds_any _).mono ?_
      rintro e w5 ⟨rfl, hb5⟩
      go_wp2_with fail
      go_ret
      exact ⟨rfl, below_step hb0 (below_step (below_step (below_step hb02 hb3) hb4) hb5)⟩
    · go_wp2_with fail
      refine HR.out.mono ?_
      rintro e w3 ⟨hb3, hp3⟩
      rcases hp3 with ⟨h, _⟩ | ⟨_, v3, x3, rfl, hx3, hs3, hf3⟩
      · exact absurd h0 h
      have hxx : x2 = x3 := runs_unique hx2' hx3
      subst hxx
      have HS2 := Lib.hid (hs2.below hb3)
      have HS3 := Lib.hid hs3
      clear hs2 hs3 hx3 hx2'
      go_wp2_with fail
      refine (equal_same (listV W.length x2) _ _ _ HS2.out HS3.out).mono ?_
      rintro e w4 ⟨rfl, hb4⟩
      go_wp2_with fail
      refine (ex17Holds_any _).mono ?_
      rintro e w5 ⟨rfl, hb5⟩
      go_wp2_with fail
      go_ret
      exact ⟨rfl, below_step hb0 (below_step (below_step (below_step hb02 hb3) hb4) hb5)⟩

end Go.Proofs.YtlpjniejbblcnaaDoor
