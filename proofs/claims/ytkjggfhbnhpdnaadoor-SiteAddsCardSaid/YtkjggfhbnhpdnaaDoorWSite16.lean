/-
  Walks: the examples of the chapter on sites.
-/
import Derived.Test.YtkjggfhbnhpdnaaDoorWSite15
namespace Go.Proofs.YtkjggfhbnhpdnaaDoor
open Go.RowKit Go.Lib Go.Maps
set_option linter.unusedVariables false

theorem Feed.cells_len (c : Feed) : c.cells.length = 5 := rfl
theorem Pnt.cells_len (c : Pnt) : c.cells.length = 5 := rfl

def exF : List Feed := [⟨⟨#[70]⟩, -1, 10000, 0, 0⟩]
def exP : List Pnt := [⟨⟨#[80]⟩, 0, 1, 7000, 0⟩, ⟨⟨#[81]⟩, 0, 1, 7000, 0⟩]
def exS : SiteR := ⟨⟨#[83]⟩, exF, exP⟩
def exC : List CapR := [⟨10000, 0, 0, 10000⟩]
def exW : List WantR := [⟨0, 1, 7000⟩, ⟨1, 1, 7000⟩]
def exG : List Feed := [⟨⟨#[97]⟩, -1, 0, 0, 0⟩, ⟨⟨#[98]⟩, 0, 0, 0, 0⟩, ⟨⟨#[99]⟩, 1, 0, 0, 0⟩]

theorem exF_fits : ∀ f ∈ exS.F, f.fits := by
  intro f hf
  simp [exS, exF] at hf
  subst hf
  unfold Feed.fits; decide
theorem exP_fits : ∀ f ∈ exS.P, f.fits := by
  intro f hf
  simp [exS, exP] at hf
  rcases hf with rfl | rfl <;> (unfold Pnt.fits; decide)
theorem exW_fits : ∀ x ∈ exW, I64 x.phases := by
  intro x hx
  simp [exW] at hx
  rcases hx with rfl | rfl <;> rfl
theorem exS_ok : siteE exS = 0 := by decide +kernel
theorem exPath0 : pathL exF 1 0 = [0] := by
  have := pathL_in (F := exF) (last := 1) (k := 0) (by decide) (by decide)
  rw [show ((0 : Nat) : Int) = 0 from rfl] at this
  rw [this, pathL_out (by decide)]
theorem exWant0 : wantPath exF exP ⟨0, 1, 7000⟩ = [0] := by
  rw [wantPath_eq (k := 0) (by decide) rfl]; exact exPath0
theorem exWant1 : wantPath exF exP ⟨1, 1, 7000⟩ = [0] := by
  rw [wantPath_eq (k := 1) (by decide) rfl]; exact exPath0
theorem exLoad (a b : Int) : loadL exF exP (exW.zip [a, b]) = [⟨a + b, 0, 0, a + b⟩] := by
  apply List.ext_getElem?
  intro j
  match j with
  | 0 =>
    rw [loadL_get (by decide)]
    have h0 : ctr exF exP 0 (⟨0, 1, 7000⟩, a) = ⟨a, 0, 0, a⟩ := by
      unfold ctr
      rw [exWant0, if_pos (by simp)]
      apply CapR.ext' <;> simp [addC, zeroC]
    have h1 : ctr exF exP 0 (⟨1, 1, 7000⟩, b) = ⟨b, 0, 0, b⟩ := by
      unfold ctr
      rw [exWant1, if_pos (by simp)]
      apply CapR.ext' <;> simp [addC, zeroC]
    have e : exW.zip [a, b] = [(⟨0, 1, 7000⟩, a), (⟨1, 1, 7000⟩, b)] := rfl
    rw [e]
    simp only [capAt, List.foldl_cons, List.foldl_nil, h0, h1]
    simp [plusC, zeroC]
  | j + 1 =>
    rw [List.getElem?_eq_none (by rw [loadL_len]; show 1 ≤ j + 1; omega)]
    rfl
theorem exE (a b : Int) (ha : powB a = true) (hb : powB b = true) : loadE exS exW [a, b] = 0 := by
  refine loadE_ok exS_ok rfl ?_
  have e : exW.zip [a, b] = [(⟨0, 1, 7000⟩, a), (⟨1, 1, 7000⟩, b)] := rfl
  have m : maskB 1 1 = true := by decide +kernel
  rw [e]
  simp [wantB, exS, exP, ha, hb, m]
theorem exFits : fitsB exS exC exW [5000, 5000] = true := by
  have hE := exE 5000 5000 (by decide) (by decide)
  refine fits_y hE rfl ?_ (by decide +kernel)
  rw [loadsOf_ok hE]
  show (overL exC (loadL exF exP (exW.zip [5000, 5000]))).length = 0
  rw [exLoad]
  decide +kernel
theorem exNot : fitsB exS exC exW [5000, 5001] = false := by
  have hE := exE 5000 5001 (by decide) (by decide)
  refine fits_o ?_
  rw [loadsOf_ok hE]
  show (overL exC (loadL exF exP (exW.zip [5000, 5001]))).length ≠ 0
  rw [exLoad]
  decide +kernel
theorem exPath : pathL exG exG.length 2 = [2, 1, 0] := by
  have h2 := pathL_in (F := exG) (last := 3) (k := 2) (by decide) (by decide)
  have h1 := pathL_in (F := exG) (last := 2) (k := 1) (by decide) (by decide)
  have h0 := pathL_in (F := exG) (last := 1) (k := 0) (by decide) (by decide)
  have h2' : pathL exG 3 2 = 2 :: pathL exG 2 1 := h2
  have h1' : pathL exG 2 1 = 1 :: pathL exG 1 0 := h1
  have h0' : pathL exG 1 0 = 0 :: pathL exG 0 (-1) := h0
  show pathL exG 3 2 = _
  rw [h2', h1', h0', pathL_out (by decide)]
theorem exPath3 : pathL exG exG.length 3 = [] := pathL_out (by decide)

set_option maxRecDepth 100000 in
set_option maxHeartbeats 6400000 in
theorem siteExample_any (b : Int) (r : Bool) (h : fitsB exS exC exW [5000, b] = r) (w : World) : Calls Tryd.prog 23 #[.int .i64 5000, .int .i64 b] w fun e w' => e = .returned (.bool r) ∧ Below w.heap.size w w' := by
  obtain ⟨W3, hW3, hb3, hF3, hP3, hg3, hx3⟩ : ∃ W3, W3 = ((w.alloc (.cells #[.string ⟨#[70]⟩, .int .i64 (-1), .int .i64 10000, .int .i64 0, .int .i64 0] 49)).alloc (.cells #[.string ⟨#[80]⟩, .int .i64 0, .int .i64 1, .int .i64 7000, .int .i64 0, .string ⟨#[81]⟩, .int .i64 0, .int .i64 1, .int .i64 7000, .int .i64 0] 58)).alloc (.cells #[.string ⟨#[83]⟩, .slice (some ⟨w.heap.size, 0, none⟩) 1 1, .slice (some ⟨w.heap.size + 1, 0, none⟩) 2 2] 25) ∧
      Below w.heap.size w W3 ∧ IsSl W3 5 (.slice (some ⟨w.heap.size, 0, none⟩) 1 1) (exS.F.map Feed.cells) ∧ IsSl W3 5 (.slice (some ⟨w.heap.size + 1, 0, none⟩) 2 2) (exS.P.map Pnt.cells) ∧ w.heap.size + 1 + 1 < W3.heap.size ∧
      (∀ j, W3.cell? ⟨w.heap.size + 1 + 1, j, none⟩ = (#[.string ⟨#[83]⟩, .slice (some ⟨w.heap.size, 0, none⟩) 1 1, .slice (some ⟨w.heap.size + 1, 0, none⟩) 2 2] : Array Value)[j]?) :=
    ⟨_, rfl, below_alloc (below_alloc (below_alloc (Below.refl _ _) _) _) _, Blk.isSl (T := 49) Feed.cells_len (((Blk.new' rfl _ _ rfl).alloc _).alloc _) rfl (by decide), Blk.isSl (T := 58) Pnt.cells_len ((Blk.new' (by simp) _ _ rfl).alloc _) rfl (by decide), by simp, fun j => Blk.arr (T := 25) (cur := [.string ⟨#[83]⟩, .slice (some ⟨w.heap.size, 0, none⟩) 1 1, .slice (some ⟨w.heap.size + 1, 0, none⟩) 2 2]) (by refine Blk.new' ?_ _ _ rfl; simp) j⟩
  have HF3 := Lib.hid hF3
  have HP3 := Lib.hid hP3
  have HR := Lib.hid h
  clear hF3 hP3 h
  go_enter Tryd.func23, Tryd.ntmps23
  go_wp2_with fail
  rw [← hW3]
  clear hW3
  refine (siteValid_any exS _ _ _ HF3.out HP3.out (by decide) exF_fits exP_fits).mono ?_
  rintro e w1 ⟨rfl, hb1⟩
  rw [exS_ok]
  obtain ⟨hc, hf⟩ := bcell hb1
  have hg1 : w.heap.size + 1 + 1 < w1.heap.size := Nat.lt_of_lt_of_le hg3 hb1.size
  go_wp2_with fail
  obtain ⟨W4, hW4⟩ : ∃ W4, W4 = ((w1.alloc (.cells #[.int .i64 10000, .int .i64 0, .int .i64 0, .int .i64 10000] 47)).alloc (.cells #[.int .i64 0, .int .i64 1, .int .i64 7000, .int .i64 1, .int .i64 1, .int .i64 7000] 61)).alloc (.cells #[.int .i64 5000, .int .i64 b] 3) := ⟨_, rfl⟩
  have hb4 : Below w1.heap.size w1 W4 := by rw [hW4]; exact below_alloc (below_alloc (below_alloc (Below.refl _ _) _) _) _
  have hC4 : IsSl W4 4 (.slice (some ⟨w1.heap.size, 0, none⟩) 1 1) (exC.map CapR.cells) := by rw [hW4]; exact Blk.isSl (T := 47) CapR.cells_len (((Blk.new' rfl _ _ rfl).alloc _).alloc _) rfl (by decide)
  have hD4 : IsSl W4 3 (.slice (some ⟨w1.heap.size + 1, 0, none⟩) 2 2) (exW.map WantR.cells) := by rw [hW4]; exact Blk.isSl (T := 61) WantR.cells_len ((Blk.new' (by simp) _ _ rfl).alloc _) rfl (by decide)
  have hZ4 : IsSl W4 1 (.slice (some ⟨w1.heap.size + 1 + 1, 0, none⟩) 2 2) (([5000, b] : List Int).map encZ) := by rw [hW4]; exact Blk.isSl (T := 3) encZ_len (Blk.new' (by simp) _ _ rfl) rfl (by decide)
  rw [← hW4]
  clear hW4 hc hf
  refine (fits_any exS exC exW [5000, b] _ _ _ _ _ _ ((HF3.out.below hb1).below hb4) ((HP3.out.below hb1).below hb4) hC4 hD4 hZ4 (by decide) exF_fits exP_fits exW_fits (by decide) (by decide) (by simp)).mono ?_
  rintro e w5 ⟨rfl, hb5⟩
  rw [HR.out]
  go_wp2_with fail
  go_ret
  exact ⟨rfl, below_step hb3 (below_step hb1 (below_step hb4 hb5))⟩

set_option maxRecDepth 100000 in
set_option maxHeartbeats 6400000 in
theorem siteHolds_any (w : World) : Calls Tryd.prog 11 #[] w fun e w' => e = .returned (.bool true) ∧ Below w.heap.size w w' := by
  obtain ⟨W3, hW3, hb3, hF3, hg3, hx3⟩ : ∃ W3, W3 = (w.alloc (.cells #[.string ⟨#[97]⟩, .int .i64 (-1), .int .i64 0, .int .i64 0, .int .i64 0, .string ⟨#[98]⟩, .int .i64 0, .int .i64 0, .int .i64 0, .int .i64 0, .string ⟨#[99]⟩, .int .i64 1, .int .i64 0, .int .i64 0, .int .i64 0] 49)).alloc (.cells #[.string ⟨#[83]⟩, .slice (some ⟨w.heap.size, 0, none⟩) 3 3, .slice none 0 0] 25) ∧
      Below w.heap.size w W3 ∧ IsSl W3 5 (.slice (some ⟨w.heap.size, 0, none⟩) 3 3) (exG.map Feed.cells) ∧ w.heap.size + 1 < W3.heap.size ∧
      (∀ j, W3.cell? ⟨w.heap.size + 1, j, none⟩ = (#[.string ⟨#[83]⟩, .slice (some ⟨w.heap.size, 0, none⟩) 3 3, .slice none 0 0] : Array Value)[j]?) :=
    ⟨_, rfl, below_alloc (below_alloc (Below.refl _ _) _) _, Blk.isSl (T := 49) Feed.cells_len ((Blk.new' rfl _ _ rfl).alloc _) rfl (by decide), by simp, fun j => Blk.arr (T := 25) (cur := [.string ⟨#[83]⟩, .slice (some ⟨w.heap.size, 0, none⟩) 3 3, .slice none 0 0]) (by refine Blk.new' ?_ _ _ rfl; simp) j⟩
  have HF3 := Lib.hid hF3
  clear hF3
  go_enter Tryd.func11, Tryd.ntmps11
  go_wp2_with fail
  rw [← hW3]
  clear hW3
  refine (path_any ⟨#[83]⟩ exG _ none 0 0 2 _ HF3.out (by decide)).mono ?_
  rintro e w1 ⟨v1, rfl, hv1, hb1⟩
  rw [exPath] at hv1
  obtain ⟨A1, c1, rfl, _, _, hs1⟩ := hv1
  obtain ⟨b1, o1, rfl, hlt1, k0⟩ := hs1 0 _ rfl
  obtain ⟨_, _, e1, _, k1⟩ := hs1 1 _ rfl
  obtain ⟨_, _, e2, _, k2⟩ := hs1 2 _ rfl
  cases e1
  cases e2
  have x0 : w1.cell? ⟨b1, o1, none⟩ = some (.int .i64 2) := k0 0 _ rfl
  have x1 : w1.cell? ⟨b1, o1 + 1, none⟩ = some (.int .i64 1) := k1 0 _ rfl
  have x2 : w1.cell? ⟨b1, o1 + 2, none⟩ = some (.int .i64 0) := k2 0 _ rfl
  clear k0 k1 k2 hs1
  have HF1 := Lib.hid (HF3.out.below hb1)
  have hg1 : w.heap.size + 1 < w1.heap.size := Nat.lt_of_lt_of_le hg3 hb1.size
  have hx1 : ∀ j, w1.cell? ⟨w.heap.size + 1, j, none⟩ = (#[.string ⟨#[83]⟩, .slice (some ⟨w.heap.size, 0, none⟩) 3 3, .slice none 0 0] : Array Value)[j]? := fun j => (hb1.cell (p := ⟨w.heap.size + 1, j, none⟩) hg3).trans (hx3 j)
  have hb01 := below_step hb3 hb1
  clear hx3 hb1 hb3 HF3
  go_wp2_with fail
  refine (siteExample_any 5000 true exFits _).mono ?_
  rintro e w2 ⟨rfl, hb2⟩
  go_wp2_with fail
  refine (siteExample_any 5001 false exNot _).mono ?_
  rintro e w3 ⟨rfl, hb3⟩
  have hb13 := below_step hb2 hb3
  obtain ⟨hc, hf⟩ := bcell hb13
  go_wp2_with fail
  refine (path_any ⟨#[83]⟩ exG _ none 0 0 3 _ (HF1.out.below hb13) (by decide)).mono ?_
  rintro e w4 ⟨v4, rfl, hv4, hb4⟩
  rw [exPath3] at hv4
  obtain ⟨A4, c4, rfl, _, _, _⟩ := hv4
  go_wp2_with fail
  go_ret
  exact ⟨ret_bool rfl, below_step hb01 (below_step hb13 hb4)⟩

end Go.Proofs.YtkjggfhbnhpdnaaDoor
