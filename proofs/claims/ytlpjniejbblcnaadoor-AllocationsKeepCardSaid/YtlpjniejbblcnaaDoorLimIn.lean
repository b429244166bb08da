/-
  Rules as values in memory. No program is named here.
-/
import Derived.Test.YtlpjniejbblcnaaDoorPLmt4
import Derived.Test.YtlpjniejbblcnaaDoorM2
namespace Go.Proofs.YtlpjniejbblcnaaDoor
open Go.RowKit
set_option linter.unusedVariables false

/-- the rules r lie in memory as a name, four slices and a zone -/
structure LimIn (w : World) (r : RulR) (fv pv cv uv : Value) : Prop where
  hF : IsSl w 5 fv (r.S.F.map Feed.cells)
  hP : IsSl w 5 pv (r.S.P.map Pnt.cells)
  hC : IsSl w 8 cv (r.C.map ConR.cells)
  hU : IsSl w 7 uv (r.U.map CurR.cells)
  hn : r.S.name.size ≤ maxLen
  fF : ∀ f ∈ r.S.F, f.fits
  fP : ∀ p ∈ r.S.P, p.fits
  fC : ∀ c ∈ r.C, c.fits
  fU : ∀ c ∈ r.U, c.fits
theorem LimIn.below {w w' : World} {r : RulR} {fv pv cv uv : Value} (h : LimIn w r fv pv cv uv) (hb : Below w.heap.size w w') : LimIn w' r fv pv cv uv :=
  ⟨h.hF.below hb, h.hP.below hb, h.hC.below hb, h.hU.below hb, h.hn, h.fF, h.fP, h.fC, h.fU⟩
/-- .. at four addresses -/
structure LimAd (w : World) (r : RulR) (A B C D : Option Addr) (a b c d : Nat) : Prop where
  sF : SlAt w 5 A (r.S.F.map Feed.cells)
  sP : SlAt w 5 B (r.S.P.map Pnt.cells)
  sC : SlAt w 8 C (r.C.map ConR.cells)
  sU : SlAt w 7 D (r.U.map CurR.cells)
  lF : r.S.F.length ≤ a ∧ a ≤ maxLen
  lP : r.S.P.length ≤ b ∧ b ≤ maxLen
  lC : r.C.length ≤ c ∧ c ≤ maxLen
  lU : r.U.length ≤ d ∧ d ≤ maxLen
theorem LimAd.below {w w' : World} {r : RulR} {A B C D : Option Addr} {a b c d : Nat} (h : LimAd w r A B C D a b c d) (hb : Below w.heap.size w w') : LimAd w' r A B C D a b c d :=
  ⟨h.sF.below hb, h.sP.below hb, h.sC.below hb, h.sU.below hb, h.lF, h.lP, h.lC, h.lU⟩
theorem LimIn.ad {w : World} {r : RulR} {fv pv cv uv : Value} (h : LimIn w r fv pv cv uv) :
    ∃ A B C D a b c d, fv = .slice A r.S.F.length a ∧ pv = .slice B r.S.P.length b ∧ cv = .slice C r.C.length c ∧ uv = .slice D r.U.length d ∧ LimAd w r A B C D a b c d := by
  obtain ⟨A, a, e1, a1, a2, a3⟩ := islen' h.hF
  obtain ⟨B, b, e2, b1, b2, b3⟩ := islen' h.hP
  obtain ⟨C, c, e3, c1, c2, c3⟩ := islen' h.hC
  obtain ⟨D, d, e4, d1, d2, d3⟩ := islen' h.hU
  exact ⟨A, B, C, D, a, b, c, d, e1, e2, e3, e4, a3, b3, c3, d3, ⟨a1, a2⟩, ⟨b1, b2⟩, ⟨c1, c2⟩, ⟨d1, d2⟩⟩
/-- the ratings are powers -/
def Rated (F : List Feed) : Prop := ∀ f ∈ F, 0 ≤ f.a ∧ f.a ≤ 1048576 ∧ 0 ≤ f.b ∧ f.b ≤ 1048576 ∧ 0 ≤ f.c ∧ f.c ≤ 1048576
theorem site_feed_zero {S : SiteR} (h : siteE S = 0) {k : Nat} (hk : k < S.F.length) : feedAt S.F k = 0 := by
  unfold siteE at h
  split at h
  · cases h
  · split at h
    · cases h
    · split at h
      · rename_i g; exact absurd h g
      · rename_i g
        exact firstE_zero.1 (Classical.not_not.1 g) k hk
theorem site_lens {S : SiteR} (h : siteE S = 0) : S.F.length ≤ 32 ∧ S.P.length ≤ 32 := by
  unfold siteE at h
  split at h
  · cases h
  · split at h
    · cases h
    · omega
theorem rated_of {S : SiteR} (h : siteE S = 0) : Rated S.F := fun f hf => by
  obtain ⟨k, hk, rfl⟩ := List.mem_iff_getElem.1 hf
  have h1 := site_feed_zero h hk
  rw [feedAt_eq hk] at h1
  unfold feedE at h1
  split at h1
  · rename_i g; exact absurd h1 g
  · split at h1
    · cases h1
    · split at h1
      · cases h1
      · rename_i g
        have : (powB S.F[k].a && (powB S.F[k].b && powB S.F[k].c)) = true := by simpa using g
        simp [powB] at this
        omega

/-- valid rules, in memory -/
structure LimOk (r : RulR) : Prop where
  ok : RulOk r
  rated : Rated r.S.F
  lens : r.S.F.length ≤ 32 ∧ r.S.P.length ≤ 32
theorem LimOk.of {r : RulR} (h : limE r = 0) : LimOk r := ⟨limE_zero.1 h, rated_of (limE_zero.1 h).site, site_lens (limE_zero.1 h).site⟩

end Go.Proofs.YtlpjniejbblcnaaDoor
