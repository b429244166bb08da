/-
  Walks: the questions of package auth.
-/
import Derived.Test.YtcaicdjlfgpbfaaWToken4
import Derived.Test.YtcaicdjlfgpbfaaWLst3
import Derived.Deep.RegionLaw
namespace Go.Proofs.Ytcaicdjlfgpbfaa
open Go.RowKit Go.Lib Go.Joins
attribute [local go_sem] after_cell
set_option linter.unusedVariables false
set_option linter.unusedSimpArgs false

theorem drawn_facts {W1 w2 : World} (h : Below W1.drew.heap.size W1.drew w2) : Below W1.heap.size W1 w2 ∧ (∀ b o, b < W1.heap.size → w2.cell? ⟨b, o, none⟩ = W1.cell? ⟨b, o, none⟩) ∧ (∀ b o, b < W1.heap.size → w2.frozen? ⟨b, o, none⟩ = W1.frozen? ⟨b, o, none⟩) := by
  have hb := below_step (Below.refl W1.heap.size W1).drew h
  exact ⟨hb, bcell hb⟩
/-- a question -/
structure QstR where
  l : Value
  c : Value
  t : Value
  a : Value
  id : ByteArray
  now : Int
/-- a decision -/
structure DecR where
  st : Int
  src : Int
  grp : ByteArray
def decIn (L : List Tok) (id : ByteArray) (now src : Int) : DecR := if foundT L id = true then ⟨statusT (findT L id) now, src, (findT L id).group⟩ else ⟨0, 0, ⟨#[]⟩⟩

set_option maxRecDepth 100000 in
set_option maxHeartbeats 6400000 in
theorem in_any (q : QstR) (L : List Tok) (ul : Value) (src : Int) (w : World) (hL : IsSl w 6 ul (L.map Tok.cells)) (hf : ∀ x ∈ L, x.fits) (hl : L.length ≤ 1000) :
    Calls Try.prog 31 #[.agg #[q.l, q.c, q.t, q.a, .string q.id, .int .i64 q.now], ul, .int .i64 src] w fun e w' =>
      e = .returned (.tuple #[.agg #[.int .i64 (decIn L q.id q.now src).st, .int .i64 (decIn L q.id q.now src).src, .string (decIn L q.id q.now src).grp], .bool (foundT L q.id)]) ∧ Below w.heap.size w w' := by
  obtain ⟨W0, hW0, hb0, hg1, hg0, hx0, hx1, hz1⟩ := box2f w #[q.l, q.c, q.t, q.a, .string q.id, .int .i64 q.now] 53 #[.int .i64 0, .int .i64 0, .string ⟨#[]⟩] 35
  have HF := Lib.hid (find_any L ul q.id W0 (by omega) (hL.below hb0) hf)
  clear hL hf
  unfold decIn
  cases hfd : foundT L q.id with
  | false =>
    rw [hfd] at HF
    simp only [Bool.false_eq_true, if_false]
    go_enter Try.func31, Try.ntmps31
    go_wp2_with fail
    rw [← hW0]
    clear hW0
    go_wp2_with fail
    refine HF.out.mono ?_
    rintro e w1 ⟨rfl, hb1⟩
    generalize findT L q.id = X at *
    have hbw := below_step hb0 hb1
    obtain ⟨hc, hz⟩ := bcell hb1
    have hgx : w.heap.size + 1 < w1.heap.size := Nat.lt_of_lt_of_le hg1 hb1.size
    have hgx0 : w.heap.size < w1.heap.size := Nat.lt_of_lt_of_le hg0 hb1.size
    go_wp2_with fail
    obtain ⟨hx2, hb2⟩ := rowStored hb1 hg1 hx1 rfl [.int .i64 0, .int .i64 0, .string ⟨#[]⟩] rfl
    have hb3 := hb2 w.heap.size w (by omega) hbw
    have hsz : w.heap.size + 1 < (storeRow w1 (w.heap.size + 1) 0 [.int .i64 0, .int .i64 0, .string ⟨#[]⟩]).heap.size := by rw [storeRow_size]; exact hgx
    generalize hw5 : World.setCell _ _ _ = w5
    rw [show storeRow w1 (w.heap.size + 1) 0 [.int .i64 0, .int .i64 0, .string ⟨#[]⟩] = w5 from hw5] at hx2 hb3 hsz
    have hbA := below_alloc (Below.refl w5.heap.size w5) (.cells #[.string X.id, .string X.group, .string X.contract, .int .i64 X.kind, .int .i64 X.status, .int .i64 X.expiry] 24)
    have d0 := (hbA.cell (p := ⟨w.heap.size + 1, 0, none⟩) hsz).trans (hx2 0 (by simp))
    have d1 := (hbA.cell (p := ⟨w.heap.size + 1, 1, none⟩) hsz).trans (hx2 1 (by simp))
    have d2 := (hbA.cell (p := ⟨w.heap.size + 1, 2, none⟩) hsz).trans (hx2 2 (by simp))
    have hb6 := below_step hb3 hbA
    generalize w5.alloc (.cells #[.string X.id, .string X.group, .string X.contract, .int .i64 X.kind, .int .i64 X.status, .int .i64 X.expiry] 24) = w6 at *
    exact bodyPost_ret (v := .tuple #[.agg #[.int .i64 0, .int .i64 0, .string ⟨#[]⟩], .bool false]) (by simp [results, Try.results31, go_sem, d0, d1, d2]) rfl ⟨rfl, hb6⟩
  | true =>
    rw [hfd] at HF
    simp only [if_true]
    generalize findT L q.id = X at *
    go_enter Try.func31, Try.ntmps31
    go_wp2_with fail
    rw [← hW0]
    clear hW0
    go_wp2_with fail
    refine HF.out.mono ?_
    rintro e w1 ⟨rfl, hb1⟩
    have hbw := below_step hb0 hb1
    obtain ⟨hc, hz⟩ := bcell hb1
    have hgx : w.heap.size + 1 < w1.heap.size := Nat.lt_of_lt_of_le hg1 hb1.size
    have hgx0 : w.heap.size < w1.heap.size := Nat.lt_of_lt_of_le hg0 hb1.size
    obtain ⟨W1, hW1, hb2, hg2, hx2⟩ := box1 w1 #[.string X.id, .string X.group, .string X.contract, .int .i64 X.kind, .int .i64 X.status, .int .i64 X.expiry] 24
    go_wp2_with fail
    rw [← hW1]
    clear hW1 hc hz
    have hb12 := below_step hb1 hb2
    obtain ⟨hc, hz⟩ := bcell hb12
    have hgx1 : w.heap.size + 1 < W1.heap.size := Nat.lt_of_lt_of_le hgx hb2.size
    have hgx2 : w.heap.size < W1.heap.size := Nat.lt_of_lt_of_le hgx0 hb2.size
    have HST := Lib.hid (fun w' => status_any X q.now w')
    have hx3 : ∀ j, W1.cell? ⟨w.heap.size + 1, j, none⟩ = (#[.int .i64 0, .int .i64 0, .string ⟨#[]⟩] : Array Value)[j]? := fun j => (hc _ _ hg1).trans (hx1 j)
    have hx4 : ∀ j, W1.cell? ⟨w.heap.size, j, none⟩ = (#[q.l, q.c, q.t, q.a, .string q.id, .int .i64 q.now] : Array Value)[j]? := fun j => (hc _ _ hg0).trans (hx0 j)
    have hz3 : ∀ j, W1.frozen? ⟨w.heap.size + 1, j, none⟩ = false := fun j => (hz _ _ hg1).trans (hz1 j)
    clear hc hz
    go_region_law ((first
      | (go_simp; go_at_call 47; refine (HST.out _).mono ?_; rintro e w2 ⟨rfl, hb4⟩; obtain ⟨hb5, hc5, hz5⟩ := drawn_facts hb4)
      | (go_simp; fail)))
    all_goals
      generalize hw5 : World.setCell _ _ _ = w5
      obtain ⟨hx6, hb6⟩ := rowStored (below_step hb12 hb5) hg1 hx1 rfl [.int .i64 (statusT X q.now), .int .i64 src, .string X.group] rfl
      have hb7 := hb6 w.heap.size w (by omega) (below_step hb0 (below_step hb12 hb5))
      rw [show storeRow w2 (w.heap.size + 1) 0 [.int .i64 (statusT X q.now), .int .i64 src, .string X.group] = w5 from hw5] at hx6 hb7
      have d0 := hx6 0 (by simp)
      have d1 := hx6 1 (by simp)
      have d2 := hx6 2 (by simp)
      clear hw5 hx2 hx3 hx4 hz3 hc5 hz5
      go_wp2_with fail
      exact bodyPost_ret (v := .tuple #[.agg #[.int .i64 (statusT X q.now), .int .i64 src, .string X.group], .bool true]) (by simp [results, Try.results31, go_sem, d0, d1, d2]) rfl ⟨rfl, hb7⟩

end Go.Proofs.Ytcaicdjlfgpbfaa
