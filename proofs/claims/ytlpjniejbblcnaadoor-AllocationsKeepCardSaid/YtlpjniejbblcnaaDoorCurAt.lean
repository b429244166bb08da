/-
  Grid events as rows of cells; a grid event of a list, read; the error of a grid event. No program is named here.
-/
import Derived.Test.YtlpjniejbblcnaaDoorPLmt2
import Derived.Test.YtlpjniejbblcnaaDoorM1
namespace Go.Proofs.YtlpjniejbblcnaaDoor
open Go.RowKit
set_option linter.unusedVariables false

def CurR.cells (c : CurR) : List Value := [.string c.nm, .int .i64 c.ver, .int .i64 c.fd, .int .i64 c.fr, .int .i64 c.to, .int .i64 c.tot, .bool c.off]
theorem CurR.cells_len (c : CurR) : c.cells.length = 7 := rfl
theorem CurR.cells_one (c : CurR) : ∀ u ∈ c.cells, u.oneCell' = true := by intro u hu; simp [CurR.cells] at hu; rcases hu with rfl | rfl | rfl | rfl | rfl | rfl | rfl <;> rfl
def CurR.fits (c : CurR) : Prop := c.nm.size ≤ maxLen ∧ I64 c.fd ∧ I64 c.tot
theorem cur_at {w : World} {A : Option Addr} {l : List CurR} (h : SlAt w 7 A (l.map CurR.cells)) {k : Nat} (hk : k < l.length) :
    ∃ b off, A = some ⟨b, off, none⟩ ∧ b < w.heap.size ∧ w.cell? ⟨b, off + k * 7, none⟩ = some (.string l[k].nm) ∧ w.cell? ⟨b, off + k * 7 + 1, none⟩ = some (.int .i64 l[k].ver) ∧ w.cell? ⟨b, off + k * 7 + 2, none⟩ = some (.int .i64 l[k].fd) ∧
      w.cell? ⟨b, off + k * 7 + 3, none⟩ = some (.int .i64 l[k].fr) ∧ w.cell? ⟨b, off + k * 7 + 4, none⟩ = some (.int .i64 l[k].to) ∧ w.cell? ⟨b, off + k * 7 + 5, none⟩ = some (.int .i64 l[k].tot) ∧ w.cell? ⟨b, off + k * 7 + 6, none⟩ = some (.bool l[k].off) := by
  obtain ⟨b, off, e, hb, hc⟩ := h k l[k].cells (by rw [List.getElem?_map, List.getElem?_eq_getElem hk]; rfl)
  exact ⟨b, off, e, hb, by simpa using hc 0 _ rfl, hc 1 _ rfl, hc 2 _ rfl, hc 3 _ rfl, hc 4 _ rfl, hc 5 _ rfl, hc 6 _ rfl⟩
theorem uAt_take {l : List CurR} {k : Nat} (h : k < l.length) (f t : Int) : uAt (l.take (k + 1)) f t = uStep f t (uAt (l.take k) f t) l[k] := by
  unfold uAt; rw [List.take_succ_eq_append_getElem h, List.foldl_append]; rfl
theorem uOn_iff {f t : Int} {c : CurR} : uOn f t c = true ↔ c.fd = f ∧ c.off = false ∧ c.fr ≤ t ∧ t < c.to := by unfold uOn; simp
theorem uStep_t {f t n : Int} {c : CurR} (h : c.fd = f ∧ c.off = false ∧ c.fr ≤ t ∧ t < c.to) : uStep f t n c = min n c.tot := if_pos (uOn_iff.2 h)
theorem uStep_f {f t n : Int} {c : CurR} (h : ¬ (c.fd = f ∧ c.off = false ∧ c.fr ≤ t ∧ t < c.to)) : uStep f t n c = n := if_neg (fun g => h (uOn_iff.1 g))
/-- the error of a grid event for a site with n feeders -/
def curE (x : CurR) (n : Nat) : Int :=
  if validL x.nm.data.toList = false then 4
  else if x.ver < 1 ∨ x.fd < 0 ∨ (n : Int) ≤ x.fd ∨ x.tot < 0 ∨ 1073741824 < x.tot ∨ x.fr < 0 ∨ x.to < x.fr ∨ 268435456 < x.to then 2 else 0
theorem curE_name {x : CurR} {n : Nat} (h : validL x.nm.data.toList = false) : curE x n = 4 := if_pos h
theorem curE_range {x : CurR} {n : Nat} (h : validL x.nm.data.toList = true) (g : x.ver < 1 ∨ x.fd < 0 ∨ (n : Int) ≤ x.fd ∨ x.tot < 0 ∨ 1073741824 < x.tot ∨ x.fr < 0 ∨ x.to < x.fr ∨ 268435456 < x.to) : curE x n = 2 := by
  unfold curE; rw [if_neg (by rw [h]; decide), if_pos g]
theorem curE_ok {x : CurR} {n : Nat} (h : validL x.nm.data.toList = true) (g : ¬ (x.ver < 1 ∨ x.fd < 0 ∨ (n : Int) ≤ x.fd ∨ x.tot < 0 ∨ 1073741824 < x.tot ∨ x.fr < 0 ∨ x.to < x.fr ∨ 268435456 < x.to)) : curE x n = 0 := by
  unfold curE; rw [if_neg (by rw [h]; decide), if_neg g]

end Go.Proofs.YtlpjniejbblcnaaDoor
