/-
  Three new blocks at once, the third a row. No program is named here.
-/
import Derived.Test.YtpokacnbdojncaaDoorCopy
import Derived.Test.YtpokacnbdojncaaDoorBox
namespace Go.Proofs.YtpokacnbdojncaaDoor
open Go.RowKit
set_option linter.unusedVariables false

theorem box3 (w : World) (cs : Array Value) (T : TypeId) (ds : Array Value) (U : TypeId) (es : Array Value) (V : TypeId) {α : Type} {enc : α → List Value} {size n : Nat} (l : List α) (hs : ∀ x, (enc x).length = size) (hn : l.length = n) (hm : n ≤ maxLen) (he : es.toList = l.flatMap enc) :
    ∃ W0, W0 = ((w.alloc (.cells cs T)).alloc (.cells ds U)).alloc (.cells es V) ∧ Below w.heap.size w W0 ∧ w.heap.size + 1 < W0.heap.size ∧ w.heap.size < W0.heap.size ∧
      (∀ j, W0.cell? ⟨w.heap.size, j, none⟩ = cs[j]?) ∧ (∀ j, W0.cell? ⟨w.heap.size + 1, j, none⟩ = ds[j]?) ∧ IsSl W0 size (.slice (some ⟨w.heap.size + 1 + 1, 0, none⟩) n n) (l.map enc) := by
  obtain ⟨W1, rfl, hb, h1, h0, hx, hy⟩ := box2 w cs T ds U
  have hb2 : Below ((w.alloc (.cells cs T)).alloc (.cells ds U)).heap.size ((w.alloc (.cells cs T)).alloc (.cells ds U)) (((w.alloc (.cells cs T)).alloc (.cells ds U)).alloc (.cells es V)) := (Below.refl _ _).alloc (Nat.le_refl _) _
  refine ⟨_, rfl, below_step hb hb2, by simp, by simp; omega, fun j => (hb2.cell (p := ⟨w.heap.size, j, none⟩) h0).trans (hx j), fun j => (hb2.cell (p := ⟨w.heap.size + 1, j, none⟩) h1).trans (hy j), ?_⟩
  have ho := World.ownsRow_lit (base := 0) (e := V) (size := size) ((w.alloc (.cells cs T)).alloc (.cells ds U)) es n (Nat.zero_le _) hm (by
    have := flat_len enc size hs l
    rw [← he] at this
    simp at this
    rw [this, hn])
  rw [he] at ho
  have e : ((w.alloc (.cells cs T)).alloc (.cells ds U)).heap.size = w.heap.size + 1 + 1 := by simp
  rw [e] at ho
  exact IsSl.of_own hs ho hn

end Go.Proofs.YtpokacnbdojncaaDoor
