/-
  Boxed parameters, by name. No program is named here.
-/
import Derived.Test.YtcaicdjlfgpbfaaBase
import Derived.Deep.RegionHeld3
import Derived.Deep.RegionWith
import Derived.Deep.DrawnRows
namespace Go.Proofs.Ytcaicdjlfgpbfaa
open Go.RowKit

theorem box1 (w : World) (cs : Array Value) (T : TypeId) : ∃ W0, W0 = w.alloc (.cells cs T) ∧ Below w.heap.size w W0 ∧ w.heap.size < W0.heap.size ∧ (∀ j, W0.cell? ⟨w.heap.size, j, none⟩ = cs[j]?) :=
  ⟨_, rfl, below_alloc (Below.refl _ _) _, by simp, fun j => World.cell?_alloc_mark w cs T (0, 0) j⟩

theorem box2 (w : World) (cs : Array Value) (T : TypeId) (ds : Array Value) (U : TypeId) : ∃ W0, W0 = (w.alloc (.cells cs T)).alloc (.cells ds U) ∧ Below w.heap.size w W0 ∧ w.heap.size + 1 < W0.heap.size ∧ w.heap.size < W0.heap.size ∧
    (∀ j, W0.cell? ⟨w.heap.size, j, none⟩ = cs[j]?) ∧ (∀ j, W0.cell? ⟨w.heap.size + 1, j, none⟩ = ds[j]?) := by
  refine ⟨_, rfl, below_alloc (below_alloc (Below.refl _ _) _) _, by simp, by simp; omega, fun j => ?_, fun j => ?_⟩
  · have h := World.cell?_of_block (w := w.alloc (.cells cs T)) (w' := (w.alloc (.cells cs T)).alloc (.cells ds U)) (a := ⟨w.heap.size, j, none⟩) (Below.heap_alloc _ _ _ (by simp))
    rw [h]
    exact World.cell?_alloc_mark w cs T (0, 0) j
  · simp

end Go.Proofs.Ytcaicdjlfgpbfaa
