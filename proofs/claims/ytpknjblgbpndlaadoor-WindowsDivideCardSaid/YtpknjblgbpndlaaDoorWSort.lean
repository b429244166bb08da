/-
  Walks: slices.Sort and slices.Compact of a row of integers that the call owns.
-/
import Derived.Test.YtpknjblgbpndlaaDoorOwnI
import Derived.Lib.OwnBridge
import Derived.Lib.AppendIntMem
import Derived.Lib.SlicesCompact
import Derived.Test.YtpknjblgbpndlaaDoorShelf
namespace Go.Proofs.YtpknjblgbpndlaaDoor
open Go.RowKit Go.Lib Go.Maps Go.Sort
set_option linter.unusedVariables false

theorem encZ_map (l : List Int) : l.flatMap encZ = l.map (Value.int .i64) := by
  induction l with
  | nil => rfl
  | cons x l ih => rw [List.flatMap_cons, ih]; rfl
theorem compact_len (zs : List Int) : (compact zs).length ≤ zs.length := by
  unfold compact compactUpTo
  rw [List.length_map]
  exact Nat.le_trans (List.length_filter_le _ _) (by simp)
theorem grow_own {w : World} {base n size : Nat} {e : TypeId} {v : Value} {xs : List Value} {os : Array Obj} (h : w.ownsRow base e size v n xs) : (grow w os).ownsRow base e size v n xs :=
  own_below h (below_grow w.heap.size w (Nat.le_refl _) 0 os)
theorem sort_own {W0 : World} {g cap n : Nat} {e : TypeId} {zs : List Int} {w : World} (hb : Below W0.heap.size W0 w) (h : w.ownsRow W0.heap.size e 1 (.slice (some ⟨g, 0, none⟩) n cap) n (zs.flatMap encZ)) (hn : n ≤ 1000) :
    Calls Tryd.prog 64 #[.slice (some ⟨g, 0, none⟩) n cap] w fun e' w' => e' = .returned (.tuple #[]) ∧
      w'.ownsRow W0.heap.size e 1 (.slice (some ⟨g, 0, none⟩) n cap) n ((zs.mergeSort fun x y => decide (x ≤ y)).flatMap encZ) ∧ Below W0.heap.size W0 w' := by
  rw [encZ_map] at h ⊢
  obtain ⟨g', cap', e0, hg, hlt, hnc, hcm, hl, hH⟩ := holds_of_ownsRow h (by intro c; cases c)
  injection e0 with e1 _ e3
  injection e1 with e1
  injection e1 with e1
  subst e1; subst e3
  subst hl
  refine (Tryd.slices_Sort_int g 0 cap zs w hH hlt (by omega)).mono ?_
  rintro e' w' ⟨rfl, q, os, rfl⟩
  refine ⟨rfl, ?_, ?_⟩
  · have := ownsRow_putRow (q := q) (k := zs.length) h (ys := zs.mergeSort fun x y => decide (x ≤ y)) (by simp) (Nat.le_refl _)
    rw [List.take_of_length_le (by simp)] at this
    exact grow_own this
  · have h1 := below_putRow (enc := Value.int .i64) (q := q) (d := (zs.mergeSort fun x y => decide (x ≤ y)).toArray) hb hg
    have h2 := below_grow W0.heap.size _ h1.size 0 os
    exact h1.trans h2
theorem compact_own {W0 : World} {g cap n : Nat} {e : TypeId} {zs : List Int} {w : World} (hb : Below W0.heap.size W0 w) (h : w.ownsRow W0.heap.size e 1 (.slice (some ⟨g, 0, none⟩) n cap) n (zs.flatMap encZ)) (hn : n ≤ 1000) :
    Calls Tryd.prog 65 #[.slice (some ⟨g, 0, none⟩) n cap] w fun e' w' => e' = .returned (.slice (some ⟨g, 0, none⟩) (compact zs).length cap) ∧
      w'.ownsRow W0.heap.size e 1 (.slice (some ⟨g, 0, none⟩) (compact zs).length cap) (compact zs).length ((compact zs).flatMap encZ) ∧ Below W0.heap.size W0 w' := by
  rw [encZ_map] at h ⊢
  obtain ⟨g', cap', e0, hg, hlt, hnc, hcm, hl, hH⟩ := holds_of_ownsRow h (by intro c; cases c)
  injection e0 with e1 _ e3
  injection e1 with e1
  injection e1 with e1
  subst e1; subst e3
  subst hl
  have hcl := compact_len zs
  refine (Tryd.slices_Compact_int g 0 cap zs w hH (by omega) hnc).mono ?_
  rintro e' w' ⟨rfl, q, rfl⟩
  refine ⟨rfl, ?_, ?_⟩
  · have := ownsRow_putRow (q := q) (k := (compact zs).length) h (ys := compact zs ++ List.replicate (zs.length - (compact zs).length) 0) (by simp; omega) hcl
    rw [List.take_left] at this
    exact this
  · exact below_putRow hb hg

end Go.Proofs.YtpknjblgbpndlaaDoor
