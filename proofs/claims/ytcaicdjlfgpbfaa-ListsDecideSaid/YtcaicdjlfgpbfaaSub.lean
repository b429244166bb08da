/-
  Parts of slices; rows of several cells stored one by one; lists and their heads. No program is named here.
-/
import Derived.Test.YtcaicdjlfgpbfaaCopy
import Derived.Test.YtcaicdjlfgpbfaaKept
namespace Go.Proofs.Ytcaicdjlfgpbfaa
open Go.RowKit
set_option linter.unusedVariables false

theorem addr_add_add (a : Addr) (i j : Nat) : (a.add i).add j = a.add (i + j) := by
  unfold Addr.add
  by_cases hi : i = 0 <;> by_cases hj : j = 0 <;> simp [hi, hj, Nat.add_assoc]

/-- the address at which a part of a slice begins -/
def subAddr (A : Option Addr) (cap k size : Nat) : Option Addr := if cap = k then A else A.map (fun x => x.add (k * size))

theorem subAddr_at {W : World} {size : Nat} {A : Option Addr} {rows : List (List Value)} {cap k : Nat} (h : SlAt W size A rows) (hc : rows.length ≤ cap) : SlAt W size (subAddr A cap k size) (rows.drop k) := by
  intro j row hj
  rw [List.getElem?_drop] at hj
  obtain ⟨b, off, rfl, hb, hcell⟩ := h (k + j) row hj
  have hlt : k + j < rows.length := (List.getElem?_eq_some_iff.1 hj).1
  refine ⟨b, off + k * size, ?_, hb, fun i u hu => ?_⟩
  · unfold subAddr
    rw [if_neg (by omega)]
    simp only [Option.map_some, Addr.add]
    split
    · rename_i hz; rw [hz]; rfl
    · rfl
  · have := hcell i u hu
    have e : off + (k + j) * size + i = off + k * size + j * size + i := by rw [Nat.add_mul]; omega
    rw [e] at this
    exact this
theorem subAddr_own {g cap k size : Nat} (h : k < cap) : subAddr (some ⟨g, 0, none⟩) cap k size = some ⟨g, k * size, none⟩ := by
  unfold subAddr
  rw [if_neg (by omega)]
  simp only [Option.map_some, Addr.add]
  split
  · rename_i hz; rw [hz]
  · simp

/-- cells stored one by one, from a place on -/
def setAll : List Value → Nat → List Value → List Value
  | xs, _, [] => xs
  | xs, k, v :: vs => setAll (xs.set k v) (k + 1) vs

theorem setAll_len : ∀ (vs xs : List Value) (k : Nat), (setAll xs k vs).length = xs.length
  | [], xs, k => rfl
  | v :: vs, xs, k => by rw [setAll, setAll_len vs, List.length_set]
theorem setAll_get : ∀ (vs xs : List Value) (k : Nat), k + vs.length ≤ xs.length → ∀ j, (setAll xs k vs)[j]? = if k ≤ j ∧ j < k + vs.length then vs[j - k]? else xs[j]?
  | [], xs, k, _, j => by simp [setAll]; omega
  | v :: vs, xs, k, h, j => by
    simp only [List.length_cons] at h
    rw [setAll, setAll_get vs (xs.set k v) (k + 1) (by rw [List.length_set]; omega) j]
    rw [List.getElem?_set]
    by_cases h1 : k = j
    · subst h1
      rw [if_neg (by omega), if_pos rfl, if_pos (by omega), if_pos (by simp)]
      simp
    · by_cases h2 : k + 1 ≤ j ∧ j < k + 1 + vs.length
      · rw [if_pos h2, if_pos (by simp; omega)]
        rw [show j - k = (j - (k + 1)) + 1 by omega, List.getElem?_cons_succ]
      · rw [if_neg h2, if_neg h1, if_neg (by simp; omega)]

theorem set_row {α : Type} {enc : α → List Value} {size : Nat} (hs : ∀ x, (enc x).length = size) (hp : 0 < size) (l : List α) (k : Nat) (hk : k < l.length) (x : α) : setAll (l.flatMap enc) (k * size) (enc x) = (l.set k x).flatMap enc := by
  have hf := flat_len enc size hs l
  have hf2 := flat_len enc size hs (l.set k x)
  have hle : (k + 1) * size ≤ l.length * size := Nat.mul_le_mul_right _ hk
  rw [Nat.succ_mul] at hle
  apply List.ext_getElem?
  intro j
  rw [setAll_get _ _ _ (by rw [hs, hf]; omega), hs]
  by_cases hj : j < l.length * size
  · have hq : j / size < l.length := by rw [Nat.div_lt_iff_lt_mul hp]; exact hj
    have hdm := Nat.div_add_mod' j size
    have hm : j % size < size := Nat.mod_lt _ hp
    have row : ∀ (m : List α) (q : Nat) (y : α), m[q]? = some y → ∀ i, i < size → (m.flatMap enc)[q * size + i]? = (enc y)[i]? := fun m q y h i hi => by
      have hrow : (enc y)[i]? = some ((enc y)[i]'(by rw [hs]; exact hi)) := List.getElem?_eq_getElem _
      rw [flat_at enc size hs m q y h i _ hrow, hrow]
    by_cases hc : k * size ≤ j ∧ j < k * size + size
    · rw [if_pos hc]
      have hjk : j = k * size + (j - k * size) := by omega
      rw [hjk, row (l.set k x) k x (by rw [List.getElem?_set_self (by omega)]) (j - k * size) (by omega)]
      rw [show k * size + (j - k * size) - k * size = j - k * size by omega]
    · rw [if_neg hc]
      have hqk : j / size ≠ k := by
        intro e
        apply hc
        rw [e] at hdm
        omega
      have h1 := row l (j / size) l[j / size] (List.getElem?_eq_getElem hq) (j % size) hm
      have h2 := row (l.set k x) (j / size) l[j / size] (by rw [List.getElem?_set_ne (by omega), List.getElem?_eq_getElem hq]) (j % size) hm
      rw [hdm] at h1 h2
      rw [h1, h2]
  · rw [if_neg (by omega), List.getElem?_eq_none (by rw [hf]; omega), List.getElem?_eq_none (by rw [hf2, List.length_set]; omega)]

/-- a row of cells of one block, stored one by one -/
def storeRow (w : World) (g : Nat) : Nat → List Value → World
  | _, [] => w
  | k, v :: vs => storeRow (w.setCell ⟨g, k, none⟩ v) g (k + 1) vs
theorem storeRow_low {g : Nat} : ∀ (vs : List Value) (w : World) (k i : Nat), i < k → (storeRow w g k vs).cell? ⟨g, i, none⟩ = w.cell? ⟨g, i, none⟩
  | [], w, k, i, _ => rfl
  | v :: vs, w, k, i, h => by
    rw [storeRow, storeRow_low vs _ (k + 1) i (by omega)]
    exact World.cell?_setCell_other w ⟨g, k, none⟩ ⟨g, i, none⟩ v (by intro x; injection x; omega)
theorem storeRow_cell {g : Nat} : ∀ (vs : List Value) (w : World) (k : Nat), (∀ j, j < vs.length → ∃ u, w.cell? ⟨g, k + j, none⟩ = some u) → ∀ j, j < vs.length → (storeRow w g k vs).cell? ⟨g, k + j, none⟩ = vs[j]?
  | [], w, k, _, j, hj => by simp at hj
  | v :: vs, w, k, h, j, hj => by
    rw [storeRow]
    have h0 : (w.setCell ⟨g, k, none⟩ v).cell? ⟨g, k, none⟩ = some v := by
      obtain ⟨u, hu⟩ := h 0 (by simp)
      exact World.cell?_setCell_same w ⟨g, k, none⟩ v hu
    cases j with
    | zero =>
      show (storeRow (w.setCell ⟨g, k, none⟩ v) g (k + 1) vs).cell? ⟨g, k, none⟩ = some v
      rw [storeRow_low vs _ (k + 1) k (by omega), h0]
    | succ j =>
      have ih := storeRow_cell (g := g) vs (w.setCell ⟨g, k, none⟩ v) (k + 1) (fun i hi => by
        obtain ⟨u, hu⟩ := h (i + 1) (by simp; omega)
        refine ⟨u, ?_⟩
        rw [World.cell?_setCell_other w ⟨g, k, none⟩ ⟨g, k + 1 + i, none⟩ v (by intro x; injection x; omega)]
        rw [show k + 1 + i = k + (i + 1) by omega]
        exact hu) j (by simpa using hj)
      rw [show k + (j + 1) = k + 1 + j by omega, ih]
      rfl
theorem storeRow_below {B g : Nat} {W : World} (hB : B ≤ g) : ∀ (vs : List Value) (w : World) (k : Nat), Below B W w → Below B W (storeRow w g k vs)
  | [], w, k, h => h
  | v :: vs, w, k, h => storeRow_below hB vs _ (k + 1) (h.setCell (p := ⟨g, k, none⟩) hB v)
theorem storeRow_heap {g : Nat} : ∀ (vs : List Value) (w : World) (k b : Nat), b ≠ g → (storeRow w g k vs).heap[b]? = w.heap[b]?
  | [], w, k, b, _ => rfl
  | v :: vs, w, k, b, h => by
    rw [storeRow, storeRow_heap vs _ (k + 1) b h]
    exact Below.heap_setCell w ⟨g, k, none⟩ v b h
theorem storeRow_far {g : Nat} (vs : List Value) (w : World) (k : Nat) {b o : Nat} (h : b ≠ g) : (storeRow w g k vs).cell? ⟨b, o, none⟩ = w.cell? ⟨b, o, none⟩ := World.cell?_of_block (a := ⟨b, o, none⟩) (storeRow_heap vs w k b h)
theorem storeRow_size {g : Nat} : ∀ (vs : List Value) (w : World) (k : Nat), (storeRow w g k vs).heap.size = w.heap.size
  | [], w, k => rfl
  | v :: vs, w, k => by rw [storeRow, storeRow_size vs]; simp [World.setCell]
theorem storeRow_frozen {g : Nat} (a : Addr) : ∀ (vs : List Value) (w : World) (k : Nat), (storeRow w g k vs).frozen? a = w.frozen? a
  | [], w, k => rfl
  | v :: vs, w, k => by rw [storeRow, storeRow_frozen a vs]; exact World.frozen?_setCell _ _ _ _
theorem storeRow_own {B g n : Nat} {W : World} {T : TypeId} {s : Nat} : ∀ (vs : List Value) (w : World) (k : Nat) (xs : List Value) (c : Nat), w.ownsRow B T s (.slice (some ⟨g, 0, none⟩) n c) n xs → (storeRow w g k vs).ownsRow B T s (.slice (some ⟨g, 0, none⟩) n c) n (setAll xs k vs)
  | [], w, k, xs, c, h => h
  | v :: vs, w, k, xs, c, h => storeRow_own (W := W) vs _ (k + 1) _ c (h.stored k v).1

theorem run_make_rowZ {P : Program} (t e : TypeId) (i : TypeInfo) (z : Value) (ht : P.underlying t = some (.slice e)) (hi : P.info? e = some i) (hz : i.zero = some z)
    (kl kc : IntKind) (n c : Nat) (N C : Int) (hN : N = (n : Int)) (hC : C = (c : Int)) (hnc : n ≤ c) (hbytes : i.bytes * c ≤ 281474976710656) (h63 : c ≤ 9223372036854775807) (w : World) :
    (Instr.makeSlice t (.int kl N) (.int kc C)).run P w = .ok (.slice (some ⟨w.heap.size, 0, none⟩) n c) (w.alloc (.cells (madeCells z.cells (c * i.size)) e)) := by
  subst hN
  exact run_make_rowN t e i z ht hi hz kl kc n c C hC hnc hbytes h63 w

theorem all_take' {α : Type} (l : List α) (p : α → Bool) {k : Nat} (h : k < l.length) : (l.take (k + 1)).all p = ((l.take k).all p && p l[k]) := by
  rw [List.take_succ_eq_append_getElem h, List.all_append]; simp
theorem all_full' {α : Type} (l : List α) (p : α → Bool) {k : Nat} (h : ¬ k < l.length) : (l.take k).all p = l.all p := by
  rw [List.take_of_length_le (by omega)]
theorem all_false' {α : Type} (l : List α) (p : α → Bool) {k : Nat} (h : k < l.length) (hp : p l[k] = false) : l.all p = false := by
  rw [List.all_eq_false]; exact ⟨l[k], List.getElem_mem h, by simp [hp]⟩

theorem islen' {α : Type} {enc : α → List Value} {size : Nat} {w : World} {v : Value} {l : List α} (h : IsSl w size v (l.map enc)) : ∃ A c, v = .slice A l.length c ∧ l.length ≤ c ∧ c ≤ maxLen ∧ SlAt w size A (l.map enc) := by
  obtain ⟨A, c, e, h1, h2, h3⟩ := h
  rw [List.length_map] at e h1
  exact ⟨A, c, e, h1, h2, h3⟩

end Go.Proofs.Ytcaicdjlfgpbfaa
