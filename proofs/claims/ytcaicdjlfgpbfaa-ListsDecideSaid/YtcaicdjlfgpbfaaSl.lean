/-
  Slices whose elements take a fixed number of cells: a slice value that reads as a list of rows. No program is named here.
-/
import Derived.Test.YtcaicdjlfgpbfaaBase
import Derived.Maps.AppendAt
namespace Go.Proofs.Ytcaicdjlfgpbfaa
open Go.RowKit

/-- The address A reads as these rows of 'size' cells each: nothing is asked where there is no row. -/
def SlAt (w : World) (size : Nat) (A : Option Addr) (rows : List (List Value)) : Prop :=
  ∀ k row, rows[k]? = some row → ∃ b off, A = some ⟨b, off, none⟩ ∧ b < w.heap.size ∧ ∀ j u, row[j]? = some u → w.cell? ⟨b, off + k * size + j, none⟩ = some u

/-- The value v is a slice that reads as these rows. -/
def IsSl (w : World) (size : Nat) (v : Value) (rows : List (List Value)) : Prop :=
  ∃ (A : Option Addr) (c : Nat), v = .slice A rows.length c ∧ rows.length ≤ c ∧ c ≤ maxLen ∧ SlAt w size A rows

section
variable {w w' : World} {size : Nat} {A : Option Addr} {rows : List (List Value)} {v : Value}

theorem SlAt.nil (w : World) (size : Nat) (A : Option Addr) : SlAt w size A [] := fun k row h => by simp at h
theorem SlAt.below (h : SlAt w size A rows) (hb : Below w.heap.size w w') : SlAt w' size A rows := fun k row hk => by
  obtain ⟨b, off, e, hlt, hc⟩ := h k row hk
  exact ⟨b, off, e, Nat.lt_of_lt_of_le hlt hb.size, fun j u hu => (hb.cell (p := ⟨b, off + k * size + j, none⟩) hlt).trans (hc j u hu)⟩
theorem IsSl.nil (w : World) (size : Nat) : IsSl w size (.slice none 0 0) [] := ⟨none, 0, rfl, Nat.le_refl _, by unfold maxLen; omega, SlAt.nil _ _ _⟩
theorem IsSl.below (h : IsSl w size v rows) (hb : Below w.heap.size w w') : IsSl w' size v rows := by
  obtain ⟨A, c, e, h1, h2, h3⟩ := h
  exact ⟨A, c, e, h1, h2, h3.below hb⟩
theorem IsSl.mk (h : SlAt w size A rows) {n c : Nat} (hn : rows.length = n) (hc : n ≤ c) (hm : c ≤ maxLen) : IsSl w size (.slice A n c) rows := by
  subst hn
  exact ⟨A, c, rfl, hc, hm, h⟩

/-- a row of the call's own reads as its rows -/
theorem SlAt.of_own {base : Nat} {e : TypeId} {n c : Nat} {xs : List Value} (h : w.ownsRow base e size (.slice A n c) n xs) (hr : ∀ k row, rows[k]? = some row → ∀ j u, row[j]? = some u → xs[k * size + j]? = some u)
    (hlen : rows.length = n) : SlAt w size A rows := fun k row hk => by
  have hk' : k < n := by rw [← hlen]; exact (List.getElem?_eq_some_iff.1 hk).1
  rcases h.2 with ⟨hv, hx⟩ | ⟨g, cap, cur, hv, hg, hh, _, _, hsz, htake⟩
  · injection hv with _ hn
    omega
  · injection hv with hA _ _
    refine ⟨g, 0, hA, ?_, fun j u hu => ?_⟩
    · exact (Array.getElem?_eq_some_iff.1 hh).1
    · have hx := h.cells (g := g) (by rw [hA]; rfl) (k * size + j) u (hr k row hk j u hu)
      have ea : ((⟨g, 0, none⟩ : Addr).add (k * size + j)) = ⟨g, 0 + k * size + j, none⟩ := by
        unfold Addr.add
        split
        · first | (simp; done) | (simp; omega)
        · simp
      rw [ea] at hx
      exact hx
end

/-- rows of one size, laid end to end -/
theorem flat_at {α : Type} (enc : α → List Value) (size : Nat) (hs : ∀ x, (enc x).length = size) : ∀ (l : List α) (k : Nat) (x : α), l[k]? = some x → ∀ j u, (enc x)[j]? = some u → (l.flatMap enc)[k * size + j]? = some u
  | [], k, x, h, _, _, _ => by simp at h
  | y :: l, 0, x, h, j, u, hu => by
    simp at h; subst h
    have hj : j < (enc y).length := (List.getElem?_eq_some_iff.1 hu).1
    rw [List.flatMap_cons, List.getElem?_append_left (by omega), Nat.zero_mul, Nat.zero_add]
    exact hu
  | y :: l, k + 1, x, h, j, u, hu => by
    rw [List.flatMap_cons, List.getElem?_append_right (by rw [hs, Nat.succ_mul]; omega), hs]
    have e : (k + 1) * size + j - size = k * size + j := by rw [Nat.succ_mul]; omega
    rw [e]
    exact flat_at enc size hs l k x (by simpa using h) j u hu

theorem flat_len {α : Type} (enc : α → List Value) (size : Nat) (hs : ∀ x, (enc x).length = size) (l : List α) : (l.flatMap enc).length = l.length * size := by
  induction l with
  | nil => simp
  | cons y l ih => rw [List.flatMap_cons, List.length_append, hs, ih, List.length_cons, Nat.succ_mul]; omega

/-- the rows of a list -/
theorem rows_at {α : Type} (enc : α → List Value) {l : List α} {k : Nat} {row : List Value} (h : (l.map enc)[k]? = some row) : ∃ x, l[k]? = some x ∧ row = enc x := by
  rw [List.getElem?_map] at h
  cases hx : l[k]? with
  | none => rw [hx] at h; simp at h
  | some x => rw [hx] at h; simp at h; exact ⟨x, rfl, h.symm⟩

theorem IsSl.of_own {α : Type} {enc : α → List Value} {w : World} {base size n : Nat} {e : TypeId} {v : Value} {l : List α} (hs : ∀ x, (enc x).length = size) (h : w.ownsRow base e size v n (l.flatMap enc)) (hn : l.length = n) :
    IsSl w size v (l.map enc) := by
  have h0 := h
  rcases h.2 with ⟨rfl, hx⟩ | ⟨g, cap, cur, rfl, hg, hh, hnc, hcm, hsz, htake⟩
  · have hl : l = [] := List.eq_nil_of_length_eq_zero (by omega)
    subst hl
    exact IsSl.nil _ _
  · exact IsSl.mk (SlAt.of_own h0 (fun k row hk j u hu => by
      obtain ⟨x, hx, rfl⟩ := rows_at enc hk
      exact flat_at enc size hs l k x hx j u hu) (by simpa using hn)) (by simpa using hn) hnc hcm

end Go.Proofs.Ytcaicdjlfgpbfaa
