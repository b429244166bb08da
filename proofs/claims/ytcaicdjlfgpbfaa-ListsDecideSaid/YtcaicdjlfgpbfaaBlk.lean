/-
  A row of elements of several cells under construction: its block is known whole; what is copied and stored into it. No program is named here.
-/
import Derived.Test.YtcaicdjlfgpbfaaSub
namespace Go.Proofs.Ytcaicdjlfgpbfaa
open Go.RowKit
set_option linter.unusedVariables false

/-- block g holds these cells, none frozen -/
def Blk (w : World) (g : Nat) (T : TypeId) (cur : List Value) : Prop := w.heap[g]? = some (.cells cur.toArray T (0, 0))

section
variable {w w' : World} {g : Nat} {T : TypeId} {cur : List Value}
theorem Blk.cell (h : Blk w g T cur) (j : Nat) : w.cell? ⟨g, j, none⟩ = cur[j]? := by unfold Blk at h; simp [World.cell?, h]
theorem Blk.free (h : Blk w g T cur) (j : Nat) : w.frozen? ⟨g, j, none⟩ = false := frozen_of_row w g j _ T h
theorem Blk.new (w : World) (Z : Array Value) (T : TypeId) : Blk (w.alloc (.cells Z T)) w.heap.size T Z.toList := by unfold Blk; rw [heap_alloc_new]
theorem Blk.below (h : Blk w g T cur) {B : Nat} (hb : Below B w w') (hg : g < B) : Blk w' g T cur := (hb.block g hg).trans h
theorem Blk.set (h : Blk w g T cur) (k : Nat) (v : Value) : Blk (w.setCell ⟨g, k, none⟩ v) g T (cur.set k v) := by
  unfold Blk at *
  rw [heap_setCell_same w g k _ T v h]
  simp
theorem Blk.store (vs : List Value) : ∀ {w : World} {cur : List Value} (k : Nat), Blk w g T cur → Blk (storeRow w g k vs) g T (setAll cur k vs) := by
  induction vs with
  | nil => intro w cur k h; exact h
  | cons v vs ih => intro w cur k h; exact ih (k + 1) (h.set k v)
theorem Blk.other (h : Blk w g T cur) {b k : Nat} (hn : g ≠ b) (v : Value) : Blk (w.setCell ⟨b, k, none⟩ v) g T cur := by
  unfold Blk at *
  rw [Below.heap_setCell w ⟨b, k, none⟩ v g hn]
  exact h
theorem Blk.alloc (h : Blk w g T cur) (o : Obj) : Blk (w.alloc o) g T cur := by
  unfold Blk at *
  exact blk_alloc h o
theorem Blk.drew (h : Blk w g T cur) : Blk w.drew g T cur := h
theorem Blk.new' {W : World} {k : Nat} (hk : k = W.heap.size) (Z : Array Value) (T : TypeId) {zs : List Value} (hz : Z.toList = zs) : Blk (W.alloc (.cells Z T)) k T zs := by subst hk; subst hz; unfold Blk; rw [heap_alloc_new]
theorem far_cell {b g : Nat} (hn : b ≠ g) (W : World) (k : Nat) (v : Value) (j : Nat) : (W.setCell ⟨g, k, none⟩ v).cell? ⟨b, j, none⟩ = W.cell? ⟨b, j, none⟩ :=
  World.cell?_of_block (a := ⟨b, j, none⟩) (Below.heap_setCell W ⟨g, k, none⟩ v b hn)
theorem Blk.arr (h : Blk w g T cur) (j : Nat) : w.cell? ⟨g, j, none⟩ = cur.toArray[j]? := by rw [h.cell]; simp
theorem Blk.lt (h : Blk w g T cur) : g < w.heap.size := (Array.getElem?_eq_some_iff.1 h).1
/-- a block that is all rows of a list -/
theorem Blk.isSl {α : Type} {enc : α → List Value} {size : Nat} (hs : ∀ x, (enc x).length = size) {l : List α} {n : Nat} (h : Blk w g T (l.flatMap enc)) (hn : l.length = n) (hm : n ≤ maxLen) : IsSl w size (.slice (some ⟨g, 0, none⟩) n n) (l.map enc) := by
  refine IsSl.mk (fun k row hk => ?_) (by simpa using hn) (Nat.le_refl _) hm
  obtain ⟨x, hx, rfl⟩ := rows_at enc hk
  refine ⟨g, 0, rfl, h.lt, fun j u hu => ?_⟩
  have e : 0 + k * size + j = k * size + j := by omega
  rw [e, h.cell]
  exact flat_at enc size hs l k x hx j u hu
end

theorem splice_head {A Z : List Value} : splice Z 0 A = A ++ Z.drop A.length := by simp [splice]
theorem splice_at {X R B : List Value} (h : R.length = B.length) : splice (X ++ R) X.length B = X ++ B := by
  simp [splice, List.drop_append]
  omega
theorem splice_two {A B Z : List Value} (h : Z.length = A.length + B.length) : splice (splice Z 0 A) A.length B = A ++ B := by
  rw [splice_head, splice_at (by rw [List.length_drop]; omega)]
theorem setAll_mid : ∀ (vs A R : List Value), vs.length ≤ R.length → setAll (A ++ R) A.length vs = A ++ (vs ++ R.drop vs.length)
  | [], A, R, _ => by simp [setAll]
  | v :: vs, A, [], h => by simp at h
  | v :: vs, A, r :: R, h => by
    have e : (A ++ r :: R).set A.length v = (A ++ [v]) ++ R := by simp
    have ih := setAll_mid vs (A ++ [v]) R (by simpa using h)
    rw [setAll, e]
    rw [List.length_append, List.length_cons, List.length_nil] at ih
    rw [ih]
    simp
theorem splice_three {A C B Z : List Value} (h : Z.length = A.length + C.length + B.length) : splice (setAll (splice Z 0 A) A.length C) (A.length + C.length) B = A ++ C ++ B := by
  rw [splice_head, setAll_mid _ _ _ (by rw [List.length_drop]; omega)]
  have e : A ++ (C ++ List.drop C.length (List.drop A.length Z)) = (A ++ C) ++ List.drop C.length (List.drop A.length Z) := by simp
  have e2 : A.length + C.length = (A ++ C).length := by simp
  rw [e, e2, splice_at (by rw [List.length_drop, List.length_drop]; omega)]

theorem SlAt.take {w : World} {size : Nat} {A : Option Addr} {rows : List (List Value)} (h : SlAt w size A rows) (n : Nat) : SlAt w size A (rows.take n) := by
  intro k row hk
  rw [List.getElem?_take] at hk
  split at hk
  · exact h k row hk
  · simp at hk

section
variable {P : Program}
/-- copy of all rows of a list to a place of a block that is known whole -/
theorem wpList_copy_to {α : Type} {enc : α → List Value} {w : World} {ops : Array Oper} {rest : List Oper} {o : Oper} {a : Act} {Q : Exit → Act → World → Prop} (hgd : o.guard = none) (d s : Operand) (dT sT : TypeId)
    (ho : o.op = .call { callee := .builtin .copy, args := #[d, s], argTypes := #[dT, sT] }) (elem : TypeId) (size : Nat) (hu : P.underlying dT = some (.slice elem)) (i : TypeInfo) (hi : P.info? elem = some i) (hsz : i.size = size)
    (hs : ∀ x, (enc x).length = size) (hp : 0 < size) (hone : ∀ x, ∀ u ∈ enc x, u.oneCell' = true)
    (D A : Option Addr) (dLen dCap sLen sCap : Nat) (hd : a.eval d = .slice D dLen dCap) (hsv : a.eval s = .slice A sLen sCap)
    (g off : Nat) (cur : List Value) (t : TypeId) (hg : Blk w g t cur) (l : List α) (hl : SlAt w size A (l.map enc)) (hn : l.length = Nat.min sLen dLen) (hD : 0 < l.length → D = some ⟨g, off, none⟩) (hfit : off + l.length * size ≤ cur.length)
    (h : ∀ w', Blk w' g t (splice cur off (l.flatMap enc)) → w.grownBy w' (some g) → wpList P ops Q rest (a.put o.dst (goInt (Nat.min sLen dLen : Nat))) w') :
    wpList P ops Q (o :: rest) a w := by
  have hf := flat_len enc size hs l
  refine wpList_copy_rows hgd d s dT sT ho elem size hu i hi hsz D A dLen dCap sLen sCap hd hsv g off cur t hg (l.flatMap enc) (by rw [hf, hn]) (fun hpos => ?_) (by rw [hf]; exact hfit) (fun v hv => ?_) h
  · have hl0 : 0 < l.length := by
      rcases Nat.eq_zero_or_pos l.length with e | e
      · rw [hf, e] at hpos; simp at hpos
      · exact e
    exact ⟨hD hl0, src_rows hs hp hl (List.length_pos_iff.1 hl0)⟩
  · rw [List.mem_flatMap] at hv
    obtain ⟨y, _, hy⟩ := hv
    exact hone y v hy
end

end Go.Proofs.Ytcaicdjlfgpbfaa
