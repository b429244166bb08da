/-
  Appending one element of several cells to a row of the call's own. No program is named here.
-/
import Derived.Test.YtcaicdjlfgpbfaaSl
namespace Go.Proofs.Ytcaicdjlfgpbfaa
open Go.RowKit

theorem new_cells (w : World) (cs : Array Value) (T : TypeId) : ∀ j u, cs.toList[j]? = some u → (w.alloc (.cells cs T)).cell? ((⟨w.heap.size, 0, none⟩ : Addr).add j) = some u := by
  intro j u hj
  have ha : (⟨w.heap.size, 0, none⟩ : Addr).add j = ⟨w.heap.size, j, none⟩ := by
    unfold Addr.add
    split
    · first | (simp; done) | (simp; omega)
    · simp
  rw [ha, World.cell?_alloc_mark w cs T (0, 0) j]
  simpa using hj

/-- v and u lie in different blocks -/
def Apart (v u : Value) : Prop := ∀ g, v.ownBlock = some g → u.ownBlock ≠ some g
theorem Apart.symm {v u : Value} (h : Apart v u) : Apart u v := fun g hu hv => h g hv hu
theorem Apart.nil (v : Value) : Apart (.slice none 0 0) v := fun g h => by simp [Value.ownBlock] at h

section
variable {P : Program}

theorem wpList_append_row {ops : Array Oper} {rest : List Oper} {o : Oper} {a : Act} {Q : Exit → Act → World → Prop} (W : World) (cs : Array Value) (hgd : o.guard = none) (s x : Operand) (t : TypeId)
    (ho : o.op = .call { callee := .builtin .append, args := #[s, x], argTypes := #[t, t] })
    (base : Nat) (e : TypeId) (i : TypeInfo) (z : Value) (size bytes : Nat) (ht : P.underlying t = some (.slice e)) (hi : P.info? e = some i) (hz : i.zero = some z)
    (hsize : i.size = size) (hby : i.bytes = bytes) (hzs : z.cells.size = size) (hsz : 0 < size)
    (v : Value) (n : Nat) (xs : List Value) (hs : a.eval s = v) (hown : W.ownsRow base e size v n xs)
    (c : Nat) (hx : a.eval x = .slice (some ⟨W.heap.size, 0, none⟩) 1 c) (hl : cs.toList.length = size) (h1 : ∀ u ∈ cs.toList, u.oneCell' = true)
    (hbytes : (n + 1) * bytes ≤ 140737488355328) (hn : n + 1 ≤ 1073741824) (hbase : base ≤ W.heap.size)
    (h : ∀ v' w', w'.ownsRow base e size v' (n + 1) (xs ++ cs.toList) → W.grownBy w' v.ownBlock → (∀ g, v'.ownBlock = some g → v.ownBlock = some g ∨ W.heap.size ≤ g) → wpList P ops Q rest (a.put o.dst v') w') :
    wpList P ops Q (o :: rest) a (W.alloc (.cells cs e)) := by
  refine wpList_append_own_at _ hgd s x t ho base e i z size bytes ht hi hz hsize hby hzs hsz v n xs hs (hown.alloc _) ⟨W.heap.size, 0, none⟩ 1 c cs.toList hx (by omega) (new_cells W cs e) h1 (by unfold maxLen; omega) hbytes (by simp; omega) ?_
  intro v' w' h2 h3 _ h5
  refine h v' w' h2 ⟨h3.os, h3.tape, h3.output, Nat.le_trans (by simp) h3.size, fun k hk hne => ?_⟩ (fun g hg => ?_)
  · exact (h3.block k (by simp; omega) hne).trans (Below.heap_alloc W _ k hk)
  · rcases h5 with h5 | h5
    · exact .inl (h5 ▸ hg)
    · rw [h5] at hg
      injection hg with hg
      right; rw [← hg]; simp
end

/-- what is kept while another row grows -/
theorem row_kept {W w' : World} {B e e' s s' n m : Nat} {v v' u : Value} {xs ys : List Value} (_hv : W.ownsRow B e s v n xs) (hu : W.ownsRow B e' s' u m ys) (ha : Apart v u) (hg : W.grownBy w' v.ownBlock)
    (hat : ∀ g, v'.ownBlock = some g → v.ownBlock = some g ∨ W.heap.size ≤ g) : w'.ownsRow B e' s' u m ys ∧ Apart v' u := by
  constructor
  · refine hu.kept hg ?_
    cases hb : u.ownBlock with
    | none => exact .inl rfl
    | some g => exact .inr (fun e => ha g e.symm hb)
  · intro g hg' hu'
    rcases hat g hg' with h | h
    · exact ha g h hu'
    · have := (hu.lt g hu').2; omega

theorem below_grown {w W w' : World} {B e s n : Nat} {v : Value} {xs : List Value} (h : Below w.heap.size w W) (hv : W.ownsRow B e s v n xs) (hB : w.heap.size ≤ B) (hg : W.grownBy w' v.ownBlock) : Below w.heap.size w w' :=
  h.grown hg h.size (fun k hk => Nat.le_trans hB (hv.lt k hk).1)

theorem own_below {W w' : World} {B e s n : Nat} {v : Value} {xs : List Value} (hv : W.ownsRow B e s v n xs) (hb : Below W.heap.size W w') : w'.ownsRow B e s v n xs := by
  refine hv.kept (row := none) ⟨hb.os, hb.tape, hb.output, hb.size, fun k hk _ => hb.block k hk⟩ ?_
  cases hv' : v.ownBlock with
  | none => exact .inl rfl
  | some g => exact .inr (by simp)

end Go.Proofs.Ytcaicdjlfgpbfaa
