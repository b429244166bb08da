/-
  Walks: Valid of package curtail and of its reference.
  Appending one element of several cells to a row of the call's own. No program is named here.
  Rows of integers that the call owns. No function of the program is named here.
  Walks: slices.Sort and slices.Compact of a row of integers that the call owns.
  copy, make and stores of elements of several cells. No program is named here.
  Parts of slices; rows of several cells stored one by one; lists and their heads. No program is named here.
  A row of elements of several cells under construction: its block is known whole; what is copied and stored into it. No program is named here.
  Walks: Next of package curtail; sort and compact of no numbers.
  Walks: Next of package curtail.
-/
import Derived.Test.YtmappmeojmdekaaGreatDoorM4
import Derived.Test.YtmappmeojmdekaaGreatDoorM1
import Derived.Test.YtmappmeojmdekaaGreatDoorProg
import Derived.Lib.OwnBridge
import Derived.Lib.AppendIntMem
import Derived.Lib.SlicesCompact
import Derived.Test.YtmappmeojmdekaaGreatDoorShelf
import Derived.Laws.CopyOwn

namespace Go.Proofs.YtmappmeojmdekaaGreatDoor
open Go.RowKit Go.Lib Go.Maps
attribute [local go_sem] after_cell
set_option linter.unusedVariables false

theorem drewN_belowU {w w' : World} (h : ∃ n, w' = w.drewN n) : Below w.heap.size w w' := by
  obtain ⟨n, rfl⟩ := h
  exact below_drewN (Below.refl _ _) n

set_option maxRecDepth 100000 in
set_option maxHeartbeats 6400000 in
theorem curRight_any (x : CurR) (n : Nat) (w : World) (hn : x.nm.size ≤ maxLen) :
    Calls Tryz.prog 54 #[.agg #[.string x.nm, .int .i64 x.ver, .int .i64 x.fd, .int .i64 x.fr, .int .i64 x.to, .int .i64 x.tot, .bool x.off], .int .i64 n] w
      fun e w' => e = .returned (.int .i64 (curE x n)) ∧ Below w.heap.size w w' := by
  obtain ⟨W0, hW0, hb0, hg0, hx0⟩ := box1 w #[.string x.nm, .int .i64 x.ver, .int .i64 x.fd, .int .i64 x.fr, .int .i64 x.to, .int .i64 x.tot, .bool x.off] 63
  cases hv : validL x.nm.data.toList with
  | false =>
    have HE := Lib.hid (curE_name (n := n) hv)
    have HV := Lib.hid hv
    clear hv
    go_enter Tryz.func54, Tryz.ntmps54
    go_wp2_with fail
    rw [← hW0]
    clear hW0
    refine (refIdV_any x.nm _ hn).mono ?_
    rintro e w1 ⟨rfl, hd1⟩
    have hb1 := drewN_belowU hd1
    rw [HV.out]
    go_wp2_with fail
    go_ret
    exact ⟨ret_int HE.out.symm, below_step hb0 hb1⟩
  | true =>
    have HV := Lib.hid hv
    have HE1 := Lib.hid (fun g => curE_range (n := n) hv g)
    have HE2 := Lib.hid (fun g => curE_ok (n := n) hv g)
    clear hv
    go_enter Tryz.func54, Tryz.ntmps54
    go_wp2_with fail
    rw [← hW0]
    clear hW0
    refine (refIdV_any x.nm _ hn).mono ?_
    rintro e w1 ⟨rfl, hd1⟩
    have hb1 := drewN_belowU hd1
    rw [HV.out]
    obtain ⟨hc, hf⟩ := bcell hb1
    have hcase : ((x.ver < 1 ∨ (¬ x.ver < 1 ∧ x.fd < 0) ∨ (¬ x.ver < 1 ∧ ¬ x.fd < 0 ∧ (n : Int) ≤ x.fd)) ∧ (¬ 0 ≤ x.fr ∨ (0 ≤ x.fr ∧ ¬ x.fr ≤ x.to) ∨ (0 ≤ x.fr ∧ x.fr ≤ x.to ∧ ¬ x.to ≤ 268435456) ∨ (0 ≤ x.fr ∧ x.fr ≤ x.to ∧ x.to ≤ 268435456))) ∨
        ((¬ x.ver < 1 ∧ ¬ x.fd < 0 ∧ ¬ (n : Int) ≤ x.fd) ∧ (¬ 0 ≤ x.fr ∨ (0 ≤ x.fr ∧ ¬ x.fr ≤ x.to) ∨ (0 ≤ x.fr ∧ x.fr ≤ x.to ∧ ¬ x.to ≤ 268435456))) ∨
        ((¬ x.ver < 1 ∧ ¬ x.fd < 0 ∧ ¬ (n : Int) ≤ x.fd) ∧ (0 ≤ x.fr ∧ x.fr ≤ x.to ∧ x.to ≤ 268435456) ∧ (x.tot < 0 ∨ (¬ x.tot < 0 ∧ 1073741824 < x.tot))) ∨
        ((¬ x.ver < 1 ∧ ¬ x.fd < 0 ∧ ¬ (n : Int) ≤ x.fd) ∧ (0 ≤ x.fr ∧ x.fr ≤ x.to ∧ x.to ≤ 268435456) ∧ (¬ x.tot < 0 ∧ ¬ 1073741824 < x.tot)) := by omega
    rcases hcase with ⟨k1, k2⟩ | ⟨⟨k1, k2, k3⟩, k4⟩ | ⟨⟨k1, k2, k3⟩, ⟨k4, k5, k6⟩, k7⟩ | ⟨⟨k1, k2, k3⟩, ⟨k4, k5, k6⟩, ⟨k7, k8⟩⟩
    · have HE := Lib.hid (HE1.out (by omega))
      clear HE1 HE2
      rcases k1 with k1 | ⟨k1, k3⟩ | ⟨k1, k3, k4⟩ <;> rcases k2 with j1 | ⟨j1, j2⟩ | ⟨j1, j2, j3⟩ | ⟨j1, j2, j3⟩
      all_goals
        go_wp2_with fail
        go_ret
        exact ⟨ret_int HE.out.symm, below_step hb0 hb1⟩
    · have HE := Lib.hid (HE1.out (by omega))
      clear HE1 HE2
      rcases k4 with j1 | ⟨j1, j2⟩ | ⟨j1, j2, j3⟩
      all_goals
        go_wp2_with fail
        go_ret
        exact ⟨ret_int HE.out.symm, below_step hb0 hb1⟩
    · have HE := Lib.hid (HE1.out (by omega))
      clear HE1 HE2
      rcases k7 with j1 | ⟨j1, j2⟩
      all_goals
        go_wp2_with fail
        go_ret
        exact ⟨ret_int HE.out.symm, below_step hb0 hb1⟩
    · have HE := Lib.hid (HE2.out (by omega))
      clear HE1 HE2
      go_wp2_with fail
      go_ret
      exact ⟨ret_int HE.out.symm, below_step hb0 hb1⟩

set_option maxRecDepth 100000 in
theorem curValid_any (x : CurR) (s : ByteArray) (A B : Option Addr) (n c m d : Nat) (w : World) (hn : x.nm.size ≤ maxLen) (hm : n ≤ maxLen) :
    Calls Tryz.prog 29 #[.agg #[.string x.nm, .int .i64 x.ver, .int .i64 x.fd, .int .i64 x.fr, .int .i64 x.to, .int .i64 x.tot, .bool x.off], .agg #[.string s, .slice A n c, .slice B m d]] w
      fun e w' => e = .returned (.int .i64 (curE x n)) ∧ Below w.heap.size w w' := by
  obtain ⟨W0, hW0, hb0, hg1, hg0, hx0, hy0⟩ := box2 w #[.string x.nm, .int .i64 x.ver, .int .i64 x.fd, .int .i64 x.fr, .int .i64 x.to, .int .i64 x.tot, .bool x.off] 63 #[.string s, .slice A n c, .slice B m d] 25
  unfold maxLen at hm
  have HN := Lib.hid hn
  clear hn
  go_enter Tryz.func29, Tryz.ntmps29
  go_wp2_with fail
  rw [← hW0]
  clear hW0
  go_wp2_with fail
  refine (curCheck_any x n _ HN.out).mono ?_
  rintro e w1 ⟨rfl, hb1⟩
  go_wp2_with fail
  go_ret
  exact ⟨rfl, below_step hb0 hb1⟩

set_option maxRecDepth 100000 in
theorem refCurV_any (x : CurR) (s : ByteArray) (A B : Option Addr) (n c m d : Nat) (w : World) (hn : x.nm.size ≤ maxLen) (hm : n ≤ maxLen) :
    Calls Tryz.prog 34 #[.agg #[.string x.nm, .int .i64 x.ver, .int .i64 x.fd, .int .i64 x.fr, .int .i64 x.to, .int .i64 x.tot, .bool x.off], .agg #[.string s, .slice A n c, .slice B m d]] w
      fun e w' => e = .returned (.int .i64 (curE x n)) ∧ Below w.heap.size w w' := by
  obtain ⟨W0, hW0, hb0, hg1, hg0, hx0, hy0⟩ := box2 w #[.string x.nm, .int .i64 x.ver, .int .i64 x.fd, .int .i64 x.fr, .int .i64 x.to, .int .i64 x.tot, .bool x.off] 63 #[.string s, .slice A n c, .slice B m d] 25
  unfold maxLen at hm
  have HN := Lib.hid hn
  clear hn
  go_enter Tryz.func34, Tryz.ntmps34
  go_wp2_with fail
  rw [← hW0]
  clear hW0
  go_wp2_with fail
  refine (curRight_any x n _ HN.out).mono ?_
  rintro e w1 ⟨rfl, hb1⟩
  go_wp2_with fail
  go_ret
  exact ⟨rfl, below_step hb0 hb1⟩

end Go.Proofs.YtmappmeojmdekaaGreatDoor

namespace Go.Proofs.YtmappmeojmdekaaGreatDoor
open Go.RowKit

theorem new_cells (w : World) (cs : Array Value) (T : TypeId) : ∀ j u, cs.toList[j]? = some u → (w.alloc (.cells cs T)).cell? ((⟨w.heap.size, 0, none⟩ : Addr).add j) = some u := by
  intro j u hj
  have ha : (⟨w.heap.size, 0, none⟩ : Addr).add j = ⟨w.heap.size, j, none⟩ := by
    unfold Addr.add
    split
    · first | (simp; done) | (simp; omega)
    · simp
  rw [ha, World.cell?_alloc_mark w cs T (0, 0) j]
  simpa using hj

/-- v and u lie in different blocks -/
def Apart (v u : Value) : Prop := ∀ g, v.ownBlock = some g → u.ownBlock ≠ some g
theorem Apart.symm {v u : Value} (h : Apart v u) : Apart u v := fun g hu hv => h g hv hu
theorem Apart.nil (v : Value) : Apart (.slice none 0 0) v := fun g h => by simp [Value.ownBlock] at h

section
variable {P : Program}

theorem wpList_append_row {ops : Array Oper} {rest : List Oper} {o : Oper} {a : Act} {Q : Exit → Act → World → Prop} (W : World) (cs : Array Value) (hgd : o.guard = none) (s x : Operand) (t : TypeId)
    (ho : o.op = .call { callee := .builtin .append, args := #[s, x], argTypes := #[t, t] })
    (base : Nat) (e : TypeId) (i : TypeInfo) (z : Value) (size bytes : Nat) (ht : P.underlying t = some (.slice e)) (hi : P.info? e = some i) (hz : i.zero = some z)
    (hsize : i.size = size) (hby : i.bytes = bytes) (hzs : z.cells.size = size) (hsz : 0 < size)
    (v : Value) (n : Nat) (xs : List Value) (hs : a.eval s = v) (hown : W.ownsRow base e size v n xs)
    (c : Nat) (hx : a.eval x = .slice (some ⟨W.heap.size, 0, none⟩) 1 c) (hl : cs.toList.length = size) (h1 : ∀ u ∈ cs.toList, u.oneCell' = true)
    (hbytes : (n + 1) * bytes ≤ 140737488355328) (hn : n + 1 ≤ 1073741824) (hbase : base ≤ W.heap.size)
    (h : ∀ v' w', w'.ownsRow base e size v' (n + 1) (xs ++ cs.toList) → W.grownBy w' v.ownBlock → (∀ g, v'.ownBlock = some g → v.ownBlock = some g ∨ W.heap.size ≤ g) → wpList P ops Q rest (a.put o.dst v') w') :
    wpList P ops Q (o :: rest) a (W.alloc (.cells cs e)) := by
  refine wpList_append_own_at _ hgd s x t ho base e i z size bytes ht hi hz hsize hby hzs hsz v n xs hs (hown.alloc _) ⟨W.heap.size, 0, none⟩ 1 c cs.toList hx (by omega) (new_cells W cs e) h1 (by unfold maxLen; omega) hbytes (by simp; omega) ?_
  intro v' w' h2 h3 _ h5
  refine h v' w' h2 ⟨h3.os, h3.tape, h3.output, Nat.le_trans (by simp) h3.size, fun k hk hne => ?_⟩ (fun g hg => ?_)
  · exact (h3.block k (by simp; omega) hne).trans (Below.heap_alloc W _ k hk)
  · rcases h5 with h5 | h5
    · exact .inl (h5 ▸ hg)
    · rw [h5] at hg
      injection hg with hg
      right; rw [← hg]; simp
end

/-- what is kept while another row grows -/
theorem row_kept {W w' : World} {B e e' s s' n m : Nat} {v v' u : Value} {xs ys : List Value} (_hv : W.ownsRow B e s v n xs) (hu : W.ownsRow B e' s' u m ys) (ha : Apart v u) (hg : W.grownBy w' v.ownBlock)
    (hat : ∀ g, v'.ownBlock = some g → v.ownBlock = some g ∨ W.heap.size ≤ g) : w'.ownsRow B e' s' u m ys ∧ Apart v' u := by
  constructor
  · refine hu.kept hg ?_
    cases hb : u.ownBlock with
    | none => exact .inl rfl
    | some g => exact .inr (fun e => ha g e.symm hb)
  · intro g hg' hu'
    rcases hat g hg' with h | h
    · exact ha g h hu'
    · have := (hu.lt g hu').2; omega

theorem below_grown {w W w' : World} {B e s n : Nat} {v : Value} {xs : List Value} (h : Below w.heap.size w W) (hv : W.ownsRow B e s v n xs) (hB : w.heap.size ≤ B) (hg : W.grownBy w' v.ownBlock) : Below w.heap.size w w' :=
  h.grown hg h.size (fun k hk => Nat.le_trans hB (hv.lt k hk).1)

theorem own_below {W w' : World} {B e s n : Nat} {v : Value} {xs : List Value} (hv : W.ownsRow B e s v n xs) (hb : Below W.heap.size W w') : w'.ownsRow B e s v n xs := by
  refine hv.kept (row := none) ⟨hb.os, hb.tape, hb.output, hb.size, fun k hk _ => hb.block k hk⟩ ?_
  cases hv' : v.ownBlock with
  | none => exact .inl rfl
  | some g => exact .inr (by simp)

end Go.Proofs.YtmappmeojmdekaaGreatDoor

namespace Go.Proofs.YtmappmeojmdekaaGreatDoor
open Go.RowKit Go.Lib Go.Maps
set_option linter.unusedVariables false

theorem intInfo : (Tryz.prog.info? 3).map (fun i => (i.zero, i.size, i.bytes)) = some (some (.int .i64 0), 1, 8) := by kernel_rfl

def encN (k : Nat) : List Value := [.int .i64 (k : Int)]
def encZ (z : Int) : List Value := [.int .i64 z]
theorem encN_len (k : Nat) : (encN k).length = 1 := rfl
theorem encZ_len (z : Int) : (encZ z).length = 1 := rfl
def sliceLen : Value → Nat
  | .slice _ n _ => n
  | _ => 0

section
variable {w : World} {base n size : Nat} {e : TypeId} {v : Value} {xs : List Value}
theorem own_shape (h : w.ownsRow base e size v n xs) : ∃ A cap, v = .slice A n cap := by
  rcases h.2 with ⟨rfl, hx⟩ | ⟨g, cap, cur, rfl, _⟩
  · exact ⟨none, 0, by rw [hx]⟩
  · exact ⟨_, _, rfl⟩
theorem own_len (h : w.ownsRow base e size v n xs) : sliceLen v = n := by
  obtain ⟨A, cap, rfl⟩ := own_shape h; rfl
theorem own_split (h : w.ownsRow base e size v n xs) (hn : 0 < n) : ∃ g cap, v = .slice (some ⟨g, 0, none⟩) n cap ∧ base ≤ g ∧ g < w.heap.size ∧ n ≤ cap ∧ cap ≤ maxLen ∧ ∀ j u, xs[j]? = some u → w.cell? ⟨g, j, none⟩ = some u := by
  have h0 := h
  rcases h.2 with ⟨rfl, hx⟩ | ⟨g, cap, cur, rfl, hg, hh, hnc, hcm, hsz, htake⟩
  · omega
  · refine ⟨g, cap, rfl, hg, (Array.getElem?_eq_some_iff.1 hh).1, hnc, hcm, fun j u hj => ?_⟩
    have hx := h0.cells (g := g) rfl j u hj
    have ea : ((⟨g, 0, none⟩ : Addr).add j) = ⟨g, j, none⟩ := by
      unfold Addr.add
      split
      · first | (simp; done) | (simp; omega)
      · simp
    rw [ea] at hx
    exact hx
end

/-- v lies in no memory of w -/
def Fresh (w : World) (v : Value) : Prop := ∀ b off n c, v = .slice (some ⟨b, off, none⟩) n c → w.heap.size ≤ b
theorem fresh_own {w wr : World} {base n size : Nat} {e : TypeId} {v : Value} {xs : List Value} (h : wr.ownsRow base e size v n xs) (hb : w.heap.size ≤ base) : Fresh w v := by
  intro b off m c hv
  rcases h.2 with ⟨rfl, hx⟩ | ⟨g, cap, cur, rfl, hg, _⟩
  · cases hv
  · injection hv with h1 _ _
    injection h1 with h1
    injection h1 with h1 _ _
    omega

theorem int_at {w : World} {A : Option Addr} {l : List Int} (h : SlAt w 1 A (l.map encZ)) {k : Nat} (hk : k < l.length) :
    ∃ b off, A = some ⟨b, off, none⟩ ∧ b < w.heap.size ∧ w.cell? ⟨b, off + k, none⟩ = some (.int .i64 l[k]) := by
  obtain ⟨b, off, e, hb, hc⟩ := h k (encZ l[k]) (by rw [List.getElem?_map, List.getElem?_eq_getElem hk]; rfl)
  refine ⟨b, off, e, hb, ?_⟩
  have := hc 0 _ rfl
  simpa using this


end Go.Proofs.YtmappmeojmdekaaGreatDoor

namespace Go.Proofs.YtmappmeojmdekaaGreatDoor
open Go.RowKit Go.Lib Go.Maps Go.Sort
set_option linter.unusedVariables false

theorem encZ_map (l : List Int) : l.flatMap encZ = l.map (Value.int .i64) := by
  induction l with
  | nil => rfl
  | cons x l ih => rw [List.flatMap_cons, ih]; rfl
theorem compact_len (zs : List Int) : (compact zs).length ≤ zs.length := by
  unfold compact compactUpTo
  rw [List.length_map]
  exact Nat.le_trans (List.length_filter_le _ _) (by simp)
theorem grow_own {w : World} {base n size : Nat} {e : TypeId} {v : Value} {xs : List Value} {os : Array Obj} (h : w.ownsRow base e size v n xs) : (grow w os).ownsRow base e size v n xs :=
  own_below h (below_grow w.heap.size w (Nat.le_refl _) 0 os)
theorem sort_own {W0 : World} {g cap n : Nat} {e : TypeId} {zs : List Int} {w : World} (hb : Below W0.heap.size W0 w) (h : w.ownsRow W0.heap.size e 1 (.slice (some ⟨g, 0, none⟩) n cap) n (zs.flatMap encZ)) (hn : n ≤ 1000) :
    Calls Tryz.prog 75 #[.slice (some ⟨g, 0, none⟩) n cap] w fun e' w' => e' = .returned (.tuple #[]) ∧
      w'.ownsRow W0.heap.size e 1 (.slice (some ⟨g, 0, none⟩) n cap) n ((zs.mergeSort fun x y => decide (x ≤ y)).flatMap encZ) ∧ Below W0.heap.size W0 w' := by
  rw [encZ_map] at h ⊢
  obtain ⟨g', cap', e0, hg, hlt, hnc, hcm, hl, hH⟩ := holds_of_ownsRow h (by intro c; cases c)
  injection e0 with e1 _ e3
  injection e1 with e1
  injection e1 with e1
  subst e1; subst e3
  subst hl
  refine (Tryz.slices_Sort_int g 0 cap zs w hH hlt (by omega)).mono ?_
  rintro e' w' ⟨rfl, q, os, rfl⟩
  refine ⟨rfl, ?_, ?_⟩
  · have := ownsRow_putRow (q := q) (k := zs.length) h (ys := zs.mergeSort fun x y => decide (x ≤ y)) (by simp) (Nat.le_refl _)
    rw [List.take_of_length_le (by simp)] at this
    exact grow_own this
  · have h1 := below_putRow (enc := Value.int .i64) (q := q) (d := (zs.mergeSort fun x y => decide (x ≤ y)).toArray) hb hg
    have h2 := below_grow W0.heap.size _ h1.size 0 os
    exact h1.trans h2
theorem compact_own {W0 : World} {g cap n : Nat} {e : TypeId} {zs : List Int} {w : World} (hb : Below W0.heap.size W0 w) (h : w.ownsRow W0.heap.size e 1 (.slice (some ⟨g, 0, none⟩) n cap) n (zs.flatMap encZ)) (hn : n ≤ 1000) :
    Calls Tryz.prog 76 #[.slice (some ⟨g, 0, none⟩) n cap] w fun e' w' => e' = .returned (.slice (some ⟨g, 0, none⟩) (compact zs).length cap) ∧
      w'.ownsRow W0.heap.size e 1 (.slice (some ⟨g, 0, none⟩) (compact zs).length cap) (compact zs).length ((compact zs).flatMap encZ) ∧ Below W0.heap.size W0 w' := by
  rw [encZ_map] at h ⊢
  obtain ⟨g', cap', e0, hg, hlt, hnc, hcm, hl, hH⟩ := holds_of_ownsRow h (by intro c; cases c)
  injection e0 with e1 _ e3
  injection e1 with e1
  injection e1 with e1
  subst e1; subst e3
  subst hl
  have hcl := compact_len zs
  refine (Tryz.slices_Compact_int g 0 cap zs w hH (by omega) hnc).mono ?_
  rintro e' w' ⟨rfl, q, rfl⟩
  refine ⟨rfl, ?_, ?_⟩
  · have := ownsRow_putRow (q := q) (k := (compact zs).length) h (ys := compact zs ++ List.replicate (zs.length - (compact zs).length) 0) (by simp; omega) hcl
    rw [List.take_left] at this
    exact this
  · exact below_putRow hb hg

end Go.Proofs.YtmappmeojmdekaaGreatDoor

namespace Go.Proofs.YtmappmeojmdekaaGreatDoor
open Go.RowKit

section
variable {P : Program}

theorem run_copy_rows (w : World) (dT sT ty elem : TypeId) (size dLen dCap sLen sCap : Nat) (D A : Option Addr) (hu : P.underlying dT = some (.slice elem)) (i : TypeInfo) (hi : P.info? elem = some i) (hsz : i.size = size)
    (g off : Nat) (cur : List Value) (t : TypeId) (hg : w.heap[g]? = some (.cells cur.toArray t (0, 0))) (cs : List Value) (hn : cs.length = Nat.min sLen dLen * size)
    (hpos : 0 < cs.length → D = some ⟨g, off, none⟩ ∧ ∃ ad, A = some ad ∧ ∀ j v, cs[j]? = some v → w.cell? (ad.add j) = some v)
    (hfit : off + cs.length ≤ cur.length) (h1 : ∀ v ∈ cs, v.oneCell' = true) :
    ∃ w', (Builtin.copy_ #[dT, sT] ty #[.slice D dLen dCap, .slice A sLen sCap]).run P w = .ok (goInt (Nat.min sLen dLen : Nat)) w' ∧ w'.heap[g]? = some (.cells (splice cur off cs).toArray t (0, 0)) ∧ w.grownBy w' (some g) := by
  by_cases h0 : cs.length = 0
  · have hcs : cs = [] := List.eq_nil_of_length_eq_zero h0
    have hz : Nat.min sLen dLen * size = 0 := by rw [← hn]; exact h0
    refine ⟨w, ?_, by rw [hcs]; simpa [splice] using hg, World.grownBy.refl w _⟩
    have hl : ∀ a : Addr, (loadCells a 0).run P w = .ok #[] w := fun a => by
      have := run_loadCells_list (P := P) w a [] (by simp)
      simpa using this
    cases A <;> cases D <;> simp [Builtin.copy_, run_underlying hu, Builtin.lenOf, Builtin.firstCells, sizeOf, typeInfo, hi, hsz, hz, storeCells, hl]
  · obtain ⟨rfl, ad, rfl, hsrc⟩ := hpos (by omega)
    have hl := run_loadCells_list (P := P) w ad cs hsrc
    have hst := run_storeCells_at P g off t cs 0 cur.toArray w hg (by simpa using hfit) h1
    refine ⟨_, ?_, setRow_heap w g _ _ t _ hg, ⟨rfl, rfl, rfl, by simp [World.setRow], fun k _ hk => setRow_other w g k _ (fun e => hk (by rw [e]))⟩⟩
    rw [hn] at hl
    simp [Builtin.copy_, run_underlying hu, Builtin.lenOf, Builtin.firstCells, sizeOf, typeInfo, hi, hsz, hl, hst, splice]

theorem wpList_copy_rows {w : World} {ops : Array Oper} {rest : List Oper} {o : Oper} {a : Act} {Q : Exit → Act → World → Prop} (hgd : o.guard = none) (d s : Operand) (dT sT : TypeId)
    (ho : o.op = .call { callee := .builtin .copy, args := #[d, s], argTypes := #[dT, sT] }) (elem : TypeId) (size : Nat) (hu : P.underlying dT = some (.slice elem)) (i : TypeInfo) (hi : P.info? elem = some i) (hsz : i.size = size)
    (D A : Option Addr) (dLen dCap sLen sCap : Nat) (hd : a.eval d = .slice D dLen dCap) (hs : a.eval s = .slice A sLen sCap)
    (g off : Nat) (cur : List Value) (t : TypeId) (hg : w.heap[g]? = some (.cells cur.toArray t (0, 0))) (cs : List Value) (hn : cs.length = Nat.min sLen dLen * size)
    (hpos : 0 < cs.length → D = some ⟨g, off, none⟩ ∧ ∃ ad, A = some ad ∧ ∀ j v, cs[j]? = some v → w.cell? (ad.add j) = some v)
    (hfit : off + cs.length ≤ cur.length) (h1 : ∀ v ∈ cs, v.oneCell' = true)
    (h : ∀ w', w'.heap[g]? = some (.cells (splice cur off cs).toArray t (0, 0)) → w.grownBy w' (some g) → wpList P ops Q rest (a.put o.dst (goInt (Nat.min sLen dLen : Nat))) w') :
    wpList P ops Q (o :: rest) a w := by
  refine wpList_plain hgd fun K hK => ?_
  obtain ⟨w', hrun, h2, h3⟩ := run_copy_rows (P := P) w dT sT o.type elem size dLen dCap sLen sCap D A hu i hi hsz g off cur t hg cs hn hpos hfit h1
  unfold Oper.wp
  simp [execOp, ho, resolve, invoke, builtin, hd, hs, hrun, Result.andThen]
  exact hK _ _ (h w' h2 h3)

theorem run_make_rowN (t e : TypeId) (i : TypeInfo) (z : Value) (ht : P.underlying t = some (.slice e)) (hi : P.info? e = some i) (hz : i.zero = some z)
    (kl kc : IntKind) (n c : Nat) (C : Int) (hC : C = (c : Int)) (hnc : n ≤ c) (hbytes : i.bytes * c ≤ 281474976710656) (h63 : c ≤ 9223372036854775807) (w : World) :
    (Instr.makeSlice t (.int kl (n : Int)) (.int kc C)).run P w = .ok (.slice (some ⟨w.heap.size, 0, none⟩) n c) (w.alloc (.cells (madeCells z.cells (c * i.size)) e)) := by
  subst hC
  have hb : (i.bytes : Int) * (c : Int) ≤ 281474976710656 := by
    have h : ((i.bytes * c : Nat) : Int) ≤ 281474976710656 := by omega
    rwa [Int.natCast_mul] at h
  have hr := run_make (P := P) w t e i z ht hi hz kl kc n c (by omega) (by omega) hb (by omega)
  simp only [Int.toNat_natCast] at hr
  exact hr
end

/-- the cells that a slice's rows are read from, laid end to end, as a copy wants them -/
theorem src_rows {α : Type} {enc : α → List Value} {w : World} {size : Nat} (hs : ∀ x, (enc x).length = size) (hpos : 0 < size) {A : Option Addr} {l : List α} (h : SlAt w size A (l.map enc)) (hne : l ≠ []) :
    ∃ ad, A = some ad ∧ ∀ j v, (l.flatMap enc)[j]? = some v → w.cell? (ad.add j) = some v := by
  have h0 : 0 < l.length := List.length_pos_iff.2 hne
  obtain ⟨b, off, rfl, _, _⟩ := h 0 (enc l[0]) (by rw [List.getElem?_map, List.getElem?_eq_getElem h0]; rfl)
  refine ⟨_, rfl, fun j v hj => ?_⟩
  have hjl : j < (l.flatMap enc).length := (List.getElem?_eq_some_iff.1 hj).1
  rw [flat_len enc size hs] at hjl
  have hk : j / size < l.length := by rw [Nat.div_lt_iff_lt_mul hpos]; exact hjl
  obtain ⟨b', off', e, _, hc⟩ := h (j / size) (enc l[j / size]) (by rw [List.getElem?_map, List.getElem?_eq_getElem hk]; rfl)
  injection e with e
  injection e with e1 e2 _
  subst e1; subst e2
  have hm : j % size < size := Nat.mod_lt _ hpos
  have hrow : (enc l[j / size])[j % size]? = some ((enc l[j / size])[j % size]'(by rw [hs]; exact hm)) := List.getElem?_eq_getElem _
  have hf := flat_at enc size hs l (j / size) l[j / size] (List.getElem?_eq_getElem hk) (j % size) _ hrow
  rw [show j / size * size + j % size = j from Nat.div_add_mod' j size] at hf
  rw [hf] at hj
  injection hj with hj
  have := hc (j % size) _ hrow
  rw [hj] at this
  have ea : ((⟨b, off, none⟩ : Addr).add j) = ⟨b, off + j / size * size + j % size, none⟩ := by
    have hdm := Nat.div_add_mod' j size
    unfold Addr.add
    split
    · rename_i hj0; subst hj0; simp
    · simp; omega
  rw [ea]
  exact this

/-- a new row into whose head all rows of a list were copied -/
theorem own_copied {α : Type} {enc : α → List Value} {w : World} {size : Nat} (hs : ∀ x, (enc x).length = size) {base g c : Nat} {e : TypeId} {l : List α} {cur : List Value} (hb : base ≤ g) (hg : w.heap[g]? = some (.cells (splice cur 0 (l.flatMap enc)).toArray e (0, 0)))
    (hc : cur.length = c * size) (hlc : l.length ≤ c) (hcm : c ≤ maxLen) : w.ownsRow base e size (.slice (some ⟨g, 0, none⟩) l.length c) l.length (l.flatMap enc) := by
  have hf := flat_len enc size hs l
  have hle : l.length * size ≤ c * size := Nat.mul_le_mul_right _ hlc
  refine ⟨hf, .inr ⟨g, c, _, rfl, hb, hg, hlc, hcm, ?_, ?_⟩⟩
  · have := length_splice cur 0 (l.flatMap enc) (by omega)
    simp only [List.size_toArray]; omega
  · simp only [splice, List.take_zero, List.nil_append]
    rw [← hf, List.take_left]

/-- five cells of a row, stored one by one -/
theorem set_row5 {α : Type} {enc : α → List Value} (hs : ∀ x, (enc x).length = 5) (l : List α) (k : Nat) (x : α) (v0 v1 v2 v3 v4 : Value) (hx : enc x = [v0, v1, v2, v3, v4]) :
    (((((l.flatMap enc).set (k * 5) v0).set (k * 5 + 1) v1).set (k * 5 + 2) v2).set (k * 5 + 3) v3).set (k * 5 + 4) v4 = (l.set k x).flatMap enc := by
  have hf := flat_len enc 5 hs l
  have hf2 := flat_len enc 5 hs (l.set k x)
  apply List.ext_getElem?
  intro j
  by_cases hj : j < l.length * 5
  · have hj5 : j / 5 < l.length := by omega
    have hdm := Nat.div_add_mod' j 5
    have hm : j % 5 < 5 := Nat.mod_lt _ (by omega)
    have key : ∀ (m : List α) (q : Nat) (y : α), m[q]? = some y → ∀ i u, (enc y)[i]? = some u → (m.flatMap enc)[q * 5 + i]? = some u := fun m q y h => flat_at enc 5 hs m q y h
    have hR : ((l.set k x).flatMap enc)[j]? = (enc ((l.set k x)[j / 5]'(by simpa using hj5)))[j % 5]? := by
      have hrow : (enc ((l.set k x)[j / 5]'(by simpa using hj5)))[j % 5]? = some ((enc ((l.set k x)[j / 5]'(by simpa using hj5)))[j % 5]'(by rw [hs]; exact hm)) := List.getElem?_eq_getElem _
      have := key (l.set k x) (j / 5) _ (List.getElem?_eq_getElem (by simpa using hj5)) (j % 5) _ hrow
      rw [hdm] at this
      rw [this, hrow]
    have hL : (l.flatMap enc)[j]? = (enc (l[j / 5]'hj5))[j % 5]? := by
      have hrow : (enc (l[j / 5]'hj5))[j % 5]? = some ((enc (l[j / 5]'hj5))[j % 5]'(by rw [hs]; exact hm)) := List.getElem?_eq_getElem _
      have := key l (j / 5) _ (List.getElem?_eq_getElem hj5) (j % 5) _ hrow
      rw [hdm] at this
      rw [this, hrow]
    rw [hR]
    simp only [List.getElem?_set, List.length_set, hf]
    by_cases hq : j / 5 = k
    · have e : (l.set k x)[j / 5]'(by simpa using hj5) = x := by simp [hq]
      rw [e, hx]
      have hcase : j % 5 = 0 ∨ j % 5 = 1 ∨ j % 5 = 2 ∨ j % 5 = 3 ∨ j % 5 = 4 := by omega
      rcases hcase with h | h | h | h | h <;> rw [h]
      · rw [if_neg (by omega), if_neg (by omega), if_neg (by omega), if_neg (by omega), if_pos (by omega), if_pos (by omega)]; rfl
      · rw [if_neg (by omega), if_neg (by omega), if_neg (by omega), if_pos (by omega), if_pos (by omega)]; rfl
      · rw [if_neg (by omega), if_neg (by omega), if_pos (by omega), if_pos (by omega)]; rfl
      · rw [if_neg (by omega), if_pos (by omega), if_pos (by omega)]; rfl
      · rw [if_pos (by omega), if_pos (by omega)]; rfl
    · have e : (l.set k x)[j / 5]'(by simpa using hj5) = l[j / 5]'hj5 := by rw [List.getElem_set_ne (by omega)]
      rw [e, if_neg (by omega), if_neg (by omega), if_neg (by omega), if_neg (by omega), if_neg (by omega), hL]
  · rw [List.getElem?_eq_none (by simp only [List.length_set, hf]; omega), List.getElem?_eq_none (by rw [hf2, List.length_set]; omega)]

end Go.Proofs.YtmappmeojmdekaaGreatDoor

namespace Go.Proofs.YtmappmeojmdekaaGreatDoor
open Go.RowKit
set_option linter.unusedVariables false

theorem addr_add_add (a : Addr) (i j : Nat) : (a.add i).add j = a.add (i + j) := by
  unfold Addr.add
  by_cases hi : i = 0 <;> by_cases hj : j = 0 <;> simp [hi, hj, Nat.add_assoc]

/-- the address at which a part of a slice begins -/
def subAddr (A : Option Addr) (cap k size : Nat) : Option Addr := if cap = k then A else A.map (fun x => x.add (k * size))

theorem subAddr_at {W : World} {size : Nat} {A : Option Addr} {rows : List (List Value)} {cap k : Nat} (h : SlAt W size A rows) (hc : rows.length ≤ cap) : SlAt W size (subAddr A cap k size) (rows.drop k) := by
  intro j row hj
  rw [List.getElem?_drop] at hj
  obtain ⟨b, off, rfl, hb, hcell⟩ := h (k + j) row hj
  have hlt : k + j < rows.length := (List.getElem?_eq_some_iff.1 hj).1
  refine ⟨b, off + k * size, ?_, hb, fun i u hu => ?_⟩
  · unfold subAddr
    rw [if_neg (by omega)]
    simp only [Option.map_some, Addr.add]
    split
    · rename_i hz; rw [hz]; rfl
    · rfl
  · have := hcell i u hu
    have e : off + (k + j) * size + i = off + k * size + j * size + i := by rw [Nat.add_mul]; omega
    rw [e] at this
    exact this
theorem subAddr_own {g cap k size : Nat} (h : k < cap) : subAddr (some ⟨g, 0, none⟩) cap k size = some ⟨g, k * size, none⟩ := by
  unfold subAddr
  rw [if_neg (by omega)]
  simp only [Option.map_some, Addr.add]
  split
  · rename_i hz; rw [hz]
  · simp

/-- cells stored one by one, from a place on -/
def setAll : List Value → Nat → List Value → List Value
  | xs, _, [] => xs
  | xs, k, v :: vs => setAll (xs.set k v) (k + 1) vs

theorem setAll_len : ∀ (vs xs : List Value) (k : Nat), (setAll xs k vs).length = xs.length
  | [], xs, k => rfl
  | v :: vs, xs, k => by rw [setAll, setAll_len vs, List.length_set]
theorem setAll_get : ∀ (vs xs : List Value) (k : Nat), k + vs.length ≤ xs.length → ∀ j, (setAll xs k vs)[j]? = if k ≤ j ∧ j < k + vs.length then vs[j - k]? else xs[j]?
  | [], xs, k, _, j => by simp [setAll]; omega
  | v :: vs, xs, k, h, j => by
    simp only [List.length_cons] at h
    rw [setAll, setAll_get vs (xs.set k v) (k + 1) (by rw [List.length_set]; omega) j]
    rw [List.getElem?_set]
    by_cases h1 : k = j
    · subst h1
      rw [if_neg (by omega), if_pos rfl, if_pos (by omega), if_pos (by simp)]
      simp
    · by_cases h2 : k + 1 ≤ j ∧ j < k + 1 + vs.length
      · rw [if_pos h2, if_pos (by simp; omega)]
        rw [show j - k = (j - (k + 1)) + 1 by omega, List.getElem?_cons_succ]
      · rw [if_neg h2, if_neg h1, if_neg (by simp; omega)]

theorem set_row {α : Type} {enc : α → List Value} {size : Nat} (hs : ∀ x, (enc x).length = size) (hp : 0 < size) (l : List α) (k : Nat) (hk : k < l.length) (x : α) : setAll (l.flatMap enc) (k * size) (enc x) = (l.set k x).flatMap enc := by
  have hf := flat_len enc size hs l
  have hf2 := flat_len enc size hs (l.set k x)
  have hle : (k + 1) * size ≤ l.length * size := Nat.mul_le_mul_right _ hk
  rw [Nat.succ_mul] at hle
  apply List.ext_getElem?
  intro j
  rw [setAll_get _ _ _ (by rw [hs, hf]; omega), hs]
  by_cases hj : j < l.length * size
  · have hq : j / size < l.length := by rw [Nat.div_lt_iff_lt_mul hp]; exact hj
    have hdm := Nat.div_add_mod' j size
    have hm : j % size < size := Nat.mod_lt _ hp
    have row : ∀ (m : List α) (q : Nat) (y : α), m[q]? = some y → ∀ i, i < size → (m.flatMap enc)[q * size + i]? = (enc y)[i]? := fun m q y h i hi => by
      have hrow : (enc y)[i]? = some ((enc y)[i]'(by rw [hs]; exact hi)) := List.getElem?_eq_getElem _
      rw [flat_at enc size hs m q y h i _ hrow, hrow]
    by_cases hc : k * size ≤ j ∧ j < k * size + size
    · rw [if_pos hc]
      have hjk : j = k * size + (j - k * size) := by omega
      rw [hjk, row (l.set k x) k x (by rw [List.getElem?_set_self (by omega)]) (j - k * size) (by omega)]
      rw [show k * size + (j - k * size) - k * size = j - k * size by omega]
    · rw [if_neg hc]
      have hqk : j / size ≠ k := by
        intro e
        apply hc
        rw [e] at hdm
        omega
      have h1 := row l (j / size) l[j / size] (List.getElem?_eq_getElem hq) (j % size) hm
      have h2 := row (l.set k x) (j / size) l[j / size] (by rw [List.getElem?_set_ne (by omega), List.getElem?_eq_getElem hq]) (j % size) hm
      rw [hdm] at h1 h2
      rw [h1, h2]
  · rw [if_neg (by omega), List.getElem?_eq_none (by rw [hf]; omega), List.getElem?_eq_none (by rw [hf2, List.length_set]; omega)]

/-- a row of cells of one block, stored one by one -/
def storeRow (w : World) (g : Nat) : Nat → List Value → World
  | _, [] => w
  | k, v :: vs => storeRow (w.setCell ⟨g, k, none⟩ v) g (k + 1) vs
theorem storeRow_low {g : Nat} : ∀ (vs : List Value) (w : World) (k i : Nat), i < k → (storeRow w g k vs).cell? ⟨g, i, none⟩ = w.cell? ⟨g, i, none⟩
  | [], w, k, i, _ => rfl
  | v :: vs, w, k, i, h => by
    rw [storeRow, storeRow_low vs _ (k + 1) i (by omega)]
    exact World.cell?_setCell_other w ⟨g, k, none⟩ ⟨g, i, none⟩ v (by intro x; injection x; omega)
theorem storeRow_cell {g : Nat} : ∀ (vs : List Value) (w : World) (k : Nat), (∀ j, j < vs.length → ∃ u, w.cell? ⟨g, k + j, none⟩ = some u) → ∀ j, j < vs.length → (storeRow w g k vs).cell? ⟨g, k + j, none⟩ = vs[j]?
  | [], w, k, _, j, hj => by simp at hj
  | v :: vs, w, k, h, j, hj => by
    rw [storeRow]
    have h0 : (w.setCell ⟨g, k, none⟩ v).cell? ⟨g, k, none⟩ = some v := by
      obtain ⟨u, hu⟩ := h 0 (by simp)
      exact World.cell?_setCell_same w ⟨g, k, none⟩ v hu
    cases j with
    | zero =>
      show (storeRow (w.setCell ⟨g, k, none⟩ v) g (k + 1) vs).cell? ⟨g, k, none⟩ = some v
      rw [storeRow_low vs _ (k + 1) k (by omega), h0]
    | succ j =>
      have ih := storeRow_cell (g := g) vs (w.setCell ⟨g, k, none⟩ v) (k + 1) (fun i hi => by
        obtain ⟨u, hu⟩ := h (i + 1) (by simp; omega)
        refine ⟨u, ?_⟩
        rw [World.cell?_setCell_other w ⟨g, k, none⟩ ⟨g, k + 1 + i, none⟩ v (by intro x; injection x; omega)]
        rw [show k + 1 + i = k + (i + 1) by omega]
        exact hu) j (by simpa using hj)
      rw [show k + (j + 1) = k + 1 + j by omega, ih]
      rfl
theorem storeRow_below {B g : Nat} {W : World} (hB : B ≤ g) : ∀ (vs : List Value) (w : World) (k : Nat), Below B W w → Below B W (storeRow w g k vs)
  | [], w, k, h => h
  | v :: vs, w, k, h => storeRow_below hB vs _ (k + 1) (h.setCell (p := ⟨g, k, none⟩) hB v)
theorem storeRow_heap {g : Nat} : ∀ (vs : List Value) (w : World) (k b : Nat), b ≠ g → (storeRow w g k vs).heap[b]? = w.heap[b]?
  | [], w, k, b, _ => rfl
  | v :: vs, w, k, b, h => by
    rw [storeRow, storeRow_heap vs _ (k + 1) b h]
    exact Below.heap_setCell w ⟨g, k, none⟩ v b h
theorem storeRow_far {g : Nat} (vs : List Value) (w : World) (k : Nat) {b o : Nat} (h : b ≠ g) : (storeRow w g k vs).cell? ⟨b, o, none⟩ = w.cell? ⟨b, o, none⟩ := World.cell?_of_block (a := ⟨b, o, none⟩) (storeRow_heap vs w k b h)
theorem storeRow_size {g : Nat} : ∀ (vs : List Value) (w : World) (k : Nat), (storeRow w g k vs).heap.size = w.heap.size
  | [], w, k => rfl
  | v :: vs, w, k => by rw [storeRow, storeRow_size vs]; simp [World.setCell]
theorem storeRow_frozen {g : Nat} (a : Addr) : ∀ (vs : List Value) (w : World) (k : Nat), (storeRow w g k vs).frozen? a = w.frozen? a
  | [], w, k => rfl
  | v :: vs, w, k => by rw [storeRow, storeRow_frozen a vs]; exact World.frozen?_setCell _ _ _ _
theorem storeRow_own {B g n : Nat} {W : World} {T : TypeId} {s : Nat} : ∀ (vs : List Value) (w : World) (k : Nat) (xs : List Value) (c : Nat), w.ownsRow B T s (.slice (some ⟨g, 0, none⟩) n c) n xs → (storeRow w g k vs).ownsRow B T s (.slice (some ⟨g, 0, none⟩) n c) n (setAll xs k vs)
  | [], w, k, xs, c, h => h
  | v :: vs, w, k, xs, c, h => storeRow_own (W := W) vs _ (k + 1) _ c (h.stored k v).1

theorem run_make_rowZ {P : Program} (t e : TypeId) (i : TypeInfo) (z : Value) (ht : P.underlying t = some (.slice e)) (hi : P.info? e = some i) (hz : i.zero = some z)
    (kl kc : IntKind) (n c : Nat) (N C : Int) (hN : N = (n : Int)) (hC : C = (c : Int)) (hnc : n ≤ c) (hbytes : i.bytes * c ≤ 281474976710656) (h63 : c ≤ 9223372036854775807) (w : World) :
    (Instr.makeSlice t (.int kl N) (.int kc C)).run P w = .ok (.slice (some ⟨w.heap.size, 0, none⟩) n c) (w.alloc (.cells (madeCells z.cells (c * i.size)) e)) := by
  subst hN
  exact run_make_rowN t e i z ht hi hz kl kc n c C hC hnc hbytes h63 w

theorem all_take' {α : Type} (l : List α) (p : α → Bool) {k : Nat} (h : k < l.length) : (l.take (k + 1)).all p = ((l.take k).all p && p l[k]) := by
  rw [List.take_succ_eq_append_getElem h, List.all_append]; simp
theorem all_full' {α : Type} (l : List α) (p : α → Bool) {k : Nat} (h : ¬ k < l.length) : (l.take k).all p = l.all p := by
  rw [List.take_of_length_le (by omega)]
theorem all_false' {α : Type} (l : List α) (p : α → Bool) {k : Nat} (h : k < l.length) (hp : p l[k] = false) : l.all p = false := by
  rw [List.all_eq_false]; exact ⟨l[k], List.getElem_mem h, by simp [hp]⟩

theorem islen' {α : Type} {enc : α → List Value} {size : Nat} {w : World} {v : Value} {l : List α} (h : IsSl w size v (l.map enc)) : ∃ A c, v = .slice A l.length c ∧ l.length ≤ c ∧ c ≤ maxLen ∧ SlAt w size A (l.map enc) := by
  obtain ⟨A, c, e, h1, h2, h3⟩ := h
  rw [List.length_map] at e h1
  exact ⟨A, c, e, h1, h2, h3⟩

end Go.Proofs.YtmappmeojmdekaaGreatDoor

namespace Go.Proofs.YtmappmeojmdekaaGreatDoor
open Go.RowKit
set_option linter.unusedVariables false

/-- block g holds these cells, none frozen -/
def Blk (w : World) (g : Nat) (T : TypeId) (cur : List Value) : Prop := w.heap[g]? = some (.cells cur.toArray T (0, 0))

section
variable {w w' : World} {g : Nat} {T : TypeId} {cur : List Value}
theorem Blk.cell (h : Blk w g T cur) (j : Nat) : w.cell? ⟨g, j, none⟩ = cur[j]? := by unfold Blk at h; simp [World.cell?, h]
theorem Blk.free (h : Blk w g T cur) (j : Nat) : w.frozen? ⟨g, j, none⟩ = false := frozen_of_row w g j _ T h
theorem Blk.new (w : World) (Z : Array Value) (T : TypeId) : Blk (w.alloc (.cells Z T)) w.heap.size T Z.toList := by unfold Blk; rw [heap_alloc_new]
theorem Blk.below (h : Blk w g T cur) {B : Nat} (hb : Below B w w') (hg : g < B) : Blk w' g T cur := (hb.block g hg).trans h
theorem Blk.set (h : Blk w g T cur) (k : Nat) (v : Value) : Blk (w.setCell ⟨g, k, none⟩ v) g T (cur.set k v) := by
  unfold Blk at *
  rw [heap_setCell_same w g k _ T v h]
  simp
theorem Blk.store (vs : List Value) : ∀ {w : World} {cur : List Value} (k : Nat), Blk w g T cur → Blk (storeRow w g k vs) g T (setAll cur k vs) := by
  induction vs with
  | nil => intro w cur k h; exact h
  | cons v vs ih => intro w cur k h; exact ih (k + 1) (h.set k v)
theorem Blk.other (h : Blk w g T cur) {b k : Nat} (hn : g ≠ b) (v : Value) : Blk (w.setCell ⟨b, k, none⟩ v) g T cur := by
  unfold Blk at *
  rw [Below.heap_setCell w ⟨b, k, none⟩ v g hn]
  exact h
theorem Blk.alloc (h : Blk w g T cur) (o : Obj) : Blk (w.alloc o) g T cur := by
  unfold Blk at *
  exact blk_alloc h o
theorem Blk.drew (h : Blk w g T cur) : Blk w.drew g T cur := h
theorem Blk.new' {W : World} {k : Nat} (hk : k = W.heap.size) (Z : Array Value) (T : TypeId) {zs : List Value} (hz : Z.toList = zs) : Blk (W.alloc (.cells Z T)) k T zs := by subst hk; subst hz; unfold Blk; rw [heap_alloc_new]
theorem far_cell {b g : Nat} (hn : b ≠ g) (W : World) (k : Nat) (v : Value) (j : Nat) : (W.setCell ⟨g, k, none⟩ v).cell? ⟨b, j, none⟩ = W.cell? ⟨b, j, none⟩ :=
  World.cell?_of_block (a := ⟨b, j, none⟩) (Below.heap_setCell W ⟨g, k, none⟩ v b hn)
theorem Blk.arr (h : Blk w g T cur) (j : Nat) : w.cell? ⟨g, j, none⟩ = cur.toArray[j]? := by rw [h.cell]; simp
theorem Blk.lt (h : Blk w g T cur) : g < w.heap.size := (Array.getElem?_eq_some_iff.1 h).1
/-- a block that is all rows of a list -/
theorem Blk.isSl {α : Type} {enc : α → List Value} {size : Nat} (hs : ∀ x, (enc x).length = size) {l : List α} {n : Nat} (h : Blk w g T (l.flatMap enc)) (hn : l.length = n) (hm : n ≤ maxLen) : IsSl w size (.slice (some ⟨g, 0, none⟩) n n) (l.map enc) := by
  refine IsSl.mk (fun k row hk => ?_) (by simpa using hn) (Nat.le_refl _) hm
  obtain ⟨x, hx, rfl⟩ := rows_at enc hk
  refine ⟨g, 0, rfl, h.lt, fun j u hu => ?_⟩
  have e : 0 + k * size + j = k * size + j := by omega
  rw [e, h.cell]
  exact flat_at enc size hs l k x hx j u hu
end

theorem splice_head {A Z : List Value} : splice Z 0 A = A ++ Z.drop A.length := by simp [splice]
theorem splice_at {X R B : List Value} (h : R.length = B.length) : splice (X ++ R) X.length B = X ++ B := by
  simp [splice, List.drop_append]
  omega
theorem splice_two {A B Z : List Value} (h : Z.length = A.length + B.length) : splice (splice Z 0 A) A.length B = A ++ B := by
  rw [splice_head, splice_at (by rw [List.length_drop]; omega)]
theorem setAll_mid : ∀ (vs A R : List Value), vs.length ≤ R.length → setAll (A ++ R) A.length vs = A ++ (vs ++ R.drop vs.length)
  | [], A, R, _ => by simp [setAll]
  | v :: vs, A, [], h => by simp at h
  | v :: vs, A, r :: R, h => by
    have e : (A ++ r :: R).set A.length v = (A ++ [v]) ++ R := by simp
    have ih := setAll_mid vs (A ++ [v]) R (by simpa using h)
    rw [setAll, e]
    rw [List.length_append, List.length_cons, List.length_nil] at ih
    rw [ih]
    simp
theorem splice_three {A C B Z : List Value} (h : Z.length = A.length + C.length + B.length) : splice (setAll (splice Z 0 A) A.length C) (A.length + C.length) B = A ++ C ++ B := by
  rw [splice_head, setAll_mid _ _ _ (by rw [List.length_drop]; omega)]
  have e : A ++ (C ++ List.drop C.length (List.drop A.length Z)) = (A ++ C) ++ List.drop C.length (List.drop A.length Z) := by simp
  have e2 : A.length + C.length = (A ++ C).length := by simp
  rw [e, e2, splice_at (by rw [List.length_drop, List.length_drop]; omega)]

theorem SlAt.take {w : World} {size : Nat} {A : Option Addr} {rows : List (List Value)} (h : SlAt w size A rows) (n : Nat) : SlAt w size A (rows.take n) := by
  intro k row hk
  rw [List.getElem?_take] at hk
  split at hk
  · exact h k row hk
  · simp at hk

section
variable {P : Program}
/-- copy of all rows of a list to a place of a block that is known whole -/
theorem wpList_copy_to {α : Type} {enc : α → List Value} {w : World} {ops : Array Oper} {rest : List Oper} {o : Oper} {a : Act} {Q : Exit → Act → World → Prop} (hgd : o.guard = none) (d s : Operand) (dT sT : TypeId)
    (ho : o.op = .call { callee := .builtin .copy, args := #[d, s], argTypes := #[dT, sT] }) (elem : TypeId) (size : Nat) (hu : P.underlying dT = some (.slice elem)) (i : TypeInfo) (hi : P.info? elem = some i) (hsz : i.size = size)
    (hs : ∀ x, (enc x).length = size) (hp : 0 < size) (hone : ∀ x, ∀ u ∈ enc x, u.oneCell' = true)
    (D A : Option Addr) (dLen dCap sLen sCap : Nat) (hd : a.eval d = .slice D dLen dCap) (hsv : a.eval s = .slice A sLen sCap)
    (g off : Nat) (cur : List Value) (t : TypeId) (hg : Blk w g t cur) (l : List α) (hl : SlAt w size A (l.map enc)) (hn : l.length = Nat.min sLen dLen) (hD : 0 < l.length → D = some ⟨g, off, none⟩) (hfit : off + l.length * size ≤ cur.length)
    (h : ∀ w', Blk w' g t (splice cur off (l.flatMap enc)) → w.grownBy w' (some g) → wpList P ops Q rest (a.put o.dst (goInt (Nat.min sLen dLen : Nat))) w') :
    wpList P ops Q (o :: rest) a w := by
  have hf := flat_len enc size hs l
  refine wpList_copy_rows hgd d s dT sT ho elem size hu i hi hsz D A dLen dCap sLen sCap hd hsv g off cur t hg (l.flatMap enc) (by rw [hf, hn]) (fun hpos => ?_) (by rw [hf]; exact hfit) (fun v hv => ?_) h
  · have hl0 : 0 < l.length := by
      rcases Nat.eq_zero_or_pos l.length with e | e
      · rw [hf, e] at hpos; simp at hpos
      · exact e
    exact ⟨hD hl0, src_rows hs hp hl (List.length_pos_iff.1 hl0)⟩
  · rw [List.mem_flatMap] at hv
    obtain ⟨y, _, hy⟩ := hv
    exact hone y v hy
end

end Go.Proofs.YtmappmeojmdekaaGreatDoor

namespace Go.Proofs.YtmappmeojmdekaaGreatDoor
open Go.RowKit Go.Lib Go.Maps
attribute [local go_sem] after_cell
set_option linter.unusedVariables false

set_option maxRecDepth 100000 in
theorem len64_zero (w : World) : Calls Tryz.prog 119 #[.int .u64 0] w fun e w' => e = .returned (.int .i64 0) ∧ w = w' := by
  go_enter Tryz.func119, Tryz.ntmps119
  go_wp2
  go_ret
  exact ⟨ret_int (by kernel_rfl), rfl⟩

set_option maxRecDepth 100000 in
theorem bitsLen_zero (w : World) : Calls Tryz.prog 92 #[.int .u64 0] w fun e w' => e = .returned (.int .i64 0) ∧ w = w' := by
  go_enter Tryz.func92, Tryz.ntmps92
  go_wp2_with fail
  refine (len64_zero _).mono ?_
  rintro e w' ⟨rfl, rfl⟩
  go_wp2
  go_ret
  exact ⟨rfl, rfl⟩

set_option maxRecDepth 100000 in
theorem insertion_nil (w : World) : Calls Tryz.prog 109 #[.slice none 0 0, .int .i64 0, .int .i64 0] w fun e w' => e = .returned (.tuple #[]) ∧ w = w' := by
  go_enter Tryz.func109, Tryz.ntmps109
  go_wp2_with fail
  go_loopw [6] (fun i wr => i = .int .i64 1 ∧ wr = w) (fun _ _ => 0)
  case atStart => exact ⟨rfl, rfl⟩
  case round =>
    obtain ⟨rfl, rfl⟩ := hrel
    go_wp2_with fail
    go_end0
    exact ⟨rfl, rfl⟩

set_option maxRecDepth 100000 in
theorem pdq_nil (w : World) : Calls Tryz.prog 91 #[.slice none 0 0, .int .i64 0, .int .i64 0, .int .i64 0] w fun e w' => e = .returned (.tuple #[]) ∧ w = w' := by
  go_enter Tryz.func91, Tryz.ntmps91
  go_wp2_with fail
  go_loopw [1, 2, 3, 8, 9] (fun a b c d e wr => a = .int .i64 0 ∧ b = .int .i64 0 ∧ c = .int .i64 0 ∧ wr = w) (fun _ _ _ _ _ _ => 0)
  case atStart => exact ⟨rfl, rfl, rfl, rfl⟩
  case round =>
    obtain ⟨rfl, rfl, rfl, rfl⟩ := hrel
    go_wp2_with fail
    refine (insertion_nil _).mono ?_
    rintro e w' ⟨rfl, rfl⟩
    go_wp2_with fail
    exact bodyPost_ret (results_none (by kernel_rfl) _ _ _) rfl ⟨rfl, rfl⟩

set_option maxRecDepth 100000 in
theorem sort_nil (w : World) : Calls Tryz.prog 75 #[.slice none 0 0] w fun e w' => e = .returned (.tuple #[]) ∧ w = w' := by
  go_enter Tryz.func75, Tryz.ntmps75
  go_wp2_with fail
  refine (bitsLen_zero _).mono ?_
  rintro e w' ⟨rfl, rfl⟩
  go_wp2_with fail
  refine (pdq_nil _).mono ?_
  rintro e w' ⟨rfl, rfl⟩
  go_wp2_with fail
  go_end0
  exact ⟨rfl, rfl⟩

set_option maxRecDepth 100000 in
theorem compact_nil (w : World) : Calls Tryz.prog 76 #[.slice none 0 0] w fun e w' => e = .returned (.slice none 0 0) ∧ w = w' := by
  go_enter Tryz.func76, Tryz.ntmps76
  go_wp2_with fail
  go_ret
  exact ⟨rfl, rfl⟩

end Go.Proofs.YtmappmeojmdekaaGreatDoor

namespace Go.Proofs.YtmappmeojmdekaaGreatDoor
open Go.RowKit Go.Lib Go.Maps
attribute [local go_sem] after_cell
set_option linter.unusedVariables false

theorem Blk.grow {w w' : World} {g : Nat} {T : TypeId} {cur : List Value} {row : Option Nat} (h : Blk w g T cur) (hg : w.grownBy w' row) (hne : row ≠ some g) : Blk w' g T cur := by
  unfold Blk at *
  rw [hg.block g (Array.getElem?_eq_some_iff.1 h).1 (fun e => hne e.symm)]
  exact h

theorem sl_int {w : World} {g n c : Nat} {l : List Int} (h : IsSl w 1 (.slice (some ⟨g, 0, none⟩) n c) (l.map encZ)) {k : Nat} (hk : k < l.length) : g < w.heap.size ∧ w.cell? ⟨g, k, none⟩ = some (.int .i64 l[k]) := by
  obtain ⟨A, c', hv, _, _, hsl⟩ := h
  injection hv with h1 h2 h3
  subst h1
  obtain ⟨b, off, e, hb, hc⟩ := int_at hsl hk
  injection e with e
  injection e with e1 e2 _
  subst e1; subst e2
  rw [Nat.zero_add] at hc
  exact ⟨hb, hc⟩

set_option maxRecDepth 100000 in
set_option maxHeartbeats 12800000 in
theorem curNext_any (l : List CurR) (v : Value) (t : Int) (w : World) (hL : IsSl w 7 v (l.map CurR.cells)) (hlen : l.length ≤ 100) (hU : CurIn l) (h0 : 0 ≤ t) (h1 : t ≤ 268435456) :
    Calls Tryz.prog 59 #[v, .int .i64 t] w fun e w' => e = .returned (.int .i64 (curA l t)) ∧ Below w.heap.size w w' := by
  have HIS := Lib.hid hL
  have HFOUND := Lib.hid (fun k hk h hd => nextP_of (cur_found (l := l) (t := t) hU (k := k) hk h hd))
  have HEND := Lib.hid (fun h => nextP_of (cur_end (l := l) (t := t) h))
  have HTOP : Hid (∀ x ∈ curL l t, 0 ≤ x ∧ x ≤ 268435456) := fun x hx => by
    obtain ⟨c, hc, _, h2, h3⟩ := timesU_mem.1 (curL_mem.1 hx)
    have := hU c hc
    omega
  have HTL := Lib.hid (fun k j => timesK_len l t k j)
  have HT0 := Lib.hid (fun (k : Nat) (h : k < l.length) => timesK_one (t := t) h)
  have HT1 := Lib.hid (fun (k : Nat) (h : k < l.length) => timesK_two (t := t) h)
  have HT2 := Lib.hid (fun (k : Nat) (h : k < l.length) => timesK_next (t := t) h)
  have HTF := Lib.hid (timesK_full l t)
  obtain ⟨A, c, rfl, hlc, hcm, hsl⟩ := hL
  rw [List.length_map] at hlc
  unfold maxLen at hcm
  simp only [List.length_map] at HIS ⊢
  obtain ⟨i1, hi, hz0, hz1, hz2⟩ := info_parts intInfo
  clear hU h0 h1
  go_enter Tryz.func59, Tryz.ntmps59
  go_wp2_with fail
  go_loopw [5, 14] (fun y i wr => ∃ k : Nat, k ≤ l.length ∧ i = .int .i64 k ∧ Below w.heap.size w wr ∧ wr.ownsRow w.heap.size 3 1 y (timesK l t k 0).length ((timesK l t k 0).flatMap encZ)) (fun _ i _ => l.length - (intOf i).toNat)
  case atStart => exact ⟨0, by omega, rfl, Below.refl _ _, by rw [timesK_zero]; exact World.ownsRow_nil _ _ _ _⟩
  case round =>
    obtain ⟨k, hk, rfl, hbw, hy⟩ := hrel
    by_cases hlt : k < l.length
    · have hki : (k : Int) < (l.length : Int) := by omega
      obtain ⟨b, off, rfl, hb, c0, c1, c2, c3, c4, c5, c6⟩ := cur_at (hsl.below hbw) hlt
      have hT0 := Lib.hid (HT0.out k hlt)
      have hT1 := Lib.hid (HT1.out k hlt)
      have hT2 := Lib.hid (HT2.out k hlt)
      generalize l[k] = x at *
      obtain ⟨xnm, xver, xfd, xfr, xto, xtot, xoff⟩ := x
      simp only at *
      have x0 : ∀ w, (Instr.index 101 (.agg #[.int .i64 xfr, .int .i64 xto]) (.int .i64 0)).run Tryz.prog w = .ok (.int .i64 xfr) w := fun _ => by kernel_rfl
      have x1 : ∀ w, (Instr.index 101 (.agg #[.int .i64 xfr, .int .i64 xto]) (.int .i64 1)).run Tryz.prog w = .ok (.int .i64 xto) w := fun _ => by kernel_rfl
      obtain ⟨W1, hW1, hb1, hg1, hx1⟩ := box1 wr #[.string xnm, .int .i64 xver, .int .i64 xfd, .int .i64 xfr, .int .i64 xto, .int .i64 xtot, .bool xoff] 63
      have hB1 : Blk W1 wr.heap.size 63 [.string xnm, .int .i64 xver, .int .i64 xfd, .int .i64 xfr, .int .i64 xto, .int .i64 xtot, .bool xoff] := by rw [hW1]; exact Blk.new' rfl _ _ rfl
      have hy1 : W1.ownsRow w.heap.size 3 1 _ _ _ := own_below hy hb1
      have hap : ∀ g, (Value.ownBlock _) = some g → g ≠ wr.heap.size := fun g hg => by have := (hy.lt g hg).2; omega
      have hbw1 := below_step hbw hb1
      clear hy
      go_wp2_with fail
      rw [← hW1]
      clear hW1 hb1 hbw hb c0 c1 c2 c3 c4 c5 c6
      generalize wr.heap.size = gr at *
      generalize W1 = wm at *
      go_loopw [5, 25] (fun y i wx => ∃ j : Nat, j ≤ 2 ∧ i = .int .i64 j ∧ Below w.heap.size w wx ∧ wx.ownsRow w.heap.size 3 1 y (timesK l t k j).length ((timesK l t k j).flatMap encZ) ∧ Blk wx gr 63 [.string xnm, .int .i64 xver, .int .i64 xfd, .int .i64 xfr, .int .i64 xto, .int .i64 xtot, .bool xoff] ∧ (∀ g, y.ownBlock = some g → g ≠ gr)) (fun _ i _ => 2 - (intOf i).toNat)
      case atStart => exact ⟨0, by omega, rfl, hbw1, hy1, hB1, hap⟩
      case round =>
        obtain ⟨j, hj, rfl, hbx, hyx, hBx, hapx⟩ := hrel
        have hln := HTL.out k j
        have hglt := hBx.lt
        have hxx : ∀ q, wr.cell? ⟨gr, q, none⟩ = (#[.string xnm, .int .i64 xver, .int .i64 xfd, .int .i64 xfr, .int .i64 xto, .int .i64 xtot, .bool xoff] : Array Value)[q]? := fun q => hBx.arr q
        by_cases hj2 : j < 2
        · have hjj : j = 0 ∨ j = 1 := by omega
          clear hj hj2
          rcases hjj with rfl | rfl
          · cases xoff with
            | true =>
              have H : Hid (timesK l t k 1 = timesK l t k 0) := by unfold Hid; rw [hT0.out, if_neg (by simp), List.append_nil]
              go_wp2_with fail
              go_roundw
              case measure => simp [intOf]
              case rel => exact ⟨1, by omega, by go_num, hbx, by rw [H.out]; exact hyx, hBx, hapx⟩
            | false =>
              by_cases ha : t < xfr
              · have H : Hid (timesK l t k 1 = timesK l t k 0 ++ [xfr]) := by unfold Hid; rw [hT0.out, if_pos ⟨rfl, ha⟩]
                go_wp2_with (at_builtin; refine wpList_append_row _ _ rfl (.tmp 36) (.tmp 38) _ rfl w.heap.size 3 i1 _ 1 8 Tryz.underlying57 hi hz0 hz1 hz2 rfl (by decide) _ _ _ rfl hyx _ rfl rfl (by intro u hu; simp at hu; rcases hu with rfl; rfl) (by omega) (by omega) hbx.size ?_; intro v' w2 hown2 hgrow hblk; have hb2 := below_grown hbx hyx (Nat.le_refl _) hgrow)
                rw [show ∀ x : Value, #[x].toList = [x] from fun _ => rfl] at hown2
                go_roundw
                case measure => simp [intOf]
                case rel => exact ⟨1, by omega, by go_num, hb2, by rw [H.out, List.length_append, List.flatMap_append]; exact hown2, hBx.grow hgrow (fun e => hapx _ e rfl), fun g hg e => by subst e; rcases hblk _ hg with h | h; exact hapx _ h rfl; omega⟩
              · have H : Hid (timesK l t k 1 = timesK l t k 0) := by unfold Hid; rw [hT0.out, if_neg (fun h => ha h.2), List.append_nil]
                go_wp2_with fail
                go_roundw
                case measure => simp [intOf]
                case rel => exact ⟨1, by omega, by go_num, hbx, by rw [H.out]; exact hyx, hBx, hapx⟩
          · cases xoff with
            | true =>
              have H : Hid (timesK l t k 2 = timesK l t k 1) := by unfold Hid; rw [hT1.out, if_neg (by simp), List.append_nil]
              go_wp2_with fail
              go_roundw
              case measure => simp [intOf]
              case rel => exact ⟨2, by omega, by go_num, hbx, by rw [H.out]; exact hyx, hBx, hapx⟩
            | false =>
              by_cases ha : t < xto
              · have H : Hid (timesK l t k 2 = timesK l t k 1 ++ [xto]) := by unfold Hid; rw [hT1.out, if_pos ⟨rfl, ha⟩]
                go_wp2_with (at_builtin; refine wpList_append_row _ _ rfl (.tmp 36) (.tmp 38) _ rfl w.heap.size 3 i1 _ 1 8 Tryz.underlying57 hi hz0 hz1 hz2 rfl (by decide) _ _ _ rfl hyx _ rfl rfl (by intro u hu; simp at hu; rcases hu with rfl; rfl) (by omega) (by omega) hbx.size ?_; intro v' w2 hown2 hgrow hblk; have hb2 := below_grown hbx hyx (Nat.le_refl _) hgrow)
                rw [show ∀ x : Value, #[x].toList = [x] from fun _ => rfl] at hown2
                go_roundw
                case measure => simp [intOf]
                case rel => exact ⟨2, by omega, by go_num, hb2, by rw [H.out, List.length_append, List.flatMap_append]; exact hown2, hBx.grow hgrow (fun e => hapx _ e rfl), fun g hg e => by subst e; rcases hblk _ hg with h | h; exact hapx _ h rfl; omega⟩
              · have H : Hid (timesK l t k 2 = timesK l t k 1) := by unfold Hid; rw [hT1.out, if_neg (fun h => ha h.2), List.append_nil]
                go_wp2_with fail
                go_roundw
                case measure => simp [intOf]
                case rel => exact ⟨2, by omega, by go_num, hbx, by rw [H.out]; exact hyx, hBx, hapx⟩
        · obtain rfl : j = 2 := by omega
          have H := Lib.hid hT2.out
          clear hxx hglt
          go_wp2_with fail
          go_roundw
          case measure => simp [intOf]; omega
          case rel => exact ⟨k + 1, by omega, by go_num, hbx, by rw [H.out]; exact hyx⟩
    · have hki : ¬ (k : Int) < (l.length : Int) := by omega
      obtain rfl : k = l.length := by omega
      have hln := HTL.out l.length 0
      rw [HTF.out] at hy hln
      have hcl : Hid (curL l t = Lib.compact ((timesU l t).mergeSort fun x y => decide (x ≤ y))) := rfl
      rcases hy.2 with ⟨rfl, hx⟩ | ⟨g, cap, cur, rfl, _⟩
      · have hnil : curL l t = [] := by
          have h0 : timesU l t = [] := List.eq_nil_of_length_eq_zero hx
          exact List.eq_nil_iff_forall_not_mem.2 (fun x hx => by have := curL_mem.1 hx; rw [h0] at this; simp at this)
        have HE := Lib.hid (HEND.out (by rw [hnil]; simp))
        clear hnil
        go_wp2_with (first | (go_at_call 75; refine (sort_nil _).mono ?_; rintro e w2 ⟨rfl, rfl⟩) | (go_at_call 76; refine (compact_nil _).mono ?_; rintro e w3 ⟨rfl, rfl⟩))
        generalize wr = wm at *
        go_loopw [47] (fun i wx => i = .int .i64 0 ∧ wx = wm) (fun _ _ => 0)
        case atStart => exact ⟨rfl, rfl⟩
        case round =>
          obtain ⟨rfl, rfl⟩ := hrel
          go_wp2_with fail
          go_ret
          exact ⟨ret_int HE.out.symm, hbw⟩
      · go_wp2_with (first | (go_at_call 75; refine (sort_own hbw hy (by omega)).mono ?_; rintro e w2 ⟨rfl, hown2, hb2⟩) | (go_at_call 76; refine (compact_own hb2 hown2 (by omega)).mono ?_; rintro e w3 ⟨rfl, hown3, hb3⟩))
        have HSL := Lib.hid (IsSl.of_own encZ_len hown3 rfl)
        rw [← hcl.out] at HSL ⊢
        clear hown2 hown3 hy hcl hbw hb2
        have hcll : (curL l t).length ≤ 2 * l.length + 2 := by
          have h1 := compact_len ((timesU l t).mergeSort fun x y => decide (x ≤ y))
          rw [List.length_mergeSort] at h1
          unfold curL
          omega
        generalize w3 = wm at *
        generalize hCL : curL l t = CL at *
        go_loopw [47] (fun i wx => ∃ q : Nat, q ≤ CL.length ∧ i = .int .i64 q ∧ Hid (∀ x ∈ CL.take q, difU l x = false) ∧ Below wm.heap.size wm wx) (fun i _ => CL.length - (intOf i).toNat)
        case atStart => exact ⟨0, by omega, rfl, by intro x hx; simp at hx, Below.refl _ _⟩
        case round =>
          obtain ⟨q, hq, rfl, HQ, hbx⟩ := hrel
          by_cases hlq : q < CL.length
          · have hqi : (q : Int) < (CL.length : Int) := by omega
            obtain ⟨hb3', d0⟩ := sl_int (HSL.out.below hbx) hlq
            have HTQ := HTOP.out _ (List.getElem_mem hlq)
            have HF2 := Lib.hid (fun hd => HFOUND.out q hlq HQ.out hd)
            have HS2 : Hid (difU l CL[q] = false → ∀ x ∈ CL.take (q + 1), difU l x = false) := fun hd x hx => by
              rw [List.take_succ_eq_append_getElem hlq] at hx
              rcases List.mem_append.1 hx with h | h
              · exact HQ.out x h
              · simp at h; rw [h]; exact hd
            generalize CL[q] = x at *
            obtain ⟨t0, t1⟩ := HTQ
            go_wp2_with fail
            refine (curDiffers_any l _ x _ (HIS.out.below (below_step hb3 hbx)) (by omega) (by omega)).mono ?_
            rintro e w4 ⟨rfl, hb4⟩
            have hbx4 := below_step hbx hb4
            cases hd : difU l x with
            | true =>
              have HE := Lib.hid (HF2.out hd)
              clear hd
              go_wp2_with fail
              go_ret
              exact ⟨ret_int HE.out.symm, below_step hb3 hbx4⟩
            | false =>
              have HN := Lib.hid (HS2.out hd)
              clear hd
              go_wp2_with fail
              go_roundw
              case measure => simp [intOf]; omega
              case rel => exact ⟨q + 1, by omega, by go_num, HN, hbx4⟩
          · have hqi : ¬ (q : Int) < (CL.length : Int) := by omega
            have HE := Lib.hid (HEND.out (fun x hx => HQ.out x (by rw [List.take_of_length_le (by omega)]; exact hx)))
            go_wp2_with fail
            go_ret
            exact ⟨ret_int HE.out.symm, below_step hb3 hbx⟩

end Go.Proofs.YtmappmeojmdekaaGreatDoor
