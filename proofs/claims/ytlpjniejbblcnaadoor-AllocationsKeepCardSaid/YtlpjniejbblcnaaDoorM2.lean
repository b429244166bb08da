/-
  Appending one element of several cells to a row of the call's own. No program is named here.
  copy, make and stores of elements of several cells. No program is named here.
  Parts of slices; rows of several cells stored one by one; lists and their heads. No program is named here.
  Walks: Valid of package site.
  Walks: check characters, in package ident and in its reference.
-/
import Derived.Test.YtlpjniejbblcnaaDoorM1
import Derived.Laws.CopyOwn
import Derived.Deep.AppendLies

namespace Go.Proofs.YtlpjniejbblcnaaDoor
open Go.RowKit

theorem new_cells (w : World) (cs : Array Value) (T : TypeId) : ∀ j u, cs.toList[j]? = some u → (w.alloc (.cells cs T)).cell? ((⟨w.heap.size, 0, none⟩ : Addr).add j) = some u := by
  intro j u hj
  have ha : (⟨w.heap.size, 0, none⟩ : Addr).add j = ⟨w.heap.size, j, none⟩ := by
    unfold Addr.add
    split
    · first | (simp; done) | (simp; omega)
    · simp
  rw [ha, World.cell?_alloc_mark w cs T (0, 0) j]
  simpa using hj

/-- v and u lie in different blocks -/
def Apart (v u : Value) : Prop := ∀ g, v.ownBlock = some g → u.ownBlock ≠ some g
theorem Apart.symm {v u : Value} (h : Apart v u) : Apart u v := fun g hu hv => h g hv hu
theorem Apart.nil (v : Value) : Apart (.slice none 0 0) v := fun g h => by simp [Value.ownBlock] at h

section
variable {P : Program}

theorem wpList_append_row {ops : Array Oper} {rest : List Oper} {o : Oper} {a : Act} {Q : Exit → Act → World → Prop} (W : World) (cs : Array Value) (hgd : o.guard = none) (s x : Operand) (t : TypeId)
    (ho : o.op = .call { callee := .builtin .append, args := #[s, x], argTypes := #[t, t] })
    (base : Nat) (e : TypeId) (i : TypeInfo) (z : Value) (size bytes : Nat) (ht : P.underlying t = some (.slice e)) (hi : P.info? e = some i) (hz : i.zero = some z)
    (hsize : i.size = size) (hby : i.bytes = bytes) (hzs : z.cells.size = size) (hsz : 0 < size)
    (v : Value) (n : Nat) (xs : List Value) (hs : a.eval s = v) (hown : W.ownsRow base e size v n xs)
    (c : Nat) (hx : a.eval x = .slice (some ⟨W.heap.size, 0, none⟩) 1 c) (hl : cs.toList.length = size) (h1 : ∀ u ∈ cs.toList, u.oneCell' = true)
    (hbytes : (n + 1) * bytes ≤ 140737488355328) (hn : n + 1 ≤ 1073741824) (hbase : base ≤ W.heap.size)
    (h : ∀ v' w', w'.ownsRow base e size v' (n + 1) (xs ++ cs.toList) → W.grownBy w' v.ownBlock → (∀ g, v'.ownBlock = some g → v.ownBlock = some g ∨ W.heap.size ≤ g) → wpList P ops Q rest (a.put o.dst v') w') :
    wpList P ops Q (o :: rest) a (W.alloc (.cells cs e)) := by
  refine wpList_append_own_at _ hgd s x t ho base e i z size bytes ht hi hz hsize hby hzs hsz v n xs hs (hown.alloc _) ⟨W.heap.size, 0, none⟩ 1 c cs.toList hx (by omega) (new_cells W cs e) h1 (by unfold maxLen; omega) hbytes (by simp; omega) ?_
  intro v' w' h2 h3 _ h5
  refine h v' w' h2 ⟨h3.os, h3.tape, h3.output, Nat.le_trans (by simp) h3.size, fun k hk hne => ?_⟩ (fun g hg => ?_)
  · exact (h3.block k (by simp; omega) hne).trans (Below.heap_alloc W _ k hk)
  · rcases h5 with h5 | h5
    · exact .inl (h5 ▸ hg)
    · rw [h5] at hg
      injection hg with hg
      right; rw [← hg]; simp
end

/-- what is kept while another row grows -/
theorem row_kept {W w' : World} {B e e' s s' n m : Nat} {v v' u : Value} {xs ys : List Value} (_hv : W.ownsRow B e s v n xs) (hu : W.ownsRow B e' s' u m ys) (ha : Apart v u) (hg : W.grownBy w' v.ownBlock)
    (hat : ∀ g, v'.ownBlock = some g → v.ownBlock = some g ∨ W.heap.size ≤ g) : w'.ownsRow B e' s' u m ys ∧ Apart v' u := by
  constructor
  · refine hu.kept hg ?_
    cases hb : u.ownBlock with
    | none => exact .inl rfl
    | some g => exact .inr (fun e => ha g e.symm hb)
  · intro g hg' hu'
    rcases hat g hg' with h | h
    · exact ha g h hu'
    · have := (hu.lt g hu').2; omega

theorem below_grown {w W w' : World} {B e s n : Nat} {v : Value} {xs : List Value} (h : Below w.heap.size w W) (hv : W.ownsRow B e s v n xs) (hB : w.heap.size ≤ B) (hg : W.grownBy w' v.ownBlock) : Below w.heap.size w w' :=
  h.grown hg h.size (fun k hk => Nat.le_trans hB (hv.lt k hk).1)

theorem own_below {W w' : World} {B e s n : Nat} {v : Value} {xs : List Value} (hv : W.ownsRow B e s v n xs) (hb : Below W.heap.size W w') : w'.ownsRow B e s v n xs := by
  refine hv.kept (row := none) ⟨hb.os, hb.tape, hb.output, hb.size, fun k hk _ => hb.block k hk⟩ ?_
  cases hv' : v.ownBlock with
  | none => exact .inl rfl
  | some g => exact .inr (by simp)

end Go.Proofs.YtlpjniejbblcnaaDoor

namespace Go.Proofs.YtlpjniejbblcnaaDoor
open Go.RowKit

section
variable {P : Program}

theorem run_copy_rows (w : World) (dT sT ty elem : TypeId) (size dLen dCap sLen sCap : Nat) (D A : Option Addr) (hu : P.underlying dT = some (.slice elem)) (i : TypeInfo) (hi : P.info? elem = some i) (hsz : i.size = size)
    (g off : Nat) (cur : List Value) (t : TypeId) (hg : w.heap[g]? = some (.cells cur.toArray t (0, 0))) (cs : List Value) (hn : cs.length = Nat.min sLen dLen * size)
    (hpos : 0 < cs.length → D = some ⟨g, off, none⟩ ∧ ∃ ad, A = some ad ∧ ∀ j v, cs[j]? = some v → w.cell? (ad.add j) = some v)
    (hfit : off + cs.length ≤ cur.length) (h1 : ∀ v ∈ cs, v.oneCell' = true) :
    ∃ w', (Builtin.copy_ #[dT, sT] ty #[.slice D dLen dCap, .slice A sLen sCap]).run P w = .ok (goInt (Nat.min sLen dLen : Nat)) w' ∧ w'.heap[g]? = some (.cells (splice cur off cs).toArray t (0, 0)) ∧ w.grownBy w' (some g) := by
  by_cases h0 : cs.length = 0
  · have hcs : cs = [] := List.eq_nil_of_length_eq_zero h0
    have hz : Nat.min sLen dLen * size = 0 := by rw [← hn]; exact h0
    refine ⟨w, ?_, by rw [hcs]; simpa [splice] using hg, World.grownBy.refl w _⟩
    have hl : ∀ a : Addr, (loadCells a 0).run P w = .ok #[] w := fun a => by
      have := run_loadCells_list (P := P) w a [] (by simp)
      simpa using this
    cases A <;> cases D <;> simp [Builtin.copy_, run_underlying hu, Builtin.lenOf, Builtin.firstCells, sizeOf, typeInfo, hi, hsz, hz, storeCells, hl]
  · obtain ⟨rfl, ad, rfl, hsrc⟩ := hpos (by omega)
    have hl := run_loadCells_list (P := P) w ad cs hsrc
    have hst := run_storeCells_at P g off t cs 0 cur.toArray w hg (by simpa using hfit) h1
    refine ⟨_, ?_, setRow_heap w g _ _ t _ hg, ⟨rfl, rfl, rfl, by simp [World.setRow], fun k _ hk => setRow_other w g k _ (fun e => hk (by rw [e]))⟩⟩
    rw [hn] at hl
    simp [Builtin.copy_, run_underlying hu, Builtin.lenOf, Builtin.firstCells, sizeOf, typeInfo, hi, hsz, hl, hst, splice]

theorem wpList_copy_rows {w : World} {ops : Array Oper} {rest : List Oper} {o : Oper} {a : Act} {Q : Exit → Act → World → Prop} (hgd : o.guard = none) (d s : Operand) (dT sT : TypeId)
    (ho : o.op = .call { callee := .builtin .copy, args := #[d, s], argTypes := #[dT, sT] }) (elem : TypeId) (size : Nat) (hu : P.underlying dT = some (.slice elem)) (i : TypeInfo) (hi : P.info? elem = some i) (hsz : i.size = size)
    (D A : Option Addr) (dLen dCap sLen sCap : Nat) (hd : a.eval d = .slice D dLen dCap) (hs : a.eval s = .slice A sLen sCap)
    (g off : Nat) (cur : List Value) (t : TypeId) (hg : w.heap[g]? = some (.cells cur.toArray t (0, 0))) (cs : List Value) (hn : cs.length = Nat.min sLen dLen * size)
    (hpos : 0 < cs.length → D = some ⟨g, off, none⟩ ∧ ∃ ad, A = some ad ∧ ∀ j v, cs[j]? = some v → w.cell? (ad.add j) = some v)
    (hfit : off + cs.length ≤ cur.length) (h1 : ∀ v ∈ cs, v.oneCell' = true)
    (h : ∀ w', w'.heap[g]? = some (.cells (splice cur off cs).toArray t (0, 0)) → w.grownBy w' (some g) → wpList P ops Q rest (a.put o.dst (goInt (Nat.min sLen dLen : Nat))) w') :
    wpList P ops Q (o :: rest) a w := by
  refine wpList_plain hgd fun K hK => ?_
  obtain ⟨w', hrun, h2, h3⟩ := run_copy_rows (P := P) w dT sT o.type elem size dLen dCap sLen sCap D A hu i hi hsz g off cur t hg cs hn hpos hfit h1
  unfold Oper.wp
  simp [execOp, ho, resolve, invoke, builtin, hd, hs, hrun, Result.andThen]
  exact hK _ _ (h w' h2 h3)

theorem run_make_rowN (t e : TypeId) (i : TypeInfo) (z : Value) (ht : P.underlying t = some (.slice e)) (hi : P.info? e = some i) (hz : i.zero = some z)
    (kl kc : IntKind) (n c : Nat) (C : Int) (hC : C = (c : Int)) (hnc : n ≤ c) (hbytes : i.bytes * c ≤ 281474976710656) (h63 : c ≤ 9223372036854775807) (w : World) :
    (Instr.makeSlice t (.int kl (n : Int)) (.int kc C)).run P w = .ok (.slice (some ⟨w.heap.size, 0, none⟩) n c) (w.alloc (.cells (madeCells z.cells (c * i.size)) e)) := by
  subst hC
  have hb : (i.bytes : Int) * (c : Int) ≤ 281474976710656 := by
    have h : ((i.bytes * c : Nat) : Int) ≤ 281474976710656 := by omega
    rwa [Int.natCast_mul] at h
  have hr := run_make (P := P) w t e i z ht hi hz kl kc n c (by omega) (by omega) hb (by omega)
  simp only [Int.toNat_natCast] at hr
  exact hr
end

/-- the cells that a slice's rows are read from, laid end to end, as a copy wants them -/
theorem src_rows {α : Type} {enc : α → List Value} {w : World} {size : Nat} (hs : ∀ x, (enc x).length = size) (hpos : 0 < size) {A : Option Addr} {l : List α} (h : SlAt w size A (l.map enc)) (hne : l ≠ []) :
    ∃ ad, A = some ad ∧ ∀ j v, (l.flatMap enc)[j]? = some v → w.cell? (ad.add j) = some v := by
  have h0 : 0 < l.length := List.length_pos_iff.2 hne
  obtain ⟨b, off, rfl, _, _⟩ := h 0 (enc l[0]) (by rw [List.getElem?_map, List.getElem?_eq_getElem h0]; rfl)
  refine ⟨_, rfl, fun j v hj => ?_⟩
  have hjl : j < (l.flatMap enc).length := (List.getElem?_eq_some_iff.1 hj).1
  rw [flat_len enc size hs] at hjl
  have hk : j / size < l.length := by rw [Nat.div_lt_iff_lt_mul hpos]; exact hjl
  obtain ⟨b', off', e, _, hc⟩ := h (j / size) (enc l[j / size]) (by rw [List.getElem?_map, List.getElem?_eq_getElem hk]; rfl)
  injection e with e
  injection e with e1 e2 _
  subst e1; subst e2
  have hm : j % size < size := Nat.mod_lt _ hpos
  have hrow : (enc l[j / size])[j % size]? = some ((enc l[j / size])[j % size]'(by rw [hs]; exact hm)) := List.getElem?_eq_getElem _
  have hf := flat_at enc size hs l (j / size) l[j / size] (List.getElem?_eq_getElem hk) (j % size) _ hrow
  rw [show j / size * size + j % size = j from Nat.div_add_mod' j size] at hf
  rw [hf] at hj
  injection hj with hj
  have := hc (j % size) _ hrow
  rw [hj] at this
  have ea : ((⟨b, off, none⟩ : Addr).add j) = ⟨b, off + j / size * size + j % size, none⟩ := by
    have hdm := Nat.div_add_mod' j size
    unfold Addr.add
    split
    · rename_i hj0; subst hj0; simp
    · simp; omega
  rw [ea]
  exact this

/-- a new row into whose head all rows of a list were copied -/
theorem own_copied {α : Type} {enc : α → List Value} {w : World} {size : Nat} (hs : ∀ x, (enc x).length = size) {base g c : Nat} {e : TypeId} {l : List α} {cur : List Value} (hb : base ≤ g) (hg : w.heap[g]? = some (.cells (splice cur 0 (l.flatMap enc)).toArray e (0, 0)))
    (hc : cur.length = c * size) (hlc : l.length ≤ c) (hcm : c ≤ maxLen) : w.ownsRow base e size (.slice (some ⟨g, 0, none⟩) l.length c) l.length (l.flatMap enc) := by
  have hf := flat_len enc size hs l
  have hle : l.length * size ≤ c * size := Nat.mul_le_mul_right _ hlc
  refine ⟨hf, .inr ⟨g, c, _, rfl, hb, hg, hlc, hcm, ?_, ?_⟩⟩
  · have := length_splice cur 0 (l.flatMap enc) (by omega)
    simp only [List.size_toArray]; omega
  · simp only [splice, List.take_zero, List.nil_append]
    rw [← hf, List.take_left]

/-- five cells of a row, stored one by one -/
theorem set_row5 {α : Type} {enc : α → List Value} (hs : ∀ x, (enc x).length = 5) (l : List α) (k : Nat) (x : α) (v0 v1 v2 v3 v4 : Value) (hx : enc x = [v0, v1, v2, v3, v4]) :
    (((((l.flatMap enc).set (k * 5) v0).set (k * 5 + 1) v1).set (k * 5 + 2) v2).set (k * 5 + 3) v3).set (k * 5 + 4) v4 = (l.set k x).flatMap enc := by
  have hf := flat_len enc 5 hs l
  have hf2 := flat_len enc 5 hs (l.set k x)
  apply List.ext_getElem?
  intro j
  by_cases hj : j < l.length * 5
  · have hj5 : j / 5 < l.length := by omega
    have hdm := Nat.div_add_mod' j 5
    have hm : j % 5 < 5 := Nat.mod_lt _ (by omega)
    have key : ∀ (m : List α) (q : Nat) (y : α), m[q]? = some y → ∀ i u, (enc y)[i]? = some u → (m.flatMap enc)[q * 5 + i]? = some u := fun m q y h => flat_at enc 5 hs m q y h
    have hR : ((l.set k x).flatMap enc)[j]? = (enc ((l.set k x)[j / 5]'(by simpa using hj5)))[j % 5]? := by
      have hrow : (enc ((l.set k x)[j / 5]'(by simpa using hj5)))[j % 5]? = some ((enc ((l.set k x)[j / 5]'(by simpa using hj5)))[j % 5]'(by rw [hs]; exact hm)) := List.getElem?_eq_getElem _
      have := key (l.set k x) (j / 5) _ (List.getElem?_eq_getElem (by simpa using hj5)) (j % 5) _ hrow
      rw [hdm] at this
      rw [this, hrow]
    have hL : (l.flatMap enc)[j]? = (enc (l[j / 5]'hj5))[j % 5]? := by
      have hrow : (enc (l[j / 5]'hj5))[j % 5]? = some ((enc (l[j / 5]'hj5))[j % 5]'(by rw [hs]; exact hm)) := List.getElem?_eq_getElem _
      have := key l (j / 5) _ (List.getElem?_eq_getElem hj5) (j % 5) _ hrow
      rw [hdm] at this
      rw [this, hrow]
    rw [hR]
    simp only [List.getElem?_set, List.length_set, hf]
    by_cases hq : j / 5 = k
    · have e : (l.set k x)[j / 5]'(by simpa using hj5) = x := by simp [hq]
      rw [e, hx]
      have hcase : j % 5 = 0 ∨ j % 5 = 1 ∨ j % 5 = 2 ∨ j % 5 = 3 ∨ j % 5 = 4 := by omega
      rcases hcase with h | h | h | h | h <;> rw [h]
      · rw [if_neg (by omega), if_neg (by omega), if_neg (by omega), if_neg (by omega), if_pos (by omega), if_pos (by omega)]; rfl
      · rw [if_neg (by omega), if_neg (by omega), if_neg (by omega), if_pos (by omega), if_pos (by omega)]; rfl
      · rw [if_neg (by omega), if_neg (by omega), if_pos (by omega), if_pos (by omega)]; rfl
      · rw [if_neg (by omega), if_pos (by omega), if_pos (by omega)]; rfl
      · rw [if_pos (by omega), if_pos (by omega)]; rfl
    · have e : (l.set k x)[j / 5]'(by simpa using hj5) = l[j / 5]'hj5 := by rw [List.getElem_set_ne (by omega)]
      rw [e, if_neg (by omega), if_neg (by omega), if_neg (by omega), if_neg (by omega), if_neg (by omega), hL]
  · rw [List.getElem?_eq_none (by simp only [List.length_set, hf]; omega), List.getElem?_eq_none (by rw [hf2, List.length_set]; omega)]

end Go.Proofs.YtlpjniejbblcnaaDoor

namespace Go.Proofs.YtlpjniejbblcnaaDoor
open Go.RowKit
set_option linter.unusedVariables false

theorem addr_add_add (a : Addr) (i j : Nat) : (a.add i).add j = a.add (i + j) := by
  unfold Addr.add
  by_cases hi : i = 0 <;> by_cases hj : j = 0 <;> simp [hi, hj, Nat.add_assoc]

/-- the address at which a part of a slice begins -/
def subAddr (A : Option Addr) (cap k size : Nat) : Option Addr := if cap = k then A else A.map (fun x => x.add (k * size))

theorem subAddr_at {W : World} {size : Nat} {A : Option Addr} {rows : List (List Value)} {cap k : Nat} (h : SlAt W size A rows) (hc : rows.length ≤ cap) : SlAt W size (subAddr A cap k size) (rows.drop k) := by
  intro j row hj
  rw [List.getElem?_drop] at hj
  obtain ⟨b, off, rfl, hb, hcell⟩ := h (k + j) row hj
  have hlt : k + j < rows.length := (List.getElem?_eq_some_iff.1 hj).1
  refine ⟨b, off + k * size, ?_, hb, fun i u hu => ?_⟩
  · unfold subAddr
    rw [if_neg (by omega)]
    simp only [Option.map_some, Addr.add]
    split
    · rename_i hz; rw [hz]; rfl
    · rfl
  · have := hcell i u hu
    have e : off + (k + j) * size + i = off + k * size + j * size + i := by rw [Nat.add_mul]; omega
    rw [e] at this
    exact this
theorem subAddr_own {g cap k size : Nat} (h : k < cap) : subAddr (some ⟨g, 0, none⟩) cap k size = some ⟨g, k * size, none⟩ := by
  unfold subAddr
  rw [if_neg (by omega)]
  simp only [Option.map_some, Addr.add]
  split
  · rename_i hz; rw [hz]
  · simp

/-- cells stored one by one, from a place on -/
def setAll : List Value → Nat → List Value → List Value
  | xs, _, [] => xs
  | xs, k, v :: vs => setAll (xs.set k v) (k + 1) vs

theorem setAll_len : ∀ (vs xs : List Value) (k : Nat), (setAll xs k vs).length = xs.length
  | [], xs, k => rfl
  | v :: vs, xs, k => by rw [setAll, setAll_len vs, List.length_set]
theorem setAll_get : ∀ (vs xs : List Value) (k : Nat), k + vs.length ≤ xs.length → ∀ j, (setAll xs k vs)[j]? = if k ≤ j ∧ j < k + vs.length then vs[j - k]? else xs[j]?
  | [], xs, k, _, j => by simp [setAll]; omega
  | v :: vs, xs, k, h, j => by
    simp only [List.length_cons] at h
    rw [setAll, setAll_get vs (xs.set k v) (k + 1) (by rw [List.length_set]; omega) j]
    rw [List.getElem?_set]
    by_cases h1 : k = j
    · subst h1
      rw [if_neg (by omega), if_pos rfl, if_pos (by omega), if_pos (by simp)]
      simp
    · by_cases h2 : k + 1 ≤ j ∧ j < k + 1 + vs.length
      · rw [if_pos h2, if_pos (by simp; omega)]
        rw [show j - k = (j - (k + 1)) + 1 by omega, List.getElem?_cons_succ]
      · rw [if_neg h2, if_neg h1, if_neg (by simp; omega)]

theorem set_row {α : Type} {enc : α → List Value} {size : Nat} (hs : ∀ x, (enc x).length = size) (hp : 0 < size) (l : List α) (k : Nat) (hk : k < l.length) (x : α) : setAll (l.flatMap enc) (k * size) (enc x) = (l.set k x).flatMap enc := by
  have hf := flat_len enc size hs l
  have hf2 := flat_len enc size hs (l.set k x)
  have hle : (k + 1) * size ≤ l.length * size := Nat.mul_le_mul_right _ hk
  rw [Nat.succ_mul] at hle
  apply List.ext_getElem?
  intro j
  rw [setAll_get _ _ _ (by rw [hs, hf]; omega), hs]
  by_cases hj : j < l.length * size
  · have hq : j / size < l.length := by rw [Nat.div_lt_iff_lt_mul hp]; exact hj
    have hdm := Nat.div_add_mod' j size
    have hm : j % size < size := Nat.mod_lt _ hp
    have row : ∀ (m : List α) (q : Nat) (y : α), m[q]? = some y → ∀ i, i < size → (m.flatMap enc)[q * size + i]? = (enc y)[i]? := fun m q y h i hi => by
      have hrow : (enc y)[i]? = some ((enc y)[i]'(by rw [hs]; exact hi)) := List.getElem?_eq_getElem _
      rw [flat_at enc size hs m q y h i _ hrow, hrow]
    by_cases hc : k * size ≤ j ∧ j < k * size + size
    · rw [if_pos hc]
      have hjk : j = k * size + (j - k * size) := by omega
      rw [hjk, row (l.set k x) k x (by rw [List.getElem?_set_self (by omega)]) (j - k * size) (by omega)]
      rw [show k * size + (j - k * size) - k * size = j - k * size by omega]
    · rw [if_neg hc]
      have hqk : j / size ≠ k := by
        intro e
        apply hc
        rw [e] at hdm
        omega
      have h1 := row l (j / size) l[j / size] (List.getElem?_eq_getElem hq) (j % size) hm
      have h2 := row (l.set k x) (j / size) l[j / size] (by rw [List.getElem?_set_ne (by omega), List.getElem?_eq_getElem hq]) (j % size) hm
      rw [hdm] at h1 h2
      rw [h1, h2]
  · rw [if_neg (by omega), List.getElem?_eq_none (by rw [hf]; omega), List.getElem?_eq_none (by rw [hf2, List.length_set]; omega)]

/-- a row of cells of one block, stored one by one -/
def storeRow (w : World) (g : Nat) : Nat → List Value → World
  | _, [] => w
  | k, v :: vs => storeRow (w.setCell ⟨g, k, none⟩ v) g (k + 1) vs
theorem storeRow_low {g : Nat} : ∀ (vs : List Value) (w : World) (k i : Nat), i < k → (storeRow w g k vs).cell? ⟨g, i, none⟩ = w.cell? ⟨g, i, none⟩
  | [], w, k, i, _ => rfl
  | v :: vs, w, k, i, h => by
    rw [storeRow, storeRow_low vs _ (k + 1) i (by omega)]
    exact World.cell?_setCell_other w ⟨g, k, none⟩ ⟨g, i, none⟩ v (by intro x; injection x; omega)
theorem storeRow_cell {g : Nat} : ∀ (vs : List Value) (w : World) (k : Nat), (∀ j, j < vs.length → ∃ u, w.cell? ⟨g, k + j, none⟩ = some u) → ∀ j, j < vs.length → (storeRow w g k vs).cell? ⟨g, k + j, none⟩ = vs[j]?
  | [], w, k, _, j, hj => by simp at hj
  | v :: vs, w, k, h, j, hj => by
    rw [storeRow]
    have h0 : (w.setCell ⟨g, k, none⟩ v).cell? ⟨g, k, none⟩ = some v := by
      obtain ⟨u, hu⟩ := h 0 (by simp)
      exact World.cell?_setCell_same w ⟨g, k, none⟩ v hu
    cases j with
    | zero =>
      show (storeRow (w.setCell ⟨g, k, none⟩ v) g (k + 1) vs).cell? ⟨g, k, none⟩ = some v
      rw [storeRow_low vs _ (k + 1) k (by omega), h0]
    | succ j =>
      have ih := storeRow_cell (g := g) vs (w.setCell ⟨g, k, none⟩ v) (k + 1) (fun i hi => by
        obtain ⟨u, hu⟩ := h (i + 1) (by simp; omega)
        refine ⟨u, ?_⟩
        rw [World.cell?_setCell_other w ⟨g, k, none⟩ ⟨g, k + 1 + i, none⟩ v (by intro x; injection x; omega)]
        rw [show k + 1 + i = k + (i + 1) by omega]
        exact hu) j (by simpa using hj)
      rw [show k + (j + 1) = k + 1 + j by omega, ih]
      rfl
theorem storeRow_below {B g : Nat} {W : World} (hB : B ≤ g) : ∀ (vs : List Value) (w : World) (k : Nat), Below B W w → Below B W (storeRow w g k vs)
  | [], w, k, h => h
  | v :: vs, w, k, h => storeRow_below hB vs _ (k + 1) (h.setCell (p := ⟨g, k, none⟩) hB v)
theorem storeRow_heap {g : Nat} : ∀ (vs : List Value) (w : World) (k b : Nat), b ≠ g → (storeRow w g k vs).heap[b]? = w.heap[b]?
  | [], w, k, b, _ => rfl
  | v :: vs, w, k, b, h => by
    rw [storeRow, storeRow_heap vs _ (k + 1) b h]
    exact Below.heap_setCell w ⟨g, k, none⟩ v b h
theorem storeRow_far {g : Nat} (vs : List Value) (w : World) (k : Nat) {b o : Nat} (h : b ≠ g) : (storeRow w g k vs).cell? ⟨b, o, none⟩ = w.cell? ⟨b, o, none⟩ := World.cell?_of_block (a := ⟨b, o, none⟩) (storeRow_heap vs w k b h)
theorem storeRow_size {g : Nat} : ∀ (vs : List Value) (w : World) (k : Nat), (storeRow w g k vs).heap.size = w.heap.size
  | [], w, k => rfl
  | v :: vs, w, k => by rw [storeRow, storeRow_size vs]; simp [World.setCell]
theorem storeRow_frozen {g : Nat} (a : Addr) : ∀ (vs : List Value) (w : World) (k : Nat), (storeRow w g k vs).frozen? a = w.frozen? a
  | [], w, k => rfl
  | v :: vs, w, k => by rw [storeRow, storeRow_frozen a vs]; exact World.frozen?_setCell _ _ _ _
theorem storeRow_own {B g n : Nat} {W : World} {T : TypeId} {s : Nat} : ∀ (vs : List Value) (w : World) (k : Nat) (xs : List Value) (c : Nat), w.ownsRow B T s (.slice (some ⟨g, 0, none⟩) n c) n xs → (storeRow w g k vs).ownsRow B T s (.slice (some ⟨g, 0, none⟩) n c) n (setAll xs k vs)
  | [], w, k, xs, c, h => h
  | v :: vs, w, k, xs, c, h => storeRow_own (W := W) vs _ (k + 1) _ c (h.stored k v).1

theorem run_make_rowZ {P : Program} (t e : TypeId) (i : TypeInfo) (z : Value) (ht : P.underlying t = some (.slice e)) (hi : P.info? e = some i) (hz : i.zero = some z)
    (kl kc : IntKind) (n c : Nat) (N C : Int) (hN : N = (n : Int)) (hC : C = (c : Int)) (hnc : n ≤ c) (hbytes : i.bytes * c ≤ 281474976710656) (h63 : c ≤ 9223372036854775807) (w : World) :
    (Instr.makeSlice t (.int kl N) (.int kc C)).run P w = .ok (.slice (some ⟨w.heap.size, 0, none⟩) n c) (w.alloc (.cells (madeCells z.cells (c * i.size)) e)) := by
  subst hN
  exact run_make_rowN t e i z ht hi hz kl kc n c C hC hnc hbytes h63 w

theorem all_take' {α : Type} (l : List α) (p : α → Bool) {k : Nat} (h : k < l.length) : (l.take (k + 1)).all p = ((l.take k).all p && p l[k]) := by
  rw [List.take_succ_eq_append_getElem h, List.all_append]; simp
theorem all_full' {α : Type} (l : List α) (p : α → Bool) {k : Nat} (h : ¬ k < l.length) : (l.take k).all p = l.all p := by
  rw [List.take_of_length_le (by omega)]
theorem all_false' {α : Type} (l : List α) (p : α → Bool) {k : Nat} (h : k < l.length) (hp : p l[k] = false) : l.all p = false := by
  rw [List.all_eq_false]; exact ⟨l[k], List.getElem_mem h, by simp [hp]⟩

theorem islen' {α : Type} {enc : α → List Value} {size : Nat} {w : World} {v : Value} {l : List α} (h : IsSl w size v (l.map enc)) : ∃ A c, v = .slice A l.length c ∧ l.length ≤ c ∧ c ≤ maxLen ∧ SlAt w size A (l.map enc) := by
  obtain ⟨A, c, e, h1, h2, h3⟩ := h
  rw [List.length_map] at e h1
  exact ⟨A, c, e, h1, h2, h3⟩

end Go.Proofs.YtlpjniejbblcnaaDoor

namespace Go.Proofs.YtlpjniejbblcnaaDoor
open Go.RowKit Go.Lib Go.Maps
set_option linter.unusedVariables false

theorem feed_at {w : World} {A : Option Addr} {l : List Feed} (h : SlAt w 5 A (l.map Feed.cells)) {k : Nat} (hk : k < l.length) :
    ∃ b off, A = some ⟨b, off, none⟩ ∧ b < w.heap.size ∧ w.cell? ⟨b, off + k * 5, none⟩ = some (.string l[k].name) ∧ w.cell? ⟨b, off + k * 5 + 1, none⟩ = some (.int .i64 l[k].parent) ∧ w.cell? ⟨b, off + k * 5 + 2, none⟩ = some (.int .i64 l[k].a) ∧
      w.cell? ⟨b, off + k * 5 + 3, none⟩ = some (.int .i64 l[k].b) ∧ w.cell? ⟨b, off + k * 5 + 4, none⟩ = some (.int .i64 l[k].c) := by
  obtain ⟨b, off, e, hb, hc⟩ := h k l[k].cells (by rw [List.getElem?_map, List.getElem?_eq_getElem hk]; rfl)
  exact ⟨b, off, e, hb, hc 0 _ rfl, hc 1 _ rfl, hc 2 _ rfl, hc 3 _ rfl, hc 4 _ rfl⟩
theorem pnt_at {w : World} {A : Option Addr} {l : List Pnt} (h : SlAt w 5 A (l.map Pnt.cells)) {k : Nat} (hk : k < l.length) :
    ∃ b off, A = some ⟨b, off, none⟩ ∧ b < w.heap.size ∧ w.cell? ⟨b, off + k * 5, none⟩ = some (.string l[k].name) ∧ w.cell? ⟨b, off + k * 5 + 1, none⟩ = some (.int .i64 l[k].feeder) ∧ w.cell? ⟨b, off + k * 5 + 2, none⟩ = some (.int .i64 l[k].phases) ∧
      w.cell? ⟨b, off + k * 5 + 3, none⟩ = some (.int .i64 l[k].rated) ∧ w.cell? ⟨b, off + k * 5 + 4, none⟩ = some (.int .i64 l[k].least) := by
  obtain ⟨b, off, e, hb, hc⟩ := h k l[k].cells (by rw [List.getElem?_map, List.getElem?_eq_getElem hk]; rfl)
  exact ⟨b, off, e, hb, hc 0 _ rfl, hc 1 _ rfl, hc 2 _ rfl, hc 3 _ rfl, hc 4 _ rfl⟩

theorem isFeeder_any (s : ByteArray) (A : Option Addr) (n c : Nat) (pv : Value) (i : Int) (w : World) :
    Calls Tryd.prog 43 #[.agg #[.string s, .slice A n c, pv], .int .i64 i] w fun e w' => e = .returned (.bool (decide (0 ≤ i) && decide (i < (n : Int)))) ∧ Below w.heap.size w w' := by
  by_cases h0 : 0 ≤ i <;> by_cases h1 : i < (n : Int)
  all_goals go_enter Tryd.func43, Tryd.ntmps43
  all_goals go_wp2_with fail
  all_goals go_ret
  all_goals exact ⟨ret_bool (by simp [h0, h1]), below_alloc (Below.refl _ _) _⟩

theorem site_name {S : SiteR} (h : (!validL S.name.data.toList) = true) : siteE S = 4 := by simp [siteE, h]
theorem site_limit {S : SiteR} (h : (!validL S.name.data.toList) = false) (hl : 32 < S.F.length ∨ 32 < S.P.length) : siteE S = 3 := by simp only [siteE, h]; simp [hl]
theorem site_feed {S : SiteR} (h : (!validL S.name.data.toList) = false) (hl : ¬ (32 < S.F.length ∨ 32 < S.P.length)) {k : Nat} (hk : k < S.F.length) (h0 : firstE (feedAt S.F) k = 0) (he : feedAt S.F k ≠ 0) : siteE S = feedAt S.F k := by
  have := firstE_stop h0 he hk
  simp only [siteE, h, if_neg hl, this]
  simp [he]
theorem site_pnt {S : SiteR} (h : (!validL S.name.data.toList) = false) (hl : ¬ (32 < S.F.length ∨ 32 < S.P.length)) (hF : firstE (feedAt S.F) S.F.length = 0) {k : Nat} (hk : k < S.P.length) (h0 : firstE (pntAt S.F S.P) k = 0) (he : pntAt S.F S.P k ≠ 0) : siteE S = pntAt S.F S.P k := by
  have := firstE_stop h0 he hk
  simp only [siteE, h, if_neg hl, hF, this]
  simp
theorem site_ok {S : SiteR} (h : (!validL S.name.data.toList) = false) (hl : ¬ (32 < S.F.length ∨ 32 < S.P.length)) (hF : firstE (feedAt S.F) S.F.length = 0) (hP : firstE (pntAt S.F S.P) S.P.length = 0) : siteE S = 0 := by
  simp only [siteE, h, if_neg hl, hF, hP]
  simp

theorem feed_name {ks : List (List UInt8)} {i : Int} {f : Feed} (h : nameE ks f.name ≠ 0) : feedE ks i f = nameE ks f.name := by simp [feedE, h]
theorem feed_parent {ks : List (List UInt8)} {i : Int} {f : Feed} (h : nameE ks f.name = 0) (hp : f.parent < -1 ∨ i ≤ f.parent) : feedE ks i f = 1 := by simp [feedE, h, hp]
theorem feed_power {ks : List (List UInt8)} {i : Int} {f : Feed} (h : nameE ks f.name = 0) (hp : ¬ (f.parent < -1 ∨ i ≤ f.parent)) (hw : (powB f.a && (powB f.b && powB f.c)) = false) : feedE ks i f = 2 := by simp only [feedE, h, if_neg hp, hw]; simp
theorem feed_ok {ks : List (List UInt8)} {i : Int} {f : Feed} (h : nameE ks f.name = 0) (hp : ¬ (f.parent < -1 ∨ i ≤ f.parent)) (hw : (powB f.a && (powB f.b && powB f.c)) = true) : feedE ks i f = 0 := by simp only [feedE, h, if_neg hp, hw]; simp

theorem pnt_name {ks : List (List UInt8)} {n : Int} {p : Pnt} (h : nameE ks p.name ≠ 0) : pntE ks n p = nameE ks p.name := by simp [pntE, h]
theorem pnt_inv {ks : List (List UInt8)} {n : Int} {p : Pnt} (h : nameE ks p.name = 0) (hp : p.feeder < 0 ∨ n ≤ p.feeder ∨ p.phases < 1 ∨ 7 < p.phases) : pntE ks n p = 1 := by simp [pntE, h, hp]
theorem pnt_range {ks : List (List UInt8)} {n : Int} {p : Pnt} (h : nameE ks p.name = 0) (hp : ¬ (p.feeder < 0 ∨ n ≤ p.feeder ∨ p.phases < 1 ∨ 7 < p.phases)) (hw : powB p.rated = false ∨ p.least < 0 ∨ p.rated < p.least) : pntE ks n p = 2 := by simp only [pntE, h, if_neg hp, if_pos hw]; simp
theorem pnt_ok {ks : List (List UInt8)} {n : Int} {p : Pnt} (h : nameE ks p.name = 0) (hp : ¬ (p.feeder < 0 ∨ n ≤ p.feeder ∨ p.phases < 1 ∨ 7 < p.phases)) (hw : ¬ (powB p.rated = false ∨ p.least < 0 ∨ p.rated < p.least)) : pntE ks n p = 0 := by simp only [pntE, h, if_neg hp, if_neg hw]; simp

theorem names_step {w : World} {b : Nat} {x : List UInt8} {ks : List (List UInt8)} (h : Names w b (x :: ks)) : Names w b (ks ++ [x]) :=
  Taken.congr h (fun y => by simp [or_comm]) (by simp)

set_option maxRecDepth 100000 in
set_option maxHeartbeats 6400000 in
theorem siteValid_any (S : SiteR) (fv pv : Value) (w : World) (hF : IsSl w 5 fv (S.F.map Feed.cells)) (hP : IsSl w 5 pv (S.P.map Pnt.cells)) (hn : S.name.size ≤ maxLen) (hfF : ∀ f ∈ S.F, f.fits) (hfP : ∀ p ∈ S.P, p.fits) :
    Calls Tryd.prog 35 #[.agg #[.string S.name, fv, pv]] w fun e w' => e = .returned (.int .i64 (siteE S)) ∧ Below w.heap.size w w' := by
  obtain ⟨A, c, rfl, hlc, hcm, hsl⟩ := islen' hF
  obtain ⟨B, d, rfl, hld, hdm, hsp⟩ := islen' hP
  obtain ⟨W0, hW0, hb0, hg0, hx0⟩ := box1 w #[.string S.name, .slice A S.F.length c, .slice B S.P.length d] 30
  have HSL := Lib.hid (hsl.below hb0)
  have HSP := Lib.hid (hsp.below hb0)
  have HFF := Lib.hid hfF
  have HFP := Lib.hid hfP
  clear hF hP hsl hsp hfF hfP hlc hld hcm hdm
  cases hv : (!validL S.name.data.toList) with
  | true =>
    have HE := Lib.hid (site_name hv)
    go_enter Tryd.func35, Tryd.ntmps35
    go_wp2_with fail
    rw [← hW0]
    clear hW0
    refine (valid_any S.name _ hn).mono ?_
    rintro e w1 ⟨rfl, hb1⟩
    rw [show validL S.name.data.toList = false by simpa using hv]
    go_wp2_with fail
    go_ret
    exact ⟨ret_int (by rw [HE.out]), below_step hb0 hb1⟩
  | false =>
  have hv' : validL S.name.data.toList = true := by simpa using hv
  by_cases hl : 32 < S.F.length ∨ 32 < S.P.length
  · have HE := Lib.hid (site_limit hv hl)
    by_cases hl1 : 32 < S.F.length
    · skip
      go_enter Tryd.func35, Tryd.ntmps35
      go_wp2_with fail
      rw [← hW0]
      clear hW0
      refine (valid_any S.name _ hn).mono ?_
      rintro e w1 ⟨rfl, hb1⟩
      rw [hv']
      obtain ⟨hc, hf⟩ := bcell hb1
      go_wp2_with fail
      go_ret
      exact ⟨ret_int (by rw [HE.out]), below_step hb0 hb1⟩
    · have hl2 : 32 < S.P.length := by omega
      go_enter Tryd.func35, Tryd.ntmps35
      go_wp2_with fail
      rw [← hW0]
      clear hW0
      refine (valid_any S.name _ hn).mono ?_
      rintro e w1 ⟨rfl, hb1⟩
      rw [hv']
      obtain ⟨hc, hf⟩ := bcell hb1
      go_wp2_with fail
      go_ret
      exact ⟨ret_int (by rw [HE.out]), below_step hb0 hb1⟩
  have hl1 : S.F.length ≤ 32 := by omega
  have hl2 : S.P.length ≤ 32 := by omega
  have HSF := Lib.hid (fun (k : Nat) (hk : k < S.F.length) (h0 : firstE (feedAt S.F) k = 0) (he : feedAt S.F k ≠ 0) => site_feed hv hl hk h0 he)
  have HSQ := Lib.hid (fun (hF : firstE (feedAt S.F) S.F.length = 0) (k : Nat) (hk : k < S.P.length) (h0 : firstE (pntAt S.F S.P) k = 0) (he : pntAt S.F S.P k ≠ 0) => site_pnt hv hl hF hk h0 he)
  have HSO := Lib.hid (fun (hF : firstE (feedAt S.F) S.F.length = 0) (hP : firstE (pntAt S.F S.P) S.P.length = 0) => site_ok hv hl hF hP)
  clear hl hv
  have hmm := @run_makeMap Tryd.prog
  go_enter Tryd.func35, Tryd.ntmps35
  go_wp2_with fail
  rw [← hW0]
  clear hW0
  refine (valid_any S.name _ hn).mono ?_
  rintro e w1 ⟨rfl, hb1⟩
  rw [hv']
  obtain ⟨hc, hf⟩ := bcell hb1
  have hgx : w.heap.size < w1.heap.size := Nat.lt_of_lt_of_le hg0 hb1.size
  go_wp2_with fail
  have hx1 : ∀ j, w1.cell? ⟨w.heap.size, j, none⟩ = (#[.string S.name, .slice A S.F.length c, .slice B S.P.length d] : Array Value)[j]? := fun j => (hc _ _ hg0).trans (hx0 j)
  have hb01 := below_step hb0 hb1
  have HSL1 := Lib.hid (HSL.out.below hb1)
  have HSP1 := Lib.hid (HSP.out.below hb1)
  clear hc hf hx0 HSL HSP hb0 hb1 hg0
  go_loopw [28] (fun i wr => ∃ k : Nat, k ≤ S.F.length ∧ i = .int .i64 k ∧ Below w1.heap.size w1 wr ∧ w1.heap.size < wr.heap.size ∧ Hid (Names wr w1.heap.size (keysF (S.F.take k))) ∧ Hid (firstE (feedAt S.F) k = 0)) (fun i _ => S.F.length - (intOf i).toNat)
  case atStart => exact ⟨0, by omega, rfl, below_alloc (Below.refl _ _) _, by simp, taken_made _ _ _, rfl⟩
  case round =>
    obtain ⟨k, hk, rfl, hbw, hgm, HN, HZ⟩ := hrel
    obtain ⟨hc, hf⟩ := bcell hbw
    by_cases hlt : k < S.F.length
    · have hki : (k : Int) < (S.F.length : Int) := by omega
      obtain ⟨b, off, rfl, hbb, c0, c1, c2, c3, c4⟩ := feed_at (HSL1.out.below hbw) hlt
      have HFE := Lib.hid (feedAt_eq hlt)
      have HKS := Lib.hid (keysF_step hlt)
      have hft := HFF.out _ (List.getElem_mem hlt)
      have HST := Lib.hid (HSF.out k hlt HZ.out)
      have HGO := Lib.hid (fun he => firstE_go (g := feedAt S.F) HZ.out he)
      have hkl : (keysF (S.F.take k)).length ≤ 1000000 := by unfold keysF; simp; omega
      generalize hx : S.F[k] = x at *
      clear hx
      obtain ⟨W2, hW2, hb2, hg2, hx2⟩ := box1 wr #[.string x.name, .int .i64 x.parent, .int .i64 x.a, .int .i64 x.b, .int .i64 x.c] 26
      have HN2 : Names W2 w1.heap.size (keysF (S.F.take k)) := HN.out.below hb2
      generalize keysF (S.F.take k) = ks at *
      go_wp2_with fail
      rw [← hW2]
      clear hW2
      refine (enter_any w1.heap.size ks x.name _ hft HN2 hkl).mono ?_
      rintro e w3 ⟨rfl, hg3, hN3⟩
      have hx3 : ∀ j, w3.cell? ⟨wr.heap.size, j, none⟩ = (#[.string x.name, .int .i64 x.parent, .int .i64 x.a, .int .i64 x.b, .int .i64 x.c] : Array Value)[j]? := fun j => (hg3.cell_far ⟨wr.heap.size, j, none⟩ hg2 (by simp; omega)).trans (hx2 j)
      have hbw2 := hbw.trans (hb2.mono hbw.size)
      have hbw3 := hbw2.grown hg3 hbw2.size (fun j hj => by cases hj; exact Nat.le_refl _)
      have hgw : wr.heap.size < w3.heap.size := Nat.lt_of_lt_of_le hg2 hg3.size
      have hgm3 : w1.heap.size < w3.heap.size := by omega
      clear hc hf hx2 HN2
      obtain ⟨hc, hf⟩ := bcell hbw3
      cases hne : (nameE ks x.name != 0) with
      | true =>
        have h0 : nameE ks x.name ≠ 0 := by simpa using hne
        have HE : Hid (siteE S = nameE ks x.name) := by
          unfold Hid
          rw [HST.out (by rw [HFE.out, feed_name h0]; exact h0), HFE.out, feed_name h0]
        go_wp2_with fail
        go_ret
        exact ⟨ret_int (by rw [HE.out]), below_step hb01 hbw3⟩
      | false =>
        have h0 : nameE ks x.name = 0 := by simpa using hne
        have HNS := Lib.hid (names_step (hN3 h0))
        by_cases hp : x.parent < -1 ∨ (k : Int) ≤ x.parent
        · have HV := Lib.hid (feed_parent (i := k) h0 hp)
          have HE : Hid (siteE S = 1) := by unfold Hid; rw [HST.out (by rw [HFE.out, HV.out]; simp), HFE.out, HV.out]
          clear hN3
          by_cases hp1 : x.parent < -1
          · skip
            go_wp2_with fail
            go_ret
            exact ⟨ret_int (by rw [HE.out]), below_step hb01 hbw3⟩
          · have hp2 : (k : Int) ≤ x.parent := by omega
            go_wp2_with fail
            go_ret
            exact ⟨ret_int (by rw [HE.out]), below_step hb01 hbw3⟩
        · have hp1 : ¬ x.parent < -1 := by omega
          have hp2 : ¬ (k : Int) ≤ x.parent := by omega
          cases hpw : (powB x.a && (powB x.b && powB x.c)) with
          | false =>
            have HV := Lib.hid (feed_power (i := k) h0 hp hpw)
            have HE : Hid (siteE S = 2) := by unfold Hid; rw [HST.out (by rw [HFE.out, HV.out]; simp), HFE.out, HV.out]
            clear hp hN3
            cases ha : powB x.a with
            | false =>
              have hbp := ha
              have hcp := ha
              go_wp2_with (go_at_call 41; refine (isPower_any _ _).mono ?_; rintro e w' ⟨rfl, rfl⟩; (first | rw [ha] | rw [hbp] | rw [hcp]))
              go_ret
              exact ⟨ret_int (by rw [HE.out]), below_step hb01 hbw3⟩
            | true =>
              cases hbp : powB x.b with
              | false =>
                have hcp := hbp
                go_wp2_with (go_at_call 41; refine (isPower_any _ _).mono ?_; rintro e w' ⟨rfl, rfl⟩; (first | rw [ha] | rw [hbp] | rw [hcp]))
                go_ret
                exact ⟨ret_int (by rw [HE.out]), below_step hb01 hbw3⟩
              | true =>
                cases hcp : powB x.c with
                | false =>
                  go_wp2_with (go_at_call 41; refine (isPower_any _ _).mono ?_; rintro e w' ⟨rfl, rfl⟩; (first | rw [ha] | rw [hbp] | rw [hcp]))
                  go_ret
                  exact ⟨ret_int (by rw [HE.out]), below_step hb01 hbw3⟩
                | true => rw [ha, hbp, hcp] at hpw; simp at hpw
          | true =>
            have HV := Lib.hid (feed_ok (i := k) h0 hp hpw)
            have HZ2 := Lib.hid (HGO.out (by rw [HFE.out, HV.out]))
            have hpw' := hpw
            simp only [Bool.and_eq_true] at hpw'
            obtain ⟨ha, hbp, hcp⟩ := hpw'
            clear hp hN3 hpw
            go_wp2_with (go_at_call 41; refine (isPower_any _ _).mono ?_; rintro e w' ⟨rfl, rfl⟩; (first | rw [ha] | rw [hbp] | rw [hcp]))
            go_roundw
            case measure => simp [intOf]; omega
            case rel => exact ⟨k + 1, by omega, by go_num, hbw3, hgm3, by show Names _ _ _; rw [HKS.out]; exact HNS.out, HZ2.out⟩
    · have hkF : k = S.F.length := by omega
      subst hkF
      have HN1 : Names wr w1.heap.size (keysF S.F) := by
        have := HN.out
        rwa [List.take_length] at this
      have HQ := Lib.hid (HSQ.out HZ.out)
      have HO := Lib.hid (HSO.out HZ.out)
      clear HSF HSQ HSO HN HSL1 HFF
      go_wp2_with fail
      clear hc hf
      go_loopw [72] (fun i wr => ∃ k : Nat, k ≤ S.P.length ∧ i = .int .i64 k ∧ Below w1.heap.size w1 wr ∧ w1.heap.size < wr.heap.size ∧ Hid (Names wr w1.heap.size (keysF S.F ++ keysP (S.P.take k))) ∧ Hid (firstE (pntAt S.F S.P) k = 0)) (fun i _ => S.P.length - (intOf i).toNat)
      case atStart => exact ⟨0, by omega, rfl, hbw, hgm, by show Names _ _ _; simpa [keysP] using HN1, rfl⟩
      case round =>
      clear hbw hgm HN1
      obtain ⟨q, hq, rfl, hbw, hgm, HN, HY⟩ := hrel
      obtain ⟨hc, hf⟩ := bcell hbw
      by_cases hlt2 : q < S.P.length
      · have hki : (q : Int) < (S.P.length : Int) := by omega
        obtain ⟨b, off, rfl, hbb, c0, c1, c2, c3, c4⟩ := pnt_at (HSP1.out.below hbw) hlt2
        have HFE := Lib.hid (pntAt_eq (F := S.F) hlt2)
        have HKS := Lib.hid (keysP_step hlt2)
        have hft := HFP.out _ (List.getElem_mem hlt2)
        have HST := Lib.hid (HQ.out q hlt2 HY.out)
        have HGO := Lib.hid (fun he => firstE_go (g := pntAt S.F S.P) HY.out he)
        have hkl : (keysF S.F ++ keysP (S.P.take q)).length ≤ 1000000 := by unfold keysF keysP; simp; omega
        generalize hx : S.P[q] = x at *
        clear hx
        obtain ⟨W2, hW2, hb2, hg2, hx2⟩ := box1 wr #[.string x.name, .int .i64 x.feeder, .int .i64 x.phases, .int .i64 x.rated, .int .i64 x.least] 34
        have HKA : Hid (keysF S.F ++ keysP (S.P.take (q + 1)) = (keysF S.F ++ keysP (S.P.take q)) ++ [keyN x.name]) := by unfold Hid; rw [HKS.out, List.append_assoc]
        have HN2 : Names W2 w1.heap.size (keysF S.F ++ keysP (S.P.take q)) := HN.out.below hb2
        clear HKS
        generalize keysF S.F ++ keysP (S.P.take q) = ks at *
        go_wp2_with fail
        rw [← hW2]
        clear hW2
        refine (enter_any w1.heap.size ks x.name _ hft HN2 hkl).mono ?_
        rintro e w3 ⟨rfl, hg3, hN3⟩
        have hx3 : ∀ j, w3.cell? ⟨wr.heap.size, j, none⟩ = (#[.string x.name, .int .i64 x.feeder, .int .i64 x.phases, .int .i64 x.rated, .int .i64 x.least] : Array Value)[j]? := fun j => (hg3.cell_far ⟨wr.heap.size, j, none⟩ hg2 (by simp; omega)).trans (hx2 j)
        have hbw2 := hbw.trans (hb2.mono hbw.size)
        have hbw3 := hbw2.grown hg3 hbw2.size (fun j hj => by cases hj; exact Nat.le_refl _)
        have hgw : wr.heap.size < w3.heap.size := Nat.lt_of_lt_of_le hg2 hg3.size
        have hgm3 : w1.heap.size < w3.heap.size := by omega
        have hgx3 : w.heap.size < w3.heap.size := by omega
        clear hc hf hx2 HN2
        obtain ⟨hc, hf⟩ := bcell hbw3
        cases hne : (nameE ks x.name != 0) with
        | true =>
          have h0 : nameE ks x.name ≠ 0 := by simpa using hne
          have HE : Hid (siteE S = nameE ks x.name) := by
            unfold Hid
            rw [HST.out (by rw [HFE.out, pnt_name h0]; exact h0), HFE.out, pnt_name h0]
          go_wp2_with fail
          go_ret
          exact ⟨ret_int (by rw [HE.out]), below_step hb01 hbw3⟩
        | false =>
          have h0 : nameE ks x.name = 0 := by simpa using hne
          have HNS := Lib.hid (names_step (hN3 h0))
          clear hN3
          by_cases hp : x.feeder < 0 ∨ (S.F.length : Int) ≤ x.feeder ∨ x.phases < 1 ∨ 7 < x.phases
          · have HV := Lib.hid (pnt_inv (n := S.F.length) h0 hp)
            have HE : Hid (siteE S = 1) := by unfold Hid; rw [HST.out (by rw [HFE.out, HV.out]; simp), HFE.out, HV.out]
            by_cases hp1 : x.feeder < 0 ∨ (S.F.length : Int) ≤ x.feeder
            · skip
              have hif : (decide (0 ≤ x.feeder) && decide (x.feeder < (S.F.length : Int))) = false := by simp; omega
              go_wp2_with fail
              refine (isFeeder_any S.name A S.F.length c _ x.feeder _).mono ?_
              rintro e w4 ⟨rfl, hb4⟩
              rw [hif]
              obtain ⟨hc4, hf4⟩ := bcell hb4
              have hbw4 := hbw3.trans (hb4.mono hbw3.size)
              have hgw4 : wr.heap.size < w4.heap.size := Nat.lt_of_lt_of_le hgw hb4.size
              go_wp2_with fail
              go_ret
              exact ⟨ret_int (by rw [HE.out]), below_step hb01 hbw4⟩
            · by_cases hp2 : x.phases < 1
              · skip
                have hif : (decide (0 ≤ x.feeder) && decide (x.feeder < (S.F.length : Int))) = true := by simp; omega
                go_wp2_with fail
                refine (isFeeder_any S.name A S.F.length c _ x.feeder _).mono ?_
                rintro e w4 ⟨rfl, hb4⟩
                rw [hif]
                obtain ⟨hc4, hf4⟩ := bcell hb4
                have hbw4 := hbw3.trans (hb4.mono hbw3.size)
                have hgw4 : wr.heap.size < w4.heap.size := Nat.lt_of_lt_of_le hgw hb4.size
                go_wp2_with fail
                go_ret
                exact ⟨ret_int (by rw [HE.out]), below_step hb01 hbw4⟩
              · have hp3 : 7 < x.phases := by omega
                have hif : (decide (0 ≤ x.feeder) && decide (x.feeder < (S.F.length : Int))) = true := by simp; omega
                go_wp2_with fail
                refine (isFeeder_any S.name A S.F.length c _ x.feeder _).mono ?_
                rintro e w4 ⟨rfl, hb4⟩
                rw [hif]
                obtain ⟨hc4, hf4⟩ := bcell hb4
                have hbw4 := hbw3.trans (hb4.mono hbw3.size)
                have hgw4 : wr.heap.size < w4.heap.size := Nat.lt_of_lt_of_le hgw hb4.size
                go_wp2_with fail
                go_ret
                exact ⟨ret_int (by rw [HE.out]), below_step hb01 hbw4⟩
          · have hp2 : ¬ x.phases < 1 := by omega
            have hp3 : ¬ 7 < x.phases := by omega
            by_cases hw : powB x.rated = false ∨ x.least < 0 ∨ x.rated < x.least
            · have HV := Lib.hid (pnt_range (n := S.F.length) h0 hp hw)
              have HE : Hid (siteE S = 2) := by unfold Hid; rw [HST.out (by rw [HFE.out, HV.out]; simp), HFE.out, HV.out]
              cases hpr : powB x.rated with
              | false =>
                have hif : (decide (0 ≤ x.feeder) && decide (x.feeder < (S.F.length : Int))) = true := by simp; omega
                go_wp2_with fail
                refine (isFeeder_any S.name A S.F.length c _ x.feeder _).mono ?_
                rintro e w4 ⟨rfl, hb4⟩
                rw [hif]
                obtain ⟨hc4, hf4⟩ := bcell hb4
                have hbw4 := hbw3.trans (hb4.mono hbw3.size)
                have hgw4 : wr.heap.size < w4.heap.size := Nat.lt_of_lt_of_le hgw hb4.size
                go_wp2_with (go_at_call 41; refine (isPower_any _ _).mono ?_; rintro e w' ⟨rfl, rfl⟩; rw [hpr])
                go_ret
                exact ⟨ret_int (by rw [HE.out]), below_step hb01 hbw4⟩
              | true =>
                rw [hpr] at hw
                by_cases hl3 : x.least < 0
                · skip
                  have hif : (decide (0 ≤ x.feeder) && decide (x.feeder < (S.F.length : Int))) = true := by simp; omega
                  go_wp2_with fail
                  refine (isFeeder_any S.name A S.F.length c _ x.feeder _).mono ?_
                  rintro e w4 ⟨rfl, hb4⟩
                  rw [hif]
                  obtain ⟨hc4, hf4⟩ := bcell hb4
                  have hbw4 := hbw3.trans (hb4.mono hbw3.size)
                  have hgw4 : wr.heap.size < w4.heap.size := Nat.lt_of_lt_of_le hgw hb4.size
                  go_wp2_with (go_at_call 41; refine (isPower_any _ _).mono ?_; rintro e w' ⟨rfl, rfl⟩; rw [hpr])
                  go_ret
                  exact ⟨ret_int (by rw [HE.out]), below_step hb01 hbw4⟩
                · have hl4 : x.rated < x.least := by simp at hw; omega
                  have hif : (decide (0 ≤ x.feeder) && decide (x.feeder < (S.F.length : Int))) = true := by simp; omega
                  go_wp2_with fail
                  refine (isFeeder_any S.name A S.F.length c _ x.feeder _).mono ?_
                  rintro e w4 ⟨rfl, hb4⟩
                  rw [hif]
                  obtain ⟨hc4, hf4⟩ := bcell hb4
                  have hbw4 := hbw3.trans (hb4.mono hbw3.size)
                  have hgw4 : wr.heap.size < w4.heap.size := Nat.lt_of_lt_of_le hgw hb4.size
                  go_wp2_with (go_at_call 41; refine (isPower_any _ _).mono ?_; rintro e w' ⟨rfl, rfl⟩; rw [hpr])
                  go_ret
                  exact ⟨ret_int (by rw [HE.out]), below_step hb01 hbw4⟩
            · have HV := Lib.hid (pnt_ok (n := S.F.length) h0 hp hw)
              have HZ2 := Lib.hid (HGO.out (by rw [HFE.out, HV.out]))
              have hpr : powB x.rated = true := by
                cases h : powB x.rated
                · exact absurd (.inl h) hw
                · rfl
              have hl3 : ¬ x.least < 0 := fun h => hw (.inr (.inl h))
              have hl4 : ¬ x.rated < x.least := fun h => hw (.inr (.inr h))
              clear hw
              have hif : (decide (0 ≤ x.feeder) && decide (x.feeder < (S.F.length : Int))) = true := by simp; omega
              go_wp2_with fail
              refine (isFeeder_any S.name A S.F.length c _ x.feeder _).mono ?_
              rintro e w4 ⟨rfl, hb4⟩
              rw [hif]
              obtain ⟨hc4, hf4⟩ := bcell hb4
              have hbw4 := hbw3.trans (hb4.mono hbw3.size)
              have hgw4 : wr.heap.size < w4.heap.size := Nat.lt_of_lt_of_le hgw hb4.size
              go_wp2_with (go_at_call 41; refine (isPower_any _ _).mono ?_; rintro e w' ⟨rfl, rfl⟩; rw [hpr])
              go_roundw
              case measure => simp [intOf]; omega
              case rel => exact ⟨q + 1, by omega, by go_num, hbw4, by omega, by show Names _ _ _; rw [HKA.out]; exact HNS.out.below hb4, HZ2.out⟩
      · have hqP : q = S.P.length := by omega
        subst hqP
        have HE := Lib.hid (HO.out HY.out)
        go_wp2_with fail
        go_ret
        exact ⟨ret_int (by rw [HE.out]), below_step hb01 hbw⟩

end Go.Proofs.YtlpjniejbblcnaaDoor

namespace Go.Proofs.YtlpjniejbblcnaaDoor
open Go.RowKit
set_option linter.unusedVariables false

theorem byte_lt (s : ByteArray) (k : Nat) (h : k < s.size) : 0 ≤ (s[k].toNat : Int) ∧ (s[k].toNat : Int) ≤ 255 := by
  have := s[k].toNat_lt; omega

theorem okC_iff {r : Int} : okC r = true ↔ 0 ≤ valI r ∨ r = 45 ∨ r = 95 ∨ r = 46 ∨ r = 58 ∨ r = 42 := by
  simp [okC]; omega
theorem okC_last {r : Int} (h : ((((r != 45) = false ∨ (r != 95) = false) ∨ (r != 46) = false) ∨ (r != 58) = false) ∨ (r != 42) = false) : okC r = true := by
  simp at h; rw [okC_iff]; omega
theorem okC_none {r : Int} (hv : valI r < 0) (h : ((((r != 45) = true ∧ (r != 95) = true) ∧ (r != 46) = true) ∧ (r != 58) = true) ∧ (r != 42) = true) : okC r = false := by
  simp at h
  cases ho : okC r with
  | false => rfl
  | true => rw [okC_iff] at ho; omega

set_option maxHeartbeats 800000 in
theorem refIdV_any (s : ByteArray) (w : World) (hs : s.size ≤ maxLen) :
    Calls Tryd.prog 61 #[.string s] w fun e w' => e = .returned (.bool (validL s.data.toList)) ∧ ∃ n, w' = w.drewN n := by
  unfold maxLen at hs
  have hll : s.data.toList.length = s.size := by simp
  by_cases hlo : s.size < 1
  · have hv : validL s.data.toList = false := by unfold validL; rw [hll]; simp; omega
    have HV := Lib.hid hv
    clear hv hll
    go_enter Tryd.func61, Tryd.ntmps61
    go_wp2
    go_ret
    exact ⟨ret_bool (by rw [HV.out]), 0, rfl⟩
  · by_cases hhi : 36 < s.size
    · have hv : validL s.data.toList = false := by unfold validL; rw [hll]; simp; omega
      have HV := Lib.hid hv
      clear hv hll
      go_enter Tryd.func61, Tryd.ntmps61
      go_wp2
      go_ret
      exact ⟨ret_bool (by rw [HV.out]), 0, rfl⟩
    · have hv : validL s.data.toList = s.data.toList.all (fun b => okC b.toNat) := by
        unfold validL; rw [hll]; simp; intros; omega
      have HV := Lib.hid hv
      clear hv hll
      go_enter Tryd.func61, Tryd.ntmps61
      go_wp2
      go_loopw [3] (fun i wr => ∃ k : Nat, k ≤ s.size ∧ i = .int .i64 k ∧ Hid (∃ n, wr = w.drewN n) ∧ Hid ((s.data.toList.take k).all (fun b => okC b.toNat) = true)) (fun i _ => s.size - (intOf i).toNat)
      case atStart => exact ⟨0, by omega, rfl, ⟨0, rfl⟩, rfl⟩
      case round =>
        obtain ⟨k, hk, rfl, HW, H⟩ := hrel
        by_cases hlt : k < s.size
        · obtain ⟨hb0, hb1⟩ := byte_lt s k hlt
          go_wp2_with (go_at_call 72; refine (refValue_any _ _ (by omega) (by omega)).mono ?_; rintro e w' ⟨rfl, n', rfl⟩)
          all_goals try (
            have hk' : okC (s[k].toNat : Int) = true := by
              first
                | (rw [okC_iff]; omega)
                | exact okC_last ‹_›
            go_roundw
            case rel => exact ⟨k + 1, by omega, by go_num, drewN_more HW _, by show _ = true; rw [all_take_succ s k hlt, H.out, hk']; rfl⟩
            case measure => simp [intOf]; omega)
          have hb : okC (s[k].toNat : Int) = false := okC_none ‹valI (s[k].toNat : Int) < 0› ‹_›
          go_ret
          exact ⟨ret_bool (by rw [HV.out, all_false_at s k hlt _ hb]), drewN_more HW _⟩
        · have hall := H.out
          rw [all_full s _ k hlt] at hall
          have HA := Lib.hid hall
          clear hall
          go_wp2
          go_ret
          exact ⟨ret_bool (by rw [HV.out, HA.out]), HW.out⟩

theorem sumL_take (s : ByteArray) (k : Nat) (h : k < s.size) (p n : Int) : sumL (s.data.toList.take (k + 1)) p n = if valI (s[k].toNat : Int) < 0 then sumL (s.data.toList.take k) p n else (sumStep (sumL (s.data.toList.take k) p n).1 (valI (s[k].toNat : Int)), (sumL (s.data.toList.take k) p n).2 + 1) := by
  rw [bytes_at s k h, sumL_append]

theorem sumL_full (s : ByteArray) (k : Nat) (h : ¬ k < s.size) (p n : Int) : sumL (s.data.toList.take k) p n = sumL s.data.toList p n := by
  rw [List.take_of_length_le (by simp; omega)]

theorem sumStep_zero {p v : Int} (h : ((p + v) % 36 == 0) = true) : sumStep p v = 35 := by simp at h; unfold sumStep; rw [if_pos (by omega)]
theorem sumStep_pos {p v : Int} (h : ((p + v) % 36 == 0) = false) : sumStep p v = 2 * ((p + v) % 36) % 37 := by simp at h; unfold sumStep; rw [if_neg (by omega)]

end Go.Proofs.YtlpjniejbblcnaaDoor
