/-
  copy, make and stores of elements of several cells. No program is named here.
-/
import Derived.Test.YtcaicdjlfgpbfaaAp
import Derived.Laws.CopyOwn
namespace Go.Proofs.Ytcaicdjlfgpbfaa
open Go.RowKit

section
variable {P : Program}

theorem run_copy_rows (w : World) (dT sT ty elem : TypeId) (size dLen dCap sLen sCap : Nat) (D A : Option Addr) (hu : P.underlying dT = some (.slice elem)) (i : TypeInfo) (hi : P.info? elem = some i) (hsz : i.size = size)
    (g off : Nat) (cur : List Value) (t : TypeId) (hg : w.heap[g]? = some (.cells cur.toArray t (0, 0))) (cs : List Value) (hn : cs.length = Nat.min sLen dLen * size)
    (hpos : 0 < cs.length → D = some ⟨g, off, none⟩ ∧ ∃ ad, A = some ad ∧ ∀ j v, cs[j]? = some v → w.cell? (ad.add j) = some v)
    (hfit : off + cs.length ≤ cur.length) (h1 : ∀ v ∈ cs, v.oneCell' = true) :
    ∃ w', (Builtin.copy_ #[dT, sT] ty #[.slice D dLen dCap, .slice A sLen sCap]).run P w = .ok (goInt (Nat.min sLen dLen : Nat)) w' ∧ w'.heap[g]? = some (.cells (splice cur off cs).toArray t (0, 0)) ∧ w.grownBy w' (some g) := by
  by_cases h0 : cs.length = 0
  · have hcs : cs = [] := List.eq_nil_of_length_eq_zero h0
    have hz : Nat.min sLen dLen * size = 0 := by rw [← hn]; exact h0
    refine ⟨w, ?_, by rw [hcs]; simpa [splice] using hg, World.grownBy.refl w _⟩
    have hl : ∀ a : Addr, (loadCells a 0).run P w = .ok #[] w := fun a => by
      have := run_loadCells_list (P := P) w a [] (by simp)
      simpa using this
    cases A <;> cases D <;> simp [Builtin.copy_, run_underlying hu, Builtin.lenOf, Builtin.firstCells, sizeOf, typeInfo, hi, hsz, hz, storeCells, hl]
  · obtain ⟨rfl, ad, rfl, hsrc⟩ := hpos (by omega)
    have hl := run_loadCells_list (P := P) w ad cs hsrc
    have hst := run_storeCells_at P g off t cs 0 cur.toArray w hg (by simpa using hfit) h1
    refine ⟨_, ?_, setRow_heap w g _ _ t _ hg, ⟨rfl, rfl, rfl, by simp [World.setRow], fun k _ hk => setRow_other w g k _ (fun e => hk (by rw [e]))⟩⟩
    rw [hn] at hl
    simp [Builtin.copy_, run_underlying hu, Builtin.lenOf, Builtin.firstCells, sizeOf, typeInfo, hi, hsz, hl, hst, splice]

theorem wpList_copy_rows {w : World} {ops : Array Oper} {rest : List Oper} {o : Oper} {a : Act} {Q : Exit → Act → World → Prop} (hgd : o.guard = none) (d s : Operand) (dT sT : TypeId)
    (ho : o.op = .call { callee := .builtin .copy, args := #[d, s], argTypes := #[dT, sT] }) (elem : TypeId) (size : Nat) (hu : P.underlying dT = some (.slice elem)) (i : TypeInfo) (hi : P.info? elem = some i) (hsz : i.size = size)
    (D A : Option Addr) (dLen dCap sLen sCap : Nat) (hd : a.eval d = .slice D dLen dCap) (hs : a.eval s = .slice A sLen sCap)
    (g off : Nat) (cur : List Value) (t : TypeId) (hg : w.heap[g]? = some (.cells cur.toArray t (0, 0))) (cs : List Value) (hn : cs.length = Nat.min sLen dLen * size)
    (hpos : 0 < cs.length → D = some ⟨g, off, none⟩ ∧ ∃ ad, A = some ad ∧ ∀ j v, cs[j]? = some v → w.cell? (ad.add j) = some v)
    (hfit : off + cs.length ≤ cur.length) (h1 : ∀ v ∈ cs, v.oneCell' = true)
    (h : ∀ w', w'.heap[g]? = some (.cells (splice cur off cs).toArray t (0, 0)) → w.grownBy w' (some g) → wpList P ops Q rest (a.put o.dst (goInt (Nat.min sLen dLen : Nat))) w') :
    wpList P ops Q (o :: rest) a w := by
  refine wpList_plain hgd fun K hK => ?_
  obtain ⟨w', hrun, h2, h3⟩ := run_copy_rows (P := P) w dT sT o.type elem size dLen dCap sLen sCap D A hu i hi hsz g off cur t hg cs hn hpos hfit h1
  unfold Oper.wp
  simp [execOp, ho, resolve, invoke, builtin, hd, hs, hrun, Result.andThen]
  exact hK _ _ (h w' h2 h3)

theorem run_make_rowN (t e : TypeId) (i : TypeInfo) (z : Value) (ht : P.underlying t = some (.slice e)) (hi : P.info? e = some i) (hz : i.zero = some z)
    (kl kc : IntKind) (n c : Nat) (C : Int) (hC : C = (c : Int)) (hnc : n ≤ c) (hbytes : i.bytes * c ≤ 281474976710656) (h63 : c ≤ 9223372036854775807) (w : World) :
    (Instr.makeSlice t (.int kl (n : Int)) (.int kc C)).run P w = .ok (.slice (some ⟨w.heap.size, 0, none⟩) n c) (w.alloc (.cells (madeCells z.cells (c * i.size)) e)) := by
  subst hC
  have hb : (i.bytes : Int) * (c : Int) ≤ 281474976710656 := by
    have h : ((i.bytes * c : Nat) : Int) ≤ 281474976710656 := by omega
    rwa [Int.natCast_mul] at h
  have hr := run_make (P := P) w t e i z ht hi hz kl kc n c (by omega) (by omega) hb (by omega)
  simp only [Int.toNat_natCast] at hr
  exact hr
end

/-- the cells that a slice's rows are read from, laid end to end, as a copy wants them -/
theorem src_rows {α : Type} {enc : α → List Value} {w : World} {size : Nat} (hs : ∀ x, (enc x).length = size) (hpos : 0 < size) {A : Option Addr} {l : List α} (h : SlAt w size A (l.map enc)) (hne : l ≠ []) :
    ∃ ad, A = some ad ∧ ∀ j v, (l.flatMap enc)[j]? = some v → w.cell? (ad.add j) = some v := by
  have h0 : 0 < l.length := List.length_pos_iff.2 hne
  obtain ⟨b, off, rfl, _, _⟩ := h 0 (enc l[0]) (by rw [List.getElem?_map, List.getElem?_eq_getElem h0]; rfl)
  refine ⟨_, rfl, fun j v hj => ?_⟩
  have hjl : j < (l.flatMap enc).length := (List.getElem?_eq_some_iff.1 hj).1
  rw [flat_len enc size hs] at hjl
  have hk : j / size < l.length := by rw [Nat.div_lt_iff_lt_mul hpos]; exact hjl
  obtain ⟨b', off', e, _, hc⟩ := h (j / size) (enc l[j / size]) (by rw [List.getElem?_map, List.getElem?_eq_getElem hk]; rfl)
  injection e with e
  injection e with e1 e2 _
  subst e1; subst e2
  have hm : j % size < size := Nat.mod_lt _ hpos
  have hrow : (enc l[j / size])[j % size]? = some ((enc l[j / size])[j % size]'(by rw [hs]; exact hm)) := List.getElem?_eq_getElem _
  have hf := flat_at enc size hs l (j / size) l[j / size] (List.getElem?_eq_getElem hk) (j % size) _ hrow
  rw [show j / size * size + j % size = j from Nat.div_add_mod' j size] at hf
  rw [hf] at hj
  injection hj with hj
  have := hc (j % size) _ hrow
  rw [hj] at this
  have ea : ((⟨b, off, none⟩ : Addr).add j) = ⟨b, off + j / size * size + j % size, none⟩ := by
    have hdm := Nat.div_add_mod' j size
    unfold Addr.add
    split
    · rename_i hj0; subst hj0; simp
    · simp; omega
  rw [ea]
  exact this

/-- a new row into whose head all rows of a list were copied -/
theorem own_copied {α : Type} {enc : α → List Value} {w : World} {size : Nat} (hs : ∀ x, (enc x).length = size) {base g c : Nat} {e : TypeId} {l : List α} {cur : List Value} (hb : base ≤ g) (hg : w.heap[g]? = some (.cells (splice cur 0 (l.flatMap enc)).toArray e (0, 0)))
    (hc : cur.length = c * size) (hlc : l.length ≤ c) (hcm : c ≤ maxLen) : w.ownsRow base e size (.slice (some ⟨g, 0, none⟩) l.length c) l.length (l.flatMap enc) := by
  have hf := flat_len enc size hs l
  have hle : l.length * size ≤ c * size := Nat.mul_le_mul_right _ hlc
  refine ⟨hf, .inr ⟨g, c, _, rfl, hb, hg, hlc, hcm, ?_, ?_⟩⟩
  · have := length_splice cur 0 (l.flatMap enc) (by omega)
    simp only [List.size_toArray]; omega
  · simp only [splice, List.take_zero, List.nil_append]
    rw [← hf, List.take_left]

/-- five cells of a row, stored one by one -/
theorem set_row5 {α : Type} {enc : α → List Value} (hs : ∀ x, (enc x).length = 5) (l : List α) (k : Nat) (x : α) (v0 v1 v2 v3 v4 : Value) (hx : enc x = [v0, v1, v2, v3, v4]) :
    (((((l.flatMap enc).set (k * 5) v0).set (k * 5 + 1) v1).set (k * 5 + 2) v2).set (k * 5 + 3) v3).set (k * 5 + 4) v4 = (l.set k x).flatMap enc := by
  have hf := flat_len enc 5 hs l
  have hf2 := flat_len enc 5 hs (l.set k x)
  apply List.ext_getElem?
  intro j
  by_cases hj : j < l.length * 5
  · have hj5 : j / 5 < l.length := by omega
    have hdm := Nat.div_add_mod' j 5
    have hm : j % 5 < 5 := Nat.mod_lt _ (by omega)
    have key : ∀ (m : List α) (q : Nat) (y : α), m[q]? = some y → ∀ i u, (enc y)[i]? = some u → (m.flatMap enc)[q * 5 + i]? = some u := fun m q y h => flat_at enc 5 hs m q y h
    have hR : ((l.set k x).flatMap enc)[j]? = (enc ((l.set k x)[j / 5]'(by simpa using hj5)))[j % 5]? := by
      have hrow : (enc ((l.set k x)[j / 5]'(by simpa using hj5)))[j % 5]? = some ((enc ((l.set k x)[j / 5]'(by simpa using hj5)))[j % 5]'(by rw [hs]; exact hm)) := List.getElem?_eq_getElem _
      have := key (l.set k x) (j / 5) _ (List.getElem?_eq_getElem (by simpa using hj5)) (j % 5) _ hrow
      rw [hdm] at this
      rw [this, hrow]
    have hL : (l.flatMap enc)[j]? = (enc (l[j / 5]'hj5))[j % 5]? := by
      have hrow : (enc (l[j / 5]'hj5))[j % 5]? = some ((enc (l[j / 5]'hj5))[j % 5]'(by rw [hs]; exact hm)) := List.getElem?_eq_getElem _
      have := key l (j / 5) _ (List.getElem?_eq_getElem hj5) (j % 5) _ hrow
      rw [hdm] at this
      rw [this, hrow]
    rw [hR]
    simp only [List.getElem?_set, List.length_set, hf]
    by_cases hq : j / 5 = k
    · have e : (l.set k x)[j / 5]'(by simpa using hj5) = x := by simp [hq]
      rw [e, hx]
      have hcase : j % 5 = 0 ∨ j % 5 = 1 ∨ j % 5 = 2 ∨ j % 5 = 3 ∨ j % 5 = 4 := by omega
      rcases hcase with h | h | h | h | h <;> rw [h]
      · rw [if_neg (by omega), if_neg (by omega), if_neg (by omega), if_neg (by omega), if_pos (by omega), if_pos (by omega)]; rfl
      · rw [if_neg (by omega), if_neg (by omega), if_neg (by omega), if_pos (by omega), if_pos (by omega)]; rfl
      · rw [if_neg (by omega), if_neg (by omega), if_pos (by omega), if_pos (by omega)]; rfl
      · rw [if_neg (by omega), if_pos (by omega), if_pos (by omega)]; rfl
      · rw [if_pos (by omega), if_pos (by omega)]; rfl
    · have e : (l.set k x)[j / 5]'(by simpa using hj5) = l[j / 5]'hj5 := by rw [List.getElem_set_ne (by omega)]
      rw [e, if_neg (by omega), if_neg (by omega), if_neg (by omega), if_neg (by omega), if_neg (by omega), hL]
  · rw [List.getElem?_eq_none (by simp only [List.length_set, hf]; omega), List.getElem?_eq_none (by rw [hf2, List.length_set]; omega)]

end Go.Proofs.Ytcaicdjlfgpbfaa
