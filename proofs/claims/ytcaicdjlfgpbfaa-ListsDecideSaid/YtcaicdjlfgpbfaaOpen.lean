/-
  Arguments that came in, opened: a type of plain data laid out as a list of kinds of cells; slices read as rows. No program is named here.
-/
import Derived.Test.YtcaicdjlfgpbfaaSl
import Derived.ProofKit
import Derived.OpenShut
import Derived.Deep.Slices
namespace Go.Proofs.Ytcaicdjlfgpbfaa
open Go.RowKit
set_option linter.unusedVariables false

/-- the kind of a cell -/
inductive CellK where
  | bool
  | int (k : IntKind)
  | str
  | sl (e : List CellK)

mutual
/-- the cell v, read in w, is of this kind -/
def CellK.fits (w : World) : CellK → Value → Prop
  | .bool, v => ∃ b, v = .bool b
  | .int k, v => ∃ n, v = .int k n ∧ (Lit.int k n).wf = true
  | .str, v => ∃ s : ByteArray, v = .string s ∧ s.size ≤ maxLen
  | .sl e, v => ∃ rows : List (List Value), IsSl w e.length v rows ∧ ∀ row ∈ rows, CellK.fitsAll w e row
def CellK.fitsAll (w : World) : List CellK → List Value → Prop
  | [], vs => vs = []
  | k :: ks, vs => ∃ v r, vs = v :: r ∧ CellK.fits w k v ∧ CellK.fitsAll w ks r
end

theorem fitsAll_append {w : World} : ∀ {a b : List CellK} {xs ys : List Value}, CellK.fitsAll w a xs → CellK.fitsAll w b ys → CellK.fitsAll w (a ++ b) (xs ++ ys)
  | [], b, xs, ys, h, h2 => by unfold CellK.fitsAll at h; subst h; exact h2
  | k :: a, b, xs, ys, h, h2 => by
    unfold CellK.fitsAll at h
    obtain ⟨v, r, rfl, h0, h1⟩ := h
    rw [List.cons_append, List.cons_append]
    unfold CellK.fitsAll
    exact ⟨v, r ++ ys, rfl, h0, fitsAll_append h1 h2⟩

/-- the cells of a type of plain data -/
def flatK (P : Program) : Nat → TypeId → Option (List CellK)
  | 0, _ => none
  | n + 1, t =>
    match P.underlying t with
    | some .bool => some [.bool]
    | some (.int k) => some [.int k]
    | some .string => some [.str]
    | some (.slice e) => (flatK P n e).bind fun ks => if ks.length = P.cellsOf e ∧ 0 < ks.length then some [.sl ks] else none
    | some (.struct fs) =>
      (fs.toList.foldlM (fun acc f => if f.offset = acc.length then (flatK P n f.type).bind fun ks => if ks.length = P.cellsOf f.type then some (acc ++ ks) else none else none) []).bind fun ks => if ks.length = P.cellsOf t then some ks else none
    | _ => none

section
variable {H : Type} {enc : TypeId × Value → H} {P : Program} {w : World} {held : Bool}

theorem flat_fields {n : Nat} {cs : List Value} {m : Nat} (ih : ∀ t ks, flatK P n t = some ks → ∀ fuel cs x, DataW.trod enc P w 0 (fun _ => true) held fuel t cs = some x → CellK.fitsAll w ks cs) :
    ∀ (l : List Field) (acc r : List CellK), l.foldlM (fun acc f => if f.offset = acc.length then (flatK P n f.type).bind fun ks => if ks.length = P.cellsOf f.type then some (acc ++ ks) else none else none) acc = some r →
      (∀ f ∈ l, ∃ y, DataW.trod enc P w 0 (fun _ => true) held m f.type ((cs.drop f.offset).take (P.cellsOf f.type)) = some y) → CellK.fitsAll w acc (cs.take acc.length) → CellK.fitsAll w r (cs.take r.length)
  | [], acc, r, h, _, h0 => by simp at h; subst h; exact h0
  | f :: l, acc, r, h, hf, h0 => by
    rw [List.foldlM_cons] at h
    simp only [Option.bind_eq_bind, Option.bind_eq_some_iff] at h
    obtain ⟨acc2, h1, h2⟩ := h
    split at h1
    · rename_i ho
      rw [Option.bind_eq_some_iff] at h1
      obtain ⟨ks, hk, h1⟩ := h1
      split at h1
      · rename_i hc
        injection h1 with h1
        subst h1
        refine flat_fields ih l _ r h2 (fun g hg => hf g (by simp [hg])) ?_
        obtain ⟨y, hy⟩ := hf f (by simp)
        have hx := ih _ _ hk _ _ _ hy
        rw [ho, ← hc] at hx
        rw [List.length_append, List.take_add]
        exact fitsAll_append h0 hx
      · simp at h1
    · simp at h1

theorem cell_lt {w : World} {a : Addr} {v : Value} (h : w.cell? a = some v) : a.block < w.heap.size := by
  unfold World.cell? at h
  split at h
  · rename_i c e f hb
    exact (Array.getElem?_eq_some_iff.1 hb).1
  · simp at h

theorem flatK_trod : ∀ (n : Nat) (t : TypeId) (ks : List CellK), flatK P n t = some ks → ∀ (fuel : Nat) (cs : List Value) (x : DataW H × List MemPlace), DataW.trod enc P w 0 (fun _ => true) held fuel t cs = some x → CellK.fitsAll w ks cs
  | 0, t, ks, h, _, _, _, _ => by simp [flatK] at h
  | n + 1, t, ks, h, fuel, cs, x, hx => by
    unfold flatK at h
    split at h
    · rename_i hu
      injection h with h; subst h
      obtain ⟨b, rfl, _⟩ := DataW.trod_bool hu hx
      simp [CellK.fitsAll, CellK.fits]
    · rename_i k hu
      injection h with h; subst h
      obtain ⟨m, rfl, _, hw⟩ := DataW.trod_int hu hx
      simp [CellK.fitsAll, CellK.fits, hw]
    · rename_i hu
      injection h with h; subst h
      obtain ⟨s, rfl, _, hw⟩ := DataW.trod_string hu hx
      simp only [CellK.fitsAll, CellK.fits]
      exact ⟨_, _, rfl, ⟨s, rfl, hw⟩, rfl⟩
    · rename_i e hu
      rw [Option.bind_eq_some_iff] at h
      obtain ⟨es, he, h⟩ := h
      split at h
      · rename_i hc
        injection h with h; subst h
        simp only [CellK.fitsAll, CellK.fits]
        rcases Go.Deep.open_slice hu hx with ⟨rfl, _⟩ | ⟨a, len, cap, m, q, D, Pl, rfl, hb, hl, hcm, hm, _, hel⟩
        · exact ⟨_, _, rfl, ⟨[], IsSl.nil _ _, by simp⟩, rfl⟩
        · refine ⟨_, _, rfl, ?_, rfl⟩
          have hm' : m = cap := by rw [hm]; simp
          subst hm'
          obtain ⟨R, hR⟩ := Go.Deep.choose_lt (α := List Value) (p := fun i r => w.cells? 0 (a.add (i * P.cellsOf e)) (P.cellsOf e) = some r ∧ CellK.fitsAll w es r) (n := len) (fun i hi => by
            obtain ⟨r, h1, h2⟩ := hel i (by omega)
            exact ⟨r, h1, flatK_trod n e es he _ _ _ h2⟩)
          refine ⟨(List.range len).map R, ⟨some a, m, by simp, by simpa using hl, hcm, ?_⟩, ?_⟩
          · intro k row hk
            rw [List.getElem?_map] at hk
            have hkl : k < len := by
              rcases Nat.lt_or_ge k len with h | h
              · exact h
              · rw [List.getElem?_eq_none (by simpa using h)] at hk; simp at hk
            rw [List.getElem?_range hkl] at hk
            obtain rfl : R k = row := by simpa using hk
            have hcell : ∀ i j, i < len → j < es.length → w.cell? (a.add (i * es.length + j)) = (R i)[j]? := fun i j hi hj => by
              obtain ⟨_, _, h3⟩ := World.cells?_some (hR i hi).1
              rw [hc.1, ← Go.Deep.add_add]
              exact h3 j (by rw [← hc.1]; exact hj)
            have hlenR : ∀ i, i < len → (R i).length = es.length := fun i hi => by
              obtain ⟨_, h2, _⟩ := World.cells?_some (hR i hi).1
              rw [h2, hc.1]
            have h00 := hcell 0 0 (by omega) hc.2
            have h0s : w.cell? a = some ((R 0)[0]'(by rw [hlenR 0 (by omega)]; exact hc.2)) := by
              simp only [Nat.zero_mul, Nat.zero_add] at h00
              have ha : a.add 0 = a := by unfold Addr.add; simp
              rw [ha] at h00
              rw [h00, List.getElem?_eq_getElem]
            have hspot := World.cell?_spot h0s
            obtain ⟨b, off, spot⟩ := a
            have hspot' : spot = none := hspot
            subst hspot'
            refine ⟨b, off, rfl, cell_lt h0s, fun j u hu => ?_⟩
            have hj : j < es.length := by rw [← hlenR k hkl]; exact (List.getElem?_eq_some_iff.1 hu).1
            have h4 := hcell k j hkl hj
            rw [hu] at h4
            have ea : (⟨b, off, none⟩ : Addr).add (k * es.length + j) = ⟨b, off + k * es.length + j, none⟩ := by
              unfold Addr.add
              split
              · rename_i hz
                first | (simp; done) | (simp; omega)
              · first | (simp; done) | (simp; omega)
            rw [ea] at h4
            exact h4
          · intro row hr
            obtain ⟨i, hi, rfl⟩ := List.mem_map.1 hr
            exact (hR i (List.mem_range.1 hi)).2
      · simp at h
    · rename_i fs hu
      rw [Option.bind_eq_some_iff] at h
      obtain ⟨r, hr, h⟩ := h
      split at h
      · rename_i hc
        injection h with h; subst h
        obtain ⟨xs, q, _, _, hl, hlen, hf⟩ := DataW.trod_struct hu hx
        have hh := flat_fields (cs := cs) (m := q) (fun t ks hk fuel cs x hx => flatK_trod n t ks hk fuel cs x hx) fs.toList [] r hr (fun f hf' => by
          obtain ⟨i, hi⟩ := List.getElem?_of_mem hf'
          have hi' : fs[i]? = some f := by simpa using hi
          have hil : i < xs.length := by rw [hlen]; exact (Array.getElem?_eq_some_iff.1 hi').1
          exact ⟨xs[i], by rw [hf i f hi', List.getElem?_eq_getElem hil]⟩) (by simp [CellK.fitsAll])
        rw [hc, ← hl, List.take_of_length_le (by omega)] at hh
        exact hh
      · simp at h
    · simp at h

/-- an argument of plain data, opened -/
theorem open_arg {t : TypeId} {v : Value} {d : DataW H} {p : List MemPlace} (ks : List CellK) (hk : flatK P 9 t = some ks) (hd : DataW.Trod enc P w 0 (fun _ => true) held t v d p) : CellK.fitsAll w ks v.cells.toList := by
  obtain ⟨fuel, h⟩ := hd
  exact flatK_trod 9 t ks hk fuel _ _ h

theorem open_struct {r : Reach} {b0 : Nat} {t : TypeId} {fs : Array Field} {v : Value} {d : DataW H} {p : List MemPlace} (ks : List CellK) (hk : flatK P 9 t = some ks) (hu : P.underlying t = some (.struct fs)) (hval : Value.okWide P w r b0 t v)
    (hd : DataW.Trod enc P w 0 (fun _ => true) held t v d p) : ∃ cs, v = .agg cs ∧ CellK.fitsAll w ks cs.toList := by
  have h := open_arg ks hk hd
  unfold Value.okWide at hval
  rw [hu] at hval
  obtain ⟨cs, rfl, _⟩ := hval
  exact ⟨cs, rfl, h⟩

theorem open_sl {r : Reach} {b0 : Nat} {t e : TypeId} {v : Value} {d : DataW H} {p : List MemPlace} (ks : List CellK) (hk : flatK P 9 t = some [.sl ks]) (hu : P.underlying t = some (.slice e)) (hval : Value.okWide P w r b0 t v)
    (hd : DataW.Trod enc P w 0 (fun _ => true) held t v d p) : ∃ rows : List (List Value), IsSl w ks.length v rows ∧ ∀ row ∈ rows, CellK.fitsAll w ks row := by
  have h := open_arg _ hk hd
  unfold CellK.fitsAll at h
  obtain ⟨x, r, hx, hf, hr⟩ := h
  unfold CellK.fitsAll at hr
  subst hr
  have hv : v = x := by
    cases v with
    | agg cs =>
      unfold Value.okWide at hval
      rw [hu] at hval
      simp [Cell.okWide, Cell.ok, hu] at hval
    | _ => simp [Value.cells] at hx; exact hx
  subst hv
  unfold CellK.fits at hf
  exact hf

end

theorem agg_of {cs : Array Value} {l : List Value} (h : cs.toList = l) : Value.agg cs = Value.agg l.toArray := by rw [← h]

/-- rows that fit, as a list of structures -/
theorem rows_list {α : Type} {enc : α → List Value} {Q : α → Prop} {w : World} {ks : List CellK} (hq : ∀ row, CellK.fitsAll w ks row → ∃ x, row = enc x ∧ Q x) :
    ∀ (rows : List (List Value)), (∀ row ∈ rows, CellK.fitsAll w ks row) → ∃ l : List α, rows = l.map enc ∧ ∀ x ∈ l, Q x
  | [], _ => ⟨[], rfl, by simp⟩
  | row :: rows, h => by
    obtain ⟨x, rfl, hx⟩ := hq row (h row (by simp))
    obtain ⟨l, rfl, hl⟩ := rows_list hq rows (fun r hr => h r (by simp [hr]))
    exact ⟨x :: l, rfl, fun y hy => by rcases List.mem_cons.1 hy with rfl | hy; exact hx; exact hl y hy⟩

end Go.Proofs.Ytcaicdjlfgpbfaa
