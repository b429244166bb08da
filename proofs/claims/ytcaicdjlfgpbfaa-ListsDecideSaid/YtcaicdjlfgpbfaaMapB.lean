/-
  A map of strings to bools that the call makes: names that are taken. No program is named here.
-/
import Derived.Test.YtcaicdjlfgpbfaaBase
import Derived.Maps.OwnOps
import Derived.Maps.Views
import Derived.Maps.Keyed
import Derived.StringKeys
namespace Go.Proofs.Ytcaicdjlfgpbfaa
open Go.RowKit Go.Maps Go.MapKept Go.WideMaps Go.ChangeMaps
set_option linter.unusedVariables false

section
variable {P : Program}

theorem plainElem_bool_inv {H : Type} {e : TypeId} (he : P.underlying e = some .bool) {v : Value} {z : DataW H × List MemPlace} (h : plainElem P e v = some z) : ∃ x, v = .bool x ∧ z = (.lit (.bool x), []) := by
  unfold plainElem at h
  rw [he] at h
  cases v <;> simp at h
  subst h
  exact ⟨_, rfl, rfl⟩

/-- the map at block b holds true at the names 'ns', and nothing else -/
def Taken (P : Program) (K E : TypeId) (w : World) (b : Nat) (ns : List (List UInt8)) : Prop :=
  ∃ n D, w.ownsMap (H := Unit) P K (plainElem P E) b n D ∧ n ≤ ns.length ∧ ∀ s : List UInt8, D.atKey (.string s) (.lit (.bool false)) = .lit (.bool (decide (s ∈ ns)))

theorem taken_made (w : World) (K E : TypeId) : Taken P K E (w.alloc (.map #[] 0)) w.heap.size [] :=
  ⟨0, .map [], World.ownsMap_made w P K _, Nat.le_refl _, fun s => by simp [DataW.atKey]⟩

theorem Taken.lt {K E : TypeId} {w : World} {b : Nat} {ns : List (List UInt8)} (h : Taken P K E w b ns) : b < w.heap.size := by
  obtain ⟨n, D, h1, _⟩ := h
  exact h1.lt

theorem Taken.below {K E : TypeId} {w w' : World} {b : Nat} {ns : List (List UInt8)} (h : Taken P K E w b ns) (hb : Below w.heap.size w w') : Taken P K E w' b ns := by
  obtain ⟨n, D, ⟨es, clock, h1, F, hs, hD⟩, h2, h3⟩ := h
  have hlt := (Array.getElem?_eq_some_iff.1 h1).1
  exact ⟨n, D, ⟨es, clock, (hb.block b hlt).trans h1, F, hs, hD⟩, h2, h3⟩

theorem wpList_lookup_taken (w : World) {ops : Array Oper} {rest : List Oper} {o : Oper} {a : Act} {Q : Exit → Act → World → Prop}
    (hg : o.guard = none) (m x : Operand) (t : TypeId) (hop : o.op = Op.lookup t m x false)
    (K E : TypeId) (hk : P.underlying K = some .string) (ht : P.underlying t = some (.map K E)) (he : P.underlying E = some .bool) (hz : ∀ w, (zeroValue E).run P w = .ok (.bool false) w) (b : Nat) (ns : List (List UInt8))
    (hm : a.eval m = .map (some b)) (hown : Taken P K E w b ns) (s : ByteArray) (hx : a.eval x = .string s) (hs : s.size ≤ maxLen)
    (hK : wpList P ops Q rest (a.put o.dst (.bool (decide (s.data.toList ∈ ns)))) w) :
    wpList P ops Q (o :: rest) a w := by
  refine wpList_plain hg fun K' hK' => ?_
  obtain ⟨n, D, h1, h2, h3⟩ := hown
  obtain ⟨v, ps, hrun, hv⟩ := h1.lookup (string_keyed hk) ht (hz w) (plainElem_bool he false) (keyOf_string_mk hk hs)
  obtain ⟨c, rfl, hc⟩ := plainElem_bool_inv he hv
  rw [h3] at hc
  simp only [Prod.mk.injEq, DataW.lit.injEq, Lit.bool.injEq] at hc
  obtain ⟨rfl, _⟩ := hc
  unfold Oper.wp
  simp [execOp, hop, hm, hx, hrun, Result.andThen]
  exact hK' _ _ hK

theorem wpList_update_taken (w : World) {ops : Array Oper} {rest : List Oper} {o : Oper} {a : Act} {Q : Exit → Act → World → Prop}
    (hg : o.guard = none) (m x v : Operand) (t : TypeId) (hop : o.op = Op.mapUpdate t m x v)
    (K E : TypeId) (hk : P.underlying K = some .string) (ht : P.underlying t = some (.map K E)) (he : P.underlying E = some .bool) (b : Nat) (ns : List (List UInt8))
    (hm : a.eval m = .map (some b)) (hown : Taken P K E w b ns) (hn : ns.length < maxLen) (s : ByteArray) (hx : a.eval x = .string s) (hs : s.size ≤ maxLen) (hv : a.eval v = .bool true)
    (hK : ∀ w', Taken P K E w' b (s.data.toList :: ns) → w.grownBy w' (some b) → wpList P ops Q rest (a.put o.dst undef) w') :
    wpList P ops Q (o :: rest) a w := by
  obtain ⟨n, D, h1, h2, h3⟩ := hown
  have hmap : IsMap D := by
    obtain ⟨es, clock, _, _, _, rfl⟩ := h1
    exact ⟨_, rfl⟩
  refine wpList_mapUpdate_own w hg m x v t hop K E (string_keyed hk) ht _ b n D hm h1 (by omega) (.string s) (.bool true) (.string s.data.toList) hx hv (keyOf_string_mk hk hs) (.lit (.bool true)) [] (plainElem_bool he true) fun w' g1 g2 => ?_
  refine hK w' ⟨n + 1, _, g1, by simp; omega, fun u => ?_⟩ g2
  by_cases hu : u = s.data.toList
  · subst hu
    rw [atKey_put_same hmap (by trivial)]
    simp
  · rw [atKey_put_other (by simpa using hu), h3]
    simp [hu]
theorem grown_of_below {w w' : World} (hb : Below w.heap.size w w') (row : Option Nat) : w.grownBy w' row := ⟨hb.os, hb.tape, hb.output, hb.size, fun k hk _ => hb.block k hk⟩

theorem Taken.congr {K E : TypeId} {w : World} {b : Nat} {ns ms : List (List UInt8)} (h : Taken P K E w b ns) (hm : ∀ x, x ∈ ns ↔ x ∈ ms) (hl : ns.length ≤ ms.length) : Taken P K E w b ms := by
  obtain ⟨n, D, h1, h2, h3⟩ := h
  exact ⟨n, D, h1, Nat.le_trans h2 hl, fun s => by rw [h3 s]; simp [hm s]⟩
end

end Go.Proofs.Ytcaicdjlfgpbfaa
