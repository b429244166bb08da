/-
  A map of strings to tokens that the call makes, as a function of its keys. No program is named here.
-/
import Derived.Test.YtcaicdjlfgpbfaaPList
import Derived.Test.YtcaicdjlfgpbfaaMapB
import Derived.Maps.OwnOps
import Derived.Maps.OwnSet
import Derived.Maps.RangeWalk
namespace Go.Proofs.Ytcaicdjlfgpbfaa
open Go.RowKit Go.Maps Go.MapKept Go.WideMaps Go.ChangeMaps
set_option linter.unusedVariables false

/-- a token, as a datum -/
def litT (t : Tok) : DataW Unit := .agg [.lit (.string t.id.data.toList), .lit (.string t.group.data.toList), .lit (.string t.contract.data.toList), .lit (.int .i64 t.kind), .lit (.int .i64 t.status), .lit (.int .i64 t.expiry)]
theorem bytes_inj {a b : ByteArray} (h : a.data.toList = b.data.toList) : a = b := by
  cases a; cases b
  simp at h
  subst h; rfl
theorem litT_inj {a b : Tok} (h : litT a = litT b) : a = b := by
  obtain ⟨a0, a1, a2, a3, a4, a5⟩ := a
  obtain ⟨b0, b1, b2, b3, b4, b5⟩ := b
  simp only [litT, DataW.agg.injEq, List.cons.injEq, DataW.lit.injEq, Lit.string.injEq, Lit.int.injEq, true_and, and_true] at h
  obtain ⟨h0, h1, h2, h3, h4, h5⟩ := h
  rw [bytes_inj h0, bytes_inj h1, bytes_inj h2, h3, h4, h5]
/-- how an element reads -/
def tokElem (v : Value) : Option (DataW Unit × List MemPlace) :=
  match v with
  | .agg cs => (match cs.toList with | [.string a, .string b, .string c, .int .i64 d, .int .i64 e, .int .i64 f] => some (litT ⟨a, b, c, d, e, f⟩, []) | _ => none)
  | _ => none
theorem tokElem_mk (t : Tok) : tokElem (.agg #[.string t.id, .string t.group, .string t.contract, .int .i64 t.kind, .int .i64 t.status, .int .i64 t.expiry]) = some (litT t, []) := rfl
theorem tokElem_inv {v : Value} {z : DataW Unit × List MemPlace} (h : tokElem v = some z) : ∃ t : Tok, v = .agg #[.string t.id, .string t.group, .string t.contract, .int .i64 t.kind, .int .i64 t.status, .int .i64 t.expiry] ∧ z = (litT t, []) := by
  unfold tokElem at h
  split at h
  · rename_i cs
    split at h
    · rename_i a b c d e f hcs
      injection h with h
      refine ⟨⟨a, b, c, d, e, f⟩, ?_, h.symm⟩
      congr 1
      apply Array.ext'
      rw [hcs]
    · cases h
  · cases h

/-- the datum D reads as the function g -/
structure MapTo (D : DataW Unit) (g : List UInt8 → Option Tok) : Prop where
  isMap : IsMap D
  key : ∀ f, has D (.string f) = (g f).isSome
  elem : ∀ f c, g f = some c → ∀ zd, D.atKey (.string f) zd = litT c
  only : ∀ kl, has D kl = true → ∃ f, kl = .string f
theorem MapTo.empty : MapTo (.map []) (fun _ => none) := ⟨isMap_empty, fun f => rfl, fun f c h => by simp at h, fun kl h => by simp [has] at h⟩
def putS (g : List UInt8 → Option Tok) (x : List UInt8) (c : Tok) : List UInt8 → Option Tok := fun f => if f = x then some c else g f
def delS (g : List UInt8 → Option Tok) (x : List UInt8) : List UInt8 → Option Tok := fun f => if f = x then none else g f
theorem str_ne {f x : List UInt8} (h : f ≠ x) : (Lit.string f) ≠ .string x := fun e => h (by injection e)
theorem MapTo.put {D : DataW Unit} {g : List UInt8 → Option Tok} (h : MapTo D g) (x : List UInt8) (c : Tok) : MapTo (D.put (.string x) (litT c)) (putS g x c) := by
  refine ⟨h.isMap.put _ _, fun f => ?_, fun f c' hf zd => ?_, fun kl hk => ?_⟩
  · unfold putS
    by_cases e : f = x
    · subst e; rw [has_put_same h.isMap (by trivial), if_pos rfl]; rfl
    · rw [has_put_other (str_ne e), if_neg e]; exact h.key f
  · unfold putS at hf
    by_cases e : f = x
    · subst e; rw [if_pos rfl] at hf; injection hf with hf; rw [atKey_put_same h.isMap (by trivial), hf]
    · rw [if_neg e] at hf; rw [atKey_put_other (str_ne e)]; exact h.elem f c' hf zd
  · by_cases e : kl = .string x
    · exact ⟨x, e⟩
    · rw [has_put_other e] at hk; exact h.only kl hk
theorem MapTo.del {D : DataW Unit} {g : List UInt8 → Option Tok} (h : MapTo D g) (x : List UInt8) : MapTo (D.del (.string x)) (delS g x) := by
  refine ⟨h.isMap.del _, fun f => ?_, fun f c' hf zd => ?_, fun kl hk => ?_⟩
  · unfold delS
    by_cases e : f = x
    · subst e; rw [has_del_same, if_pos rfl]; rfl
    · rw [has_del_other (str_ne e), if_neg e]; exact h.key f
  · unfold delS at hf
    by_cases e : f = x
    · subst e; rw [if_pos rfl] at hf; cases hf
    · rw [if_neg e] at hf; rw [atKey_del_other (str_ne e)]; exact h.elem f c' hf zd
  · by_cases e : kl = .string x
    · exact ⟨x, e⟩
    · rw [has_del_other e] at hk; exact h.only kl hk
theorem MapTo.look {D : DataW Unit} {g : List UInt8 → Option Tok} (h : MapTo D g) {x : List UInt8} {z c : Tok} (hc : D.atKey (.string x) (litT z) = litT c) : c = (g x).getD z := by
  cases hg : g x with
  | none =>
    have := h.key x
    rw [hg] at this
    rw [atKey_of_not_has this] at hc
    exact (litT_inj hc).symm
  | some a =>
    rw [h.elem x a hg] at hc
    exact (litT_inj hc).symm

section
variable {P : Program}
/-- block b is a map that reads as g -/
def TokMap (P : Program) (K : TypeId) (w : World) (b n : Nat) (g : List UInt8 → Option Tok) : Prop := ∃ D, w.ownsMap P K tokElem b n D ∧ MapTo D g
variable {K E : TypeId} {w w' : World} {b n : Nat} {g : List UInt8 → Option Tok}
theorem tokMap_made (w : World) (K : TypeId) : TokMap P K (w.alloc (.map #[] 0)) w.heap.size 0 (fun _ => none) := ⟨.map [], World.ownsMap_made w P K _, MapTo.empty⟩
theorem TokMap.lt (h : TokMap P K w b n g) : b < w.heap.size := by
  obtain ⟨D, h1, _⟩ := h
  exact h1.lt
theorem TokMap.below (h : TokMap P K w b n g) (hb : Below w.heap.size w w') : TokMap P K w' b n g := by
  obtain ⟨D, ⟨es, clock, h1, F, hs, hD⟩, h3⟩ := h
  have hlt := (Array.getElem?_eq_some_iff.1 h1).1
  exact ⟨D, ⟨es, clock, (hb.block b hlt).trans h1, F, hs, hD⟩, h3⟩
theorem TokMap.mono (h : TokMap P K w b n g) {m : Nat} (hm : n ≤ m) : TokMap P K w b m g := by
  obtain ⟨D, h1, h2⟩ := h
  exact ⟨D, h1.mono hm, h2⟩
theorem TokMap.congr (h : TokMap P K w b n g) {g' : List UInt8 → Option Tok} (e : g = g') : TokMap P K w b n g' := e ▸ h

variable {ops : Array Oper} {rest : List Oper} {o : Oper} {a : Act} {Q : Exit → Act → World → Prop}
theorem wpList_lookup_tok (w : World) (hg : o.guard = none) (m x : Operand) (t : TypeId) (hop : o.op = Op.lookup t m x true)
    (K E : TypeId) (hk : P.underlying K = some .string) (ht : P.underlying t = some (.map K E)) (z : Tok) (hz : ∀ w, (zeroValue E).run P w = .ok (.agg #[.string z.id, .string z.group, .string z.contract, .int .i64 z.kind, .int .i64 z.status, .int .i64 z.expiry]) w) (b n : Nat) (g : List UInt8 → Option Tok)
    (hm : a.eval m = .map (some b)) (hown : TokMap P K w b n g) (s : ByteArray) (hx : a.eval x = .string s) (hs : s.size ≤ maxLen)
    (hK : ∀ c : Tok, c = (g s.data.toList).getD z → wpList P ops Q rest (a.put o.dst (.tuple #[.agg #[.string c.id, .string c.group, .string c.contract, .int .i64 c.kind, .int .i64 c.status, .int .i64 c.expiry], .bool (g s.data.toList).isSome])) w) :
    wpList P ops Q (o :: rest) a w := by
  obtain ⟨D, h1, h2⟩ := hown
  refine wpList_lookup_own_ok w hg m x t hop K E (string_keyed hk) ht tokElem (hz w) (litT z) [] (tokElem_mk z) b n D hm h1 _ (.string s.data.toList) hx (keyOf_string_mk hk hs) (fun v ps hv => ?_)
  obtain ⟨c, rfl, hc⟩ := tokElem_inv hv
  have hc := h2.look (congrArg Prod.fst hc)
  rw [h2.key]
  exact hK c hc
theorem wpList_update_tok (w : World) (hg : o.guard = none) (m x v : Operand) (t : TypeId) (hop : o.op = Op.mapUpdate t m x v)
    (K E : TypeId) (hk : P.underlying K = some .string) (ht : P.underlying t = some (.map K E)) (b n : Nat) (g : List UInt8 → Option Tok)
    (hm : a.eval m = .map (some b)) (hown : TokMap P K w b n g) (hn : n < maxLen) (s : ByteArray) (hx : a.eval x = .string s) (hs : s.size ≤ maxLen) (c : Tok) (hv : a.eval v = .agg #[.string c.id, .string c.group, .string c.contract, .int .i64 c.kind, .int .i64 c.status, .int .i64 c.expiry])
    (hK : ∀ w', TokMap P K w' b (n + 1) (putS g s.data.toList c) → w.grownBy w' (some b) → wpList P ops Q rest (a.put o.dst undef) w') :
    wpList P ops Q (o :: rest) a w := by
  obtain ⟨D, h1, h2⟩ := hown
  refine wpList_mapUpdate_own w hg m x v t hop K E (string_keyed hk) ht _ b n D hm h1 hn _ _ (.string s.data.toList) hx hv (keyOf_string_mk hk hs) (litT c) [] (tokElem_mk c) fun w' g1 g2 => ?_
  exact hK w' ⟨_, g1, h2.put s.data.toList c⟩ g2
theorem TokMap.update_run (hown : TokMap P K w b n g) {t : TypeId} (hk : P.underlying K = some .string) (ht : P.underlying t = some (.map K E)) (hn : n < maxLen) {s : ByteArray} (hs : s.size ≤ maxLen) (c : Tok) :
    ∃ w', (Instr.mapUpdate t (.map (some b)) (.string s) (.agg #[.string c.id, .string c.group, .string c.contract, .int .i64 c.kind, .int .i64 c.status, .int .i64 c.expiry])).run P w = .ok () w' ∧ TokMap P K w' b (n + 1) (putS g s.data.toList c) ∧ w.grownBy w' (some b) := by
  obtain ⟨D, h1, h2⟩ := hown
  obtain ⟨w', r0, r1, r2⟩ := h1.update (string_keyed hk) ht hn (keyOf_string_mk hk hs) (tokElem_mk c)
  exact ⟨w', r0, ⟨_, r1, h2.put s.data.toList c⟩, r2⟩
theorem wpList_delete_tok (w : World) (hg : o.guard = none) (m x : Operand) (t k : TypeId) (hop : o.op = Op.call { callee := Callee.builtin Builtin.delete, args := #[m, x], argTypes := #[t, k] })
    (E : TypeId) (hk : P.underlying k = some .string) (ht : P.underlying t = some (.map k E)) (b n : Nat) (g : List UInt8 → Option Tok)
    (hm : a.eval m = .map (some b)) (hown : TokMap P k w b n g) (s : ByteArray) (hx : a.eval x = .string s) (hs : s.size ≤ maxLen)
    (hK : ∀ w', TokMap P k w' b n (delS g s.data.toList) → w.mapTurned w' b → wpList P ops Q rest (a.put o.dst (.tuple #[])) w') :
    wpList P ops Q (o :: rest) a w := by
  obtain ⟨D, h1, h2⟩ := hown
  refine wpList_delete_own w hg m x t k hop E (string_keyed hk) ht tokElem b n D hm h1 _ (.string s.data.toList) hx (keyOf_string_mk hk hs) fun w' g1 g2 => ?_
  exact hK w' ⟨_, g1, h2.del s.data.toList⟩ g2
/-- a range over a map that holds nothing -/
theorem wpList_range_none (w : World) (hg : o.guard = none) (m : Operand) (t : TypeId) (hop : o.op = Op.range t m) (k E : TypeId) (hk : P.underlying k = some .string) (ht : P.underlying t = some (.map k E)) (b n : Nat)
    (hm : a.eval m = .map (some b)) (hown : TokMap P k w b n (fun _ => none))
    (hK : ∀ w' D cnt, w'.ranges P k tokElem b w.heap.size n D (fun _ => false) cnt → w.grownBy w' none → w'.heap.size = w.heap.size + 1 → wpList P ops Q rest (a.put o.dst (.pointer (some ⟨w.heap.size, 0, none⟩))) w') :
    wpList P ops Q (o :: rest) a w := by
  obtain ⟨D, h1, h2⟩ := hown
  refine wpList_range_own w hg m t hop k E (string_keyed hk) ht tokElem b n D hm h1 fun w' g1 g2 g3 => ?_
  have e : Maps.has D = fun _ => false := by
    funext kl
    cases hh : Maps.has D kl with
    | false => rfl
    | true =>
      obtain ⟨f, rfl⟩ := h2.only kl hh
      have := h2.key f
      rw [hh] at this; simp at this
  rw [e] at g1
  exact hK w' D _ g1 g2 g3
theorem wpList_next_none (w : World) (hg : o.guard = none) (it : Operand) (hop : o.op = Op.next it false) (k : TypeId) (hk : P.underlying k = some .string) (b r n : Nat) (D : DataW Unit) (cnt : Nat)
    (hit : a.eval it = .pointer (some ⟨r, 0, none⟩)) (h : w.ranges P k tokElem b r n D (fun _ => false) cnt) (hK : wpList P ops Q rest (a.put o.dst (.tuple #[.bool false])) w) :
    wpList P ops Q (o :: rest) a w :=
  wpList_next_ranges w hg it hop k (string_keyed hk) tokElem (fun v : Value => v) (fun v : Value => v) (fun key _ _ => ⟨key, rfl⟩) (fun v _ _ => ⟨v, rfl⟩) b r n D _ cnt hit h (fun _ _ => hK) (fun x c kl y w' cnt' _ hl => by cases hl)
end

end Go.Proofs.Ytcaicdjlfgpbfaa
