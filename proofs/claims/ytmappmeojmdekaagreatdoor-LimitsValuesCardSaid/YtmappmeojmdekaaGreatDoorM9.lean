/-
  Walks: Next and Spans of package window.
  A map of ints to ints that the call makes, as a function of its keys. No program is named here.
  Walks: maps.Equal of two maps of ints that the call has made.
  Walks: least and At of package contract.
  Walks: after, edge and change of package contract.
  Walks: limits and differs of package contract.
  Walks: differs of package contract.
-/
import Derived.Test.YtmappmeojmdekaaGreatDoorM7
import Derived.Test.YtmappmeojmdekaaGreatDoorM8
import Derived.Test.YtmappmeojmdekaaGreatDoorM1
import Derived.Maps.OwnOps
import Derived.Maps.OwnSet
import Derived.Maps.Views
import Derived.Maps.Keyed
import Derived.Maps.RangeWalk
import Derived.Maps.Ext
import Derived.Test.YtmappmeojmdekaaGreatDoorM6
import Derived.Test.YtmappmeojmdekaaGreatDoorM4
import Derived.Test.YtmappmeojmdekaaGreatDoorM2
import Derived.Test.YtmappmeojmdekaaGreatDoorM3
import Derived.Test.YtmappmeojmdekaaGreatDoorM5
import Derived.Deep.DeepCutAuto
import Derived.Deep.RegionHeld3

namespace Go.Proofs.YtmappmeojmdekaaGreatDoor
open Go.RowKit Go.Lib Go.Maps
set_option linter.unusedVariables false

set_option maxRecDepth 100000 in
set_option maxHeartbeats 3200000 in
theorem winNext_any (W : WinR) (z : ZoneR) (t : Int) (w : World) (hv : LenV w) :
    Calls Tryz.prog 120 #[.agg #[.int .i64 W.dy, .int .i64 W.st, .int .i64 W.en, .int .i64 W.fr, .int .i64 W.to], .agg #[.int .i64 z.off, .bool z.sum], .int .i64 t] w
      fun e w' => e = .returned (.int .i64 (nextA W z t)) ∧ Below w.heap.size w w' := by
  have hbw := Below.refl w.heap.size w
  have HV := Lib.hid hv
  clear hv
  cases hW : winB W with
  | false =>
    have H1 := Lib.hid (winE_false hW)
    have HN := Lib.hid (nextA_bad (W := W) (z := z) (t := t) (by rw [hW]; rfl))
    clear hW
    go_enter Tryz.func120, Tryz.ntmps120
    go_wp2_with (go_at_call 46; refine (winValid_any W _).mono ?_; rintro e w' ⟨rfl, hb⟩; obtain ⟨hc, hf⟩ := bcell hb; have hz := hb.size; (try simp only [World.size_alloc, Nat.add_one_le_iff] at hz); (try (have hz0 : w.heap.size < w'.heap.size := by omega)); (try (have hz1 : w.heap.size + 1 < w'.heap.size := by omega)); (try (have hz2 : w.heap.size < w'.heap.size := by omega)); replace hbw := below_step (w := w) (by repeat (first | exact hbw | refine below_alloc ?_ _ | refine below_drew ?_ | refine below_drewN ?_ _ | (refine below_set ?_ ?_ _; rotate_left; (first | exact Nat.le_refl _ | (simp only [World.size_alloc]; omega) | omega)))) hb; clear hb; rw [H1.out])
    go_ret
    exact ⟨ret_int HN.out.symm, by repeat (first | exact hbw | refine below_alloc ?_ _)⟩
  | true =>
    cases hz : zoneB z with
    | false =>
      have H1 := Lib.hid (winE_true hW)
      have H2 := Lib.hid hz
      have HN := Lib.hid (nextA_bad (W := W) (z := z) (t := t) (by rw [hz]; simp))
      clear hW hz
      go_enter Tryz.func120, Tryz.ntmps120
      go_wp2_with (first | (go_at_call 46; refine (winValid_any W _).mono ?_; rintro e w' ⟨rfl, hb⟩; obtain ⟨hc, hf⟩ := bcell hb; have hz := hb.size; (try simp only [World.size_alloc, Nat.add_one_le_iff] at hz); (try (have hz0 : w.heap.size < w'.heap.size := by omega)); (try (have hz1 : w.heap.size + 1 < w'.heap.size := by omega)); (try (have hz2 : w.heap.size < w'.heap.size := by omega)); replace hbw := below_step (w := w) (by repeat (first | exact hbw | refine below_alloc ?_ _ | refine below_drew ?_ | refine below_drewN ?_ _ | (refine below_set ?_ ?_ _; rotate_left; (first | exact Nat.le_refl _ | (simp only [World.size_alloc]; omega) | omega)))) hb; clear hb; rw [H1.out]) | (go_at_call 139; refine (winZone_any z _ (HV.out.below (by repeat (first | exact hbw | refine below_alloc ?_ _ | refine below_drew ?_ | refine below_drewN ?_ _)))).mono ?_; rintro e w' ⟨rfl, hb⟩; obtain ⟨hc, hf⟩ := bcell hb; have hz := hb.size; (try simp only [World.size_alloc, Nat.add_one_le_iff] at hz); (try (have hz0 : w.heap.size < w'.heap.size := by omega)); (try (have hz1 : w.heap.size + 1 < w'.heap.size := by omega)); (try (have hz2 : w.heap.size < w'.heap.size := by omega)); replace hbw := below_step (w := w) (by repeat (first | exact hbw | refine below_alloc ?_ _ | refine below_drew ?_ | refine below_drewN ?_ _ | (refine below_set ?_ ?_ _; rotate_left; (first | exact Nat.le_refl _ | (simp only [World.size_alloc]; omega) | omega)))) hb; clear hb; rw [H2.out]))
      go_ret
      exact ⟨ret_int HN.out.symm, by repeat (first | exact hbw | refine below_alloc ?_ _)⟩
    | true =>
      have H1 := Lib.hid (winE_true hW)
      have H2 := Lib.hid hz
      have HW := Lib.hid hW
      cases ht : timeB t with
      | false =>
        have hn : t < 0 ∨ (0 ≤ t ∧ 268435456 < t) := by
          apply Classical.byContradiction
          intro hc
          rw [timeB_iff.2 (by omega)] at ht
          cases ht
        have HN := Lib.hid (nextA_bad (W := W) (z := z) (t := t) (by rw [ht]; simp))
        clear hW hz ht
        rcases hn with g | ⟨g, g2⟩
        all_goals
          go_enter Tryz.func120, Tryz.ntmps120
          go_wp2_with (first | (go_at_call 46; refine (winValid_any W _).mono ?_; rintro e w' ⟨rfl, hb⟩; obtain ⟨hc, hf⟩ := bcell hb; have hz := hb.size; (try simp only [World.size_alloc, Nat.add_one_le_iff] at hz); (try (have hz0 : w.heap.size < w'.heap.size := by omega)); (try (have hz1 : w.heap.size + 1 < w'.heap.size := by omega)); (try (have hz2 : w.heap.size < w'.heap.size := by omega)); replace hbw := below_step (w := w) (by repeat (first | exact hbw | refine below_alloc ?_ _ | refine below_drew ?_ | refine below_drewN ?_ _ | (refine below_set ?_ ?_ _; rotate_left; (first | exact Nat.le_refl _ | (simp only [World.size_alloc]; omega) | omega)))) hb; clear hb; rw [H1.out]) | (go_at_call 139; refine (winZone_any z _ (HV.out.below (by repeat (first | exact hbw | refine below_alloc ?_ _ | refine below_drew ?_ | refine below_drewN ?_ _)))).mono ?_; rintro e w' ⟨rfl, hb⟩; obtain ⟨hc, hf⟩ := bcell hb; have hz := hb.size; (try simp only [World.size_alloc, Nat.add_one_le_iff] at hz); (try (have hz0 : w.heap.size < w'.heap.size := by omega)); (try (have hz1 : w.heap.size + 1 < w'.heap.size := by omega)); (try (have hz2 : w.heap.size < w'.heap.size := by omega)); replace hbw := below_step (w := w) (by repeat (first | exact hbw | refine below_alloc ?_ _ | refine below_drew ?_ | refine below_drewN ?_ _ | (refine below_set ?_ ?_ _; rotate_left; (first | exact Nat.le_refl _ | (simp only [World.size_alloc]; omega) | omega)))) hb; clear hb; rw [H2.out]))
          go_ret
          exact ⟨ret_int HN.out.symm, by repeat (first | exact hbw | refine below_alloc ?_ _)⟩
      | true =>
        obtain ⟨t0, t1⟩ := timeB_iff.1 ht
        have HN := Lib.hid (nextA_ok hW hz ht)
        clear hW hz ht
        go_enter Tryz.func120, Tryz.ntmps120
        go_wp2_with (first | (go_at_call 46; refine (winValid_any W _).mono ?_; rintro e w' ⟨rfl, hb⟩; obtain ⟨hc, hf⟩ := bcell hb; have hz := hb.size; (try simp only [World.size_alloc, Nat.add_one_le_iff] at hz); (try (have hz0 : w.heap.size < w'.heap.size := by omega)); (try (have hz1 : w.heap.size + 1 < w'.heap.size := by omega)); (try (have hz2 : w.heap.size < w'.heap.size := by omega)); replace hbw := below_step (w := w) (by repeat (first | exact hbw | refine below_alloc ?_ _ | refine below_drew ?_ | refine below_drewN ?_ _ | (refine below_set ?_ ?_ _; rotate_left; (first | exact Nat.le_refl _ | (simp only [World.size_alloc]; omega) | omega)))) hb; clear hb; rw [H1.out]) | (go_at_call 139; refine (winZone_any z _ (HV.out.below (by repeat (first | exact hbw | refine below_alloc ?_ _ | refine below_drew ?_ | refine below_drewN ?_ _)))).mono ?_; rintro e w' ⟨rfl, hb⟩; obtain ⟨hc, hf⟩ := bcell hb; have hz := hb.size; (try simp only [World.size_alloc, Nat.add_one_le_iff] at hz); (try (have hz0 : w.heap.size < w'.heap.size := by omega)); (try (have hz1 : w.heap.size + 1 < w'.heap.size := by omega)); (try (have hz2 : w.heap.size < w'.heap.size := by omega)); replace hbw := below_step (w := w) (by repeat (first | exact hbw | refine below_alloc ?_ _ | refine below_drew ?_ | refine below_drewN ?_ _ | (refine below_set ?_ ?_ _; rotate_left; (first | exact Nat.le_refl _ | (simp only [World.size_alloc]; omega) | omega)))) hb; clear hb; rw [H2.out]) | (go_at_call 140; refine (next_any W z t _ (HV.out.below (by repeat (first | exact hbw | refine below_alloc ?_ _ | refine below_drew ?_ | refine below_drewN ?_ _))) HW.out H2.out t0 t1).mono ?_; rintro e w' ⟨rfl, hb⟩; obtain ⟨hc, hf⟩ := bcell hb; have hz := hb.size; (try simp only [World.size_alloc, Nat.add_one_le_iff] at hz); (try (have hz0 : w.heap.size < w'.heap.size := by omega)); (try (have hz1 : w.heap.size + 1 < w'.heap.size := by omega)); (try (have hz2 : w.heap.size < w'.heap.size := by omega)); replace hbw := below_step (w := w) (by repeat (first | exact hbw | refine below_alloc ?_ _ | refine below_drew ?_ | refine below_drewN ?_ _ | (refine below_set ?_ ?_ _; rotate_left; (first | exact Nat.le_refl _ | (simp only [World.size_alloc]; omega) | omega)))) hb; clear hb))
        go_ret
        exact ⟨ret_int HN.out.symm, by repeat (first | exact hbw | refine below_alloc ?_ _)⟩

theorem box3p (w : World) (cs : Array Value) (T : TypeId) (ds : Array Value) (U : TypeId) (es : Array Value) (V : TypeId) :
    ∃ W0, W0 = ((w.alloc (.cells cs T)).alloc (.cells ds U)).alloc (.cells es V) ∧ Below w.heap.size w W0 ∧ w.heap.size + 1 + 1 < W0.heap.size ∧ w.heap.size + 1 < W0.heap.size ∧ w.heap.size < W0.heap.size ∧
      (∀ j, W0.cell? ⟨w.heap.size, j, none⟩ = cs[j]?) ∧ (∀ j, W0.cell? ⟨w.heap.size + 1, j, none⟩ = ds[j]?) ∧ (∀ j, W0.cell? ⟨w.heap.size + 1 + 1, j, none⟩ = es[j]?) := by
  obtain ⟨W1, rfl, hb, h1, h0, hx, hy⟩ := box2 w cs T ds U
  have hb2 : Below ((w.alloc (.cells cs T)).alloc (.cells ds U)).heap.size ((w.alloc (.cells cs T)).alloc (.cells ds U)) (((w.alloc (.cells cs T)).alloc (.cells ds U)).alloc (.cells es V)) := (Below.refl _ _).alloc (Nat.le_refl _) _
  refine ⟨_, rfl, below_step hb hb2, by simp, by simp <;> omega, by simp <;> omega, fun j => (hb2.cell (p := ⟨w.heap.size, j, none⟩) h0).trans (hx j), fun j => (hb2.cell (p := ⟨w.heap.size + 1, j, none⟩) h1).trans (hy j), fun j => ?_⟩
  have := World.cell?_alloc_mark ((w.alloc (.cells cs T)).alloc (.cells ds U)) es V (0, 0) j
  simpa using this

def encP (p : Int × Int) : List Value := [.int .i64 p.1, .int .i64 p.2]
theorem encP_len (p : Int × Int) : (encP p).length = 2 := rfl
theorem spanInfo : (Tryz.prog.info? 46).map (fun i => (i.zero, i.size, i.bytes)) = some (some (.agg #[.int .i64 0, .int .i64 0]), 2, 16) := by kernel_rfl
/-- the error of Spans, and the spans -/
noncomputable def spansE (W : WinR) (z : ZoneR) (a b : Int) : Int :=
  if (winB W && zoneB z) = true then (if 0 ≤ a ∧ a ≤ b ∧ b ≤ 268435456 then (if (restS (holdsB W z) b a []).isSome = true then 0 else 3) else 2) else 1
noncomputable def spansL (W : WinR) (z : ZoneR) (a b : Int) : List (Int × Int) := if spansE W z a b = 0 then (restS (holdsB W z) b a []).getD [] else []
structure SpansIs (W : WinR) (z : ZoneR) (a b c : Int) (l : List (Int × Int)) : Prop where
  e : spansE W z a b = c
  l : spansL W z a b = l
theorem spans_bad {W : WinR} {z : ZoneR} {a b : Int} (h : (winB W && zoneB z) = false) : SpansIs W z a b 1 [] := by
  have e : spansE W z a b = 1 := if_neg (by rw [h]; decide)
  exact ⟨e, if_neg (by rw [e]; decide)⟩
theorem spans_range {W : WinR} {z : ZoneR} {a b : Int} (h1 : winB W = true) (h2 : zoneB z = true) (h : ¬ (0 ≤ a ∧ a ≤ b ∧ b ≤ 268435456)) : SpansIs W z a b 2 [] := by
  have e : spansE W z a b = 2 := by unfold spansE; rw [if_pos (by rw [h1, h2]; rfl), if_neg h]
  exact ⟨e, if_neg (by rw [e]; decide)⟩
theorem spans_none {W : WinR} {z : ZoneR} {a b : Int} (h1 : winB W = true) (h2 : zoneB z = true) (h : 0 ≤ a ∧ a ≤ b ∧ b ≤ 268435456) (hr : restS (holdsB W z) b a [] = none) : SpansIs W z a b 3 [] := by
  have e : spansE W z a b = 3 := by unfold spansE; rw [if_pos (by rw [h1, h2]; rfl), if_pos h, hr]; rfl
  exact ⟨e, if_neg (by rw [e]; decide)⟩
theorem spans_some {W : WinR} {z : ZoneR} {a b : Int} {l : List (Int × Int)} (h1 : winB W = true) (h2 : zoneB z = true) (h : 0 ≤ a ∧ a ≤ b ∧ b ≤ 268435456) (hr : restS (holdsB W z) b a [] = some l) : SpansIs W z a b 0 l := by
  have e : spansE W z a b = 0 := by unfold spansE; rw [if_pos (by rw [h1, h2]; rfl), if_pos h, hr]; rfl
  exact ⟨e, by unfold spansL; rw [if_pos e, hr]; rfl⟩
/-- what Spans hands back -/
def SpansPost (w : World) (W : WinR) (z : ZoneR) (a b : Int) (e : Ending) (w' : World) : Prop := ∃ v, e = .returned (.tuple #[v, .int .i64 (spansE W z a b)]) ∧ IsSl w' 2 v ((spansL W z a b).map encP) ∧ Below w.heap.size w w'
theorem SpansPost.mk {w : World} {W : WinR} {z : ZoneR} {a b c : Int} {l : List (Int × Int)} {v : Value} {w' : World} (h : SpansIs W z a b c l) (hs : IsSl w' 2 v (l.map encP)) (hb : Below w.heap.size w w') : SpansPost w W z a b (.returned (.tuple #[v, .int .i64 c])) w' :=
  ⟨v, by rw [h.e], by rw [h.l]; exact hs, hb⟩

end Go.Proofs.YtmappmeojmdekaaGreatDoor

namespace Go.Proofs.YtmappmeojmdekaaGreatDoor
open Go.RowKit Go.Maps
set_option linter.unusedVariables false

/-- the datum D reads as the function g -/
structure MapFn (D : DataW Unit) (g : Int → Option Int) : Prop where
  isMap : IsMap D
  key : ∀ f, has D (.int .i64 f) = (g f).isSome
  elem : ∀ f c, g f = some c → ∀ zd, D.atKey (.int .i64 f) zd = .lit (.int .i64 c)
  only : ∀ kl, has D kl = true → ∃ f, kl = .int .i64 f
theorem MapFn.empty : MapFn (.map []) (fun _ => none) := ⟨isMap_empty, fun f => rfl, fun f c h => by simp at h, fun kl h => by simp [has] at h⟩
def putI (g : Int → Option Int) (x c : Int) : Int → Option Int := fun f => if f = x then some c else g f
theorem MapFn.put {D : DataW Unit} {g : Int → Option Int} (h : MapFn D g) (x c : Int) : MapFn (D.put (.int .i64 x) (.lit (.int .i64 c))) (putI g x c) := by
  have ne : ∀ f : Int, f ≠ x → (Lit.int .i64 f) ≠ .int .i64 x := fun f hf e => hf (by injection e)
  refine ⟨h.isMap.put _ _, fun f => ?_, fun f c' hf zd => ?_, fun kl hk => ?_⟩
  · unfold putI
    by_cases e : f = x
    · subst e; rw [has_put_same h.isMap (by trivial), if_pos rfl]; rfl
    · rw [has_put_other (ne f e), if_neg e]; exact h.key f
  · unfold putI at hf
    by_cases e : f = x
    · subst e; rw [if_pos rfl] at hf; injection hf with hf; rw [atKey_put_same h.isMap (by trivial), hf]
    · rw [if_neg e] at hf; rw [atKey_put_other (ne f e)]; exact h.elem f c' hf zd
  · by_cases e : kl = .int .i64 x
    · exact ⟨x, e⟩
    · rw [has_put_other e] at hk; exact h.only kl hk
theorem MapFn.look {D : DataW Unit} {g : Int → Option Int} (h : MapFn D g) {x c : Int} (hc : D.atKey (.int .i64 x) (.lit (.int .i64 0)) = .lit (.int .i64 c)) : c = (g x).getD 0 := by
  cases hg : g x with
  | none =>
    have := h.key x
    rw [hg] at this
    rw [atKey_of_not_has this] at hc
    injection hc with hc; injection hc with _ hc; exact hc.symm
  | some a =>
    rw [h.elem x a hg] at hc
    injection hc with hc; injection hc with _ hc; exact hc.symm

section
variable {P : Program}
/-- block b is a map that reads as g -/
def IntMap (P : Program) (K E : TypeId) (w : World) (b n : Nat) (g : Int → Option Int) : Prop := ∃ D, w.ownsMap P K (plainElem P E) b n D ∧ MapFn D g
variable {K E : TypeId} {w w' : World} {b n : Nat} {g : Int → Option Int}
theorem intMap_made (w : World) (K E : TypeId) : IntMap P K E (w.alloc (.map #[] 0)) w.heap.size 0 (fun _ => none) := ⟨.map [], World.ownsMap_made w P K _, MapFn.empty⟩
theorem IntMap.lt (h : IntMap P K E w b n g) : b < w.heap.size := by
  obtain ⟨D, h1, _⟩ := h
  exact h1.lt
theorem IntMap.below (h : IntMap P K E w b n g) (hb : Below w.heap.size w w') : IntMap P K E w' b n g := by
  obtain ⟨D, ⟨es, clock, h1, F, hs, hD⟩, h3⟩ := h
  have hlt := (Array.getElem?_eq_some_iff.1 h1).1
  exact ⟨D, ⟨es, clock, (hb.block b hlt).trans h1, F, hs, hD⟩, h3⟩
theorem IntMap.mono (h : IntMap P K E w b n g) {m : Nat} (hm : n ≤ m) : IntMap P K E w b m g := by
  obtain ⟨D, h1, h2⟩ := h
  exact ⟨D, h1.mono hm, h2⟩
theorem IntMap.congr (h : IntMap P K E w b n g) {g' : Int → Option Int} (e : g = g') : IntMap P K E w b n g' := e ▸ h

theorem wpList_lookup_imap (w : World) {ops : Array Oper} {rest : List Oper} {o : Oper} {a : Act} {Q : Exit → Act → World → Prop}
    (hg : o.guard = none) (m x : Operand) (t : TypeId) (hop : o.op = Op.lookup t m x true)
    (K E : TypeId) (hk : P.underlying K = some (.int .i64)) (ht : P.underlying t = some (.map K E)) (he : P.underlying E = some (.int .i64)) (hz : ∀ w, (zeroValue E).run P w = .ok (.int .i64 0) w) (b n : Nat) (g : Int → Option Int)
    (hm : a.eval m = .map (some b)) (hown : IntMap P K E w b n g) (s : Int) (hx : a.eval x = .int .i64 s) (hs : (Lit.int .i64 s).wf = true)
    (hK : wpList P ops Q rest (a.put o.dst (.tuple #[.int .i64 ((g s).getD 0), .bool (g s).isSome])) w) :
    wpList P ops Q (o :: rest) a w := by
  obtain ⟨D, h1, h2⟩ := hown
  refine wpList_lookup_own_ok_int w hg m x t hop K E .i64 (int_keyed hk) ht he (hz w) b n D hm h1 _ (.int .i64 s) hx (keyOf_int_mk hk hs) (fun c hc _ => ?_)
  rw [h2.look hc, h2.key s]
  exact hK

theorem wpList_update_imap (w : World) {ops : Array Oper} {rest : List Oper} {o : Oper} {a : Act} {Q : Exit → Act → World → Prop}
    (hg : o.guard = none) (m x v : Operand) (t : TypeId) (hop : o.op = Op.mapUpdate t m x v)
    (K E : TypeId) (hk : P.underlying K = some (.int .i64)) (ht : P.underlying t = some (.map K E)) (he : P.underlying E = some (.int .i64)) (b n : Nat) (g : Int → Option Int)
    (hm : a.eval m = .map (some b)) (hown : IntMap P K E w b n g) (hn : n < maxLen) (s c : Int) (hx : a.eval x = .int .i64 s) (hs : (Lit.int .i64 s).wf = true) (hv : a.eval v = .int .i64 c) (hc : (Lit.int .i64 c).wf = true)
    (hK : ∀ w', IntMap P K E w' b (n + 1) (putI g s c) → w.grownBy w' (some b) → wpList P ops Q rest (a.put o.dst undef) w') :
    wpList P ops Q (o :: rest) a w := by
  obtain ⟨D, h1, h2⟩ := hown
  refine wpList_mapUpdate_own w hg m x v t hop K E (int_keyed hk) ht _ b n D hm h1 hn _ _ (.int .i64 s) hx hv (keyOf_int_mk hk hs) (.lit (.int .i64 c)) [] (plainElem_int he hc) fun w' g1 g2 => ?_
  exact hK w' ⟨_, g1, h2.put s c⟩ g2
theorem IntMap.update_run (hown : IntMap P K E w b n g) {t : TypeId} (hk : P.underlying K = some (.int .i64)) (ht : P.underlying t = some (.map K E)) (he : P.underlying E = some (.int .i64)) (hn : n < maxLen) {s c : Int} (hs : (Lit.int .i64 s).wf = true) (hc : (Lit.int .i64 c).wf = true) :
    ∃ w', (Instr.mapUpdate t (.map (some b)) (.int .i64 s) (.int .i64 c)).run P w = .ok () w' ∧ IntMap P K E w' b (n + 1) (putI g s c) ∧ w.grownBy w' (some b) := by
  obtain ⟨D, h1, h2⟩ := hown
  obtain ⟨w', r0, r1, r2⟩ := h1.update (int_keyed hk) ht hn (keyOf_int_mk hk hs) (plainElem_int he hc)
  exact ⟨w', r0, ⟨_, r1, h2.put s c⟩, r2⟩
end

/-- a list without repeats that lies in one that is not longer: the other lies in it -/
theorem sub_back {α : Type} : ∀ (l m : List α), l.Pairwise (· ≠ ·) → (∀ x ∈ l, x ∈ m) → m.length ≤ l.length → ∀ x ∈ m, x ∈ l
  | [], m, _, _, h, x, hx => by
    have : m = [] := List.eq_nil_of_length_eq_zero (by simpa using h)
    rw [this] at hx; simp at hx
  | a :: l, m, hp, hs, hl, x, hx => by
    obtain ⟨s, t, rfl⟩ := List.append_of_mem (hs a (by simp))
    rw [List.pairwise_cons] at hp
    have ih := sub_back l (s ++ t) hp.2 (fun y hy => by
      have h1 := hs y (by simp [hy])
      have h2 := hp.1 y hy
      simp at h1 ⊢
      rcases h1 with e | e | e
      · exact .inl e
      · exact absurd e.symm h2
      · exact .inr e) (by simp at hl ⊢; omega)
    simp at hx
    rcases hx with e | e | e
    · exact List.mem_cons_of_mem _ (ih x (by simp [e]))
    · rw [e]; simp
    · exact List.mem_cons_of_mem _ (ih x (by simp [e]))
/-- the entries of a map as read -/
def Ents (D : DataW Unit) (es : List (Lit × DataW Unit)) : Prop := D = .map es ∧ es.Pairwise (fun p q => p.1 ≠ q.1) ∧ ∀ p ∈ es, WideAt.IsKeyLit p.1
theorem Ents.has {D : DataW Unit} {es : List (Lit × DataW Unit)} (h : Ents D es) (k : Lit) : Maps.has D k = true ↔ k ∈ es.map (·.1) := by
  obtain ⟨rfl, _, hk⟩ := h
  rw [has_eq, List.any_eq_true, List.mem_map]
  constructor
  · rintro ⟨p, hp, e⟩
    exact ⟨p, hp, WideAt.sameKey_eq e⟩
  · rintro ⟨p, hp, e⟩
    exact ⟨p, hp, by rw [← e]; exact WideAt.sameKey_self (hk p hp)⟩
/-- two maps of one size of which one agrees with the other on its keys are one -/
theorem MapFn.eq_of {D D' : DataW Unit} {g g' : Int → Option Int} {es es' : List (Lit × DataW Unit)} (h : MapFn D g) (h' : MapFn D' g') (t : Ents D es) (t' : Ents D' es') (hs : Maps.size D = Maps.size D') (ha : ∀ f, (g f).isSome = true → g f = g' f) : g = g' := by
  have hsub : ∀ x ∈ es.map (·.1), x ∈ es'.map (·.1) := fun x hx => by
    have hkey := (t.has x).2 hx
    obtain ⟨f, rfl⟩ := h.only _ hkey
    rw [h.key f] at hkey
    refine (t'.has _).1 ?_
    rw [h'.key f, ← ha f hkey]; exact hkey
  have hlen : (es'.map (·.1)).length ≤ (es.map (·.1)).length := by
    rw [t.1, t'.1, size_eq, size_eq] at hs
    rw [List.length_map, List.length_map]; omega
  have hback := sub_back (es.map (·.1)) (es'.map (·.1)) (by rw [List.pairwise_map]; exact t.2.1) hsub hlen
  funext f
  cases hf : g f with
  | some c => rw [← hf]; exact ha f (by rw [hf]; rfl)
  | none =>
    cases hf' : g' f with
    | none => rfl
    | some c =>
      have h1 := (t'.has (.int .i64 f)).1 (by rw [h'.key f, hf']; rfl)
      have h2 := (t.has _).2 (hback _ h1)
      rw [h.key f, hf] at h2; cases h2
theorem MapFn.size_eq {D D' : DataW Unit} {g : Int → Option Int} {es es' : List (Lit × DataW Unit)} (h : MapFn D g) (h' : MapFn D' g) (t : Ents D es) (t' : Ents D' es') : Maps.size D = Maps.size D' := by
  have key : ∀ x, Maps.has D x = true ↔ Maps.has D' x = true := fun x => by
    constructor
    · intro hx
      obtain ⟨f, rfl⟩ := h.only _ hx
      rw [h'.key, ← h.key]; exact hx
    · intro hx
      obtain ⟨f, rfl⟩ := h'.only _ hx
      rw [h.key, ← h'.key]; exact hx
  have sub_len : ∀ (l m : List Lit), l.Pairwise (· ≠ ·) → (∀ x ∈ l, x ∈ m) → l.length ≤ m.length := by
    intro l
    induction l with
    | nil => intro m _ _; simp
    | cons a l ih =>
      intro m hp hs
      obtain ⟨s, u, rfl⟩ := List.append_of_mem (hs a (by simp))
      rw [List.pairwise_cons] at hp
      have := ih (s ++ u) hp.2 (fun y hy => by
        have h1 := hs y (by simp [hy])
        have h2 := hp.1 y hy
        simp at h1 ⊢
        rcases h1 with e | e | e
        · exact .inl e
        · exact absurd e.symm h2
        · exact .inr e)
      simp at this ⊢
      omega
  have a1 := sub_len (es.map (·.1)) (es'.map (·.1)) (by rw [List.pairwise_map]; exact t.2.1) (fun x hx => (t'.has x).1 ((key x).1 ((t.has x).2 hx)))
  have a2 := sub_len (es'.map (·.1)) (es.map (·.1)) (by rw [List.pairwise_map]; exact t'.2.1) (fun x hx => (t.has x).1 ((key x).2 ((t'.has x).2 hx)))
  rw [List.length_map, List.length_map] at a1 a2
  rw [t.1, t'.1, Maps.size_eq, Maps.size_eq]; omega
theorem ents_of {P : Program} {K : TypeId} {R : Value → Option (DataW Unit × List MemPlace)} {w : World} {b n : Nat} {D : DataW Unit} (h : w.ownsMap P K R b n D) (hK : Keyed P K) : ∃ es, Ents D es := h.entries hK

end Go.Proofs.YtmappmeojmdekaaGreatDoor

namespace Go.Proofs.YtmappmeojmdekaaGreatDoor
open Go.RowKit Go.Lib Go.Maps
set_option linter.unusedVariables false

theorem zeroInt (w : World) : (zeroValue 3).run Tryz.prog w = .ok (.int .i64 0) w := by kernel_rfl

open Classical in
/-- two maps read alike -/
noncomputable def eqG (g h : Int → Option Int) : Bool := decide (g = h)
theorem eqG_true {g h : Int → Option Int} (e : g = h) : eqG g h = true := by unfold eqG; simp [e]
theorem eqG_false {g h : Int → Option Int} (e : ¬ g = h) : eqG g h = false := by unfold eqG; simp [e]

set_option maxRecDepth 100000 in
set_option maxHeartbeats 6400000 in
theorem mapsEqual_any (b1 b2 n1 n2 : Nat) (g1 g2 : Int → Option Int) (w : World) (H1 : IntMap Tryz.prog 3 3 w b1 n1 g1) (H2 : IntMap Tryz.prog 3 3 w b2 n2 g2) :
    Calls Tryz.prog 94 #[.map (some b1), .map (some b2)] w fun e w' => e = .returned (.bool (eqG g1 g2)) ∧ Below w.heap.size w w' := by
  obtain ⟨D1, h1, f1⟩ := H1
  obtain ⟨D2, h2, f2⟩ := H2
  have K : Keyed Tryz.prog 3 := int_keyed Tryz.underlying3
  have l1 := fun ty => h1.len (t := 129) Tryz.underlying129 ty
  have l2 := fun ty => h2.len (t := 129) Tryz.underlying129 ty
  obtain ⟨es1, t1⟩ := ents_of h1 K
  obtain ⟨es2, t2⟩ := ents_of h2 K
  have hb2 := h2.lt
  have F1 := Lib.hid f1
  have F2 := Lib.hid f2
  have T1 := Lib.hid t1
  have T2 := Lib.hid t2
  clear f1 f2 t1 t2
  by_cases hsz : Maps.size D1 = Maps.size D2
  · have HSZ := Lib.hid hsz
    go_enter Tryz.func94, Tryz.ntmps94
    go_wp2_with (at_range; refine wpList_range_own _ rfl _ 129 rfl 3 3 K Tryz.underlying129 (plainElem Tryz.prog 3) b1 n1 _ rfl h1 ?_; intro w0 hrg0 hg0 hs0)
    go_frame
    go_loopw [16] (fun _ wr => ∃ (left : Lit → Bool) (cnt : Nat), wr.ranges Tryz.prog 3 (plainElem Tryz.prog 3) b1 w.heap.size n1 D1 left cnt ∧ wr.ownsMap Tryz.prog 3 (plainElem Tryz.prog 3) b2 n2 D2 ∧ w.grownBy wr none ∧
        Hid ((∀ kl, left kl = true → Maps.has D1 kl = true) ∧ ∀ f, (g1 f).isSome = true → left (.int .i64 f) = false → g1 f = g2 f))
      (fun _ wr => wr.rangeLeft b1 w.heap.size)
    case atStart => exact ⟨_, _, hrg0, h2.kept hg0 (by simp), hg0, fun kl h => h, fun f h1 h2 => by rw [F1.out.key f, h1] at h2; cases h2⟩
    case round =>
      obtain ⟨left, cnt, hrg, h2r, hgw, G⟩ := hrel
      go_wp2_with (at_next; refine wpList_next_ranges_ii _ rfl _ rfl 3 3 .i64 .i64 K Tryz.underlying3 Tryz.underlying3 b1 w.heap.size n1 _ _ _ rfl hrg ?_ ?_)
      · intro _ hl0
        have HE : Hid (g1 = g2) := F1.out.eq_of F2.out T1.out T2.out HSZ.out (fun f hf => G.out.2 f hf (hl0 _))
        go_wp2_with fail
        go_ret
        exact ⟨ret_bool (eqG_true HE.out).symm, (Below.refl _ _).grown hgw (Nat.le_refl _) (fun k hk => by cases hk)⟩
      · intro x c w1 cnt1 hwx hwc hlx hat hrg1 hlt hg1 hs1 hen
        have hgw1 : w.grownBy w1 none := hgw.andThen hg1 (fun j hj => by cases hj; exact Or.inl (Nat.le_refl _))
        have h2w1 := h2r.kept hg1 (fun e => by have := Option.some.inj e; omega)
        have hgx : g1 x = some c := by
          have hs := F1.out.key x
          rw [G.out.1 _ hlx] at hs
          have hc := F1.out.look (hat _)
          cases hg : g1 x with
          | none => rw [hg] at hs; cases hs
          | some a => rw [hg] at hc; rw [hc]; rfl
        have HAT := Lib.hid hgx
        clear hat hgx
        have HM2 : IntMap Tryz.prog 3 3 w1 b2 n2 g2 := ⟨D2, h2w1, F2.out⟩
        cases hh : g2 x with
        | none =>
          have HN : Hid (¬ g1 = g2) := fun e => by have h9 := HAT.out; rw [e, hh] at h9; cases h9
          go_wp2_with (at_lookup; refine wpList_lookup_imap _ rfl _ _ 129 rfl 3 3 Tryz.underlying3 Tryz.underlying129 Tryz.underlying3 zeroInt b2 n2 g2 rfl HM2 x rfl hwx ?_; rw [hh]; go_frame)
          go_ret
          exact ⟨ret_bool (eqG_false HN.out).symm, (Below.refl _ _).grown hgw1 (Nat.le_refl _) (fun k hk => by cases hk)⟩
        | some d =>
          by_cases hcd : c = d
          · subst hcd
            have G2 : Hid ((∀ kl, (left kl && !kl.sameKey (.int .i64 x)) = true → Maps.has D1 kl = true) ∧ ∀ f, (g1 f).isSome = true → (left (.int .i64 f) && !(Lit.int .i64 f).sameKey (.int .i64 x)) = false → g1 f = g2 f) := by
              refine ⟨fun kl h => G.out.1 kl (by simp at h; exact h.1), fun f hf hl => ?_⟩
              cases hl1 : left (.int .i64 f) with
              | false => exact G.out.2 f hf hl1
              | true =>
                rw [hl1] at hl
                have hk : (Lit.int .i64 f).sameKey (.int .i64 x) = true := by simpa using hl
                have := WideAt.sameKey_eq hk
                injection this with _ hfx
                subst hfx
                rw [HAT.out, hh]
            go_wp2_with (at_lookup; refine wpList_lookup_imap _ rfl _ _ 129 rfl 3 3 Tryz.underlying3 Tryz.underlying129 Tryz.underlying3 zeroInt b2 n2 g2 rfl HM2 x rfl hwx ?_; rw [hh]; go_frame)
            go_roundw
            case rel => exact ⟨_, cnt1, hrg1, h2w1, hgw1, G2⟩
            case measure => rw [hrg1.left_eq, hrg.left_eq]; exact hlt
          · have HN : Hid (¬ g1 = g2) := fun e => by have h9 := HAT.out; rw [e, hh] at h9; injection h9 with h9; exact hcd h9.symm
            go_wp2_with (at_lookup; refine wpList_lookup_imap _ rfl _ _ 129 rfl 3 3 Tryz.underlying3 Tryz.underlying129 Tryz.underlying3 zeroInt b2 n2 g2 rfl HM2 x rfl hwx ?_; rw [hh]; go_frame)
            go_ret
            exact ⟨ret_bool (eqG_false HN.out).symm, (Below.refl _ _).grown hgw1 (Nat.le_refl _) (fun k hk => by cases hk)⟩
  · have HN : Hid (¬ g1 = g2) := fun e => hsz (by
      have h9 := F2.out
      rw [← e] at h9
      exact F1.out.size_eq h9 T1.out T2.out)
    have hne : ¬ ((Maps.size D1 : Int) = (Maps.size D2 : Int)) := fun e => hsz (by exact_mod_cast e)
    go_enter Tryz.func94, Tryz.ntmps94
    go_wp2_with fail
    go_ret
    exact ⟨ret_bool (eqG_false HN.out).symm, Below.refl _ _⟩

end Go.Proofs.YtmappmeojmdekaaGreatDoor

namespace Go.Proofs.YtmappmeojmdekaaGreatDoor
open Go.RowKit Go.Lib Go.Maps
set_option linter.unusedVariables false

theorem encZ_one (n : Int) : ∀ u ∈ encZ n, u.oneCell' = true := by intro u hu; simp [encZ] at hu; subst hu; rfl
/-- a slice literal of ints -/
theorem ints_at (w : World) (T : TypeId) (l : List Int) (cs : Array Value) (h : cs.toList = l.map (Value.int .i64)) : SlAt (w.alloc (.cells cs T)) 1 (some ⟨w.heap.size, 0, none⟩) (l.map encZ) := by
  intro k row hk
  rw [List.getElem?_map] at hk
  cases hx : l[k]? with
  | none => rw [hx] at hk; simp at hk
  | some x =>
    rw [hx] at hk
    simp at hk
    subst hk
    refine ⟨w.heap.size, 0, rfl, by simp, fun j u hu => ?_⟩
    cases j with
    | zero =>
      simp [encZ] at hu
      subst hu
      have := World.cell?_alloc_mark w cs T (0, 0) k
      rw [show 0 + k * 1 + 0 = k by omega, this, ← Array.getElem?_toList, h, List.getElem?_map, hx]
      rfl
    | succ j => simp [encZ] at hu
theorem minV {n x m : Int} (h : m = min n x) : Value.int .i64 (if x < n then x else n) = .int .i64 m := by rw [h, show (if x < n then x else n) = min n x by omega]
theorem old_allocC {w : World} {b : Nat} (h : b < w.heap.size) (o : Obj) (j : Nat) : (w.alloc o).cell? ⟨b, j, none⟩ = w.cell? ⟨b, j, none⟩ := World.cell?_of_block (a := ⟨b, j, none⟩) (Below.heap_alloc _ _ _ h)

set_option maxRecDepth 100000 in
theorem least_any (l : List Int) (v : Value) (w : World) (hL : IsSl w 1 v (l.map encZ)) : Calls Tryz.prog 72 #[v] w fun e w' => e = .returned (.int .i64 (leastF l)) ∧ w = w' := by
  obtain ⟨A, c, rfl, hlc, hcm, hsl⟩ := hL
  rw [List.length_map] at hlc
  unfold maxLen at hcm
  simp only [List.length_map]
  go_enter Tryz.func72, Tryz.ntmps72
  go_wp2_with fail
  go_loopw [3, 8] (fun n i wr => ∃ k : Nat, k ≤ l.length ∧ n = .int .i64 (leastF (l.take k)) ∧ i = .int .i64 k ∧ wr = w) (fun _ i _ => l.length - (intOf i).toNat)
  case atStart => exact ⟨0, by omega, rfl, rfl, rfl⟩
  case round =>
    obtain ⟨k, hk, rfl, rfl, rfl⟩ := hrel
    by_cases hlt : k < l.length
    · have hki : (k : Int) < (l.length : Int) := by omega
      obtain ⟨b, off, rfl, hb, c0⟩ := int_at hsl hlt
      have H := Lib.hid (leastF_take hlt)
      generalize l[k] = x at *
      generalize leastF (l.take k) = n at *
      go_wp2_with fail
      go_roundw
      case measure => simp [intOf]; omega
      case rel => exact ⟨k + 1, by omega, by first | exact minV H.out | rw [H.out], by go_num, trivial⟩
    · have hki : ¬ (k : Int) < (l.length : Int) := by omega
      have H : Hid (leastF l = leastF (l.take k)) := by unfold Hid; rw [List.take_of_length_le (by omega)]
      go_wp2_with fail
      go_ret
      exact ⟨ret_int H.out.symm, rfl⟩

theorem least_nil (w : World) : Calls Tryz.prog 72 #[.slice none 0 0] w fun e w' => e = .returned (.int .i64 1073741824) ∧ w = w' := least_any [] _ w (IsSl.nil _ _)
theorem leastF_two {n m : Int} (h : n ≤ 1073741824) : leastF [n, m] = min n m := by
  unfold leastF; simp only [List.foldl_cons, List.foldl_nil]; omega
theorem leastF_one {n : Int} (h : n ≤ 1073741824) : leastF [n] = n := by
  unfold leastF; simp only [List.foldl_cons, List.foldl_nil]; omega

set_option maxRecDepth 100000 in
set_option maxHeartbeats 6400000 in
theorem conAt_any (l : List ConR) (v : Value) (z : ZoneR) (f t : Int) (w : World) (hv : LenV w) (hL : IsSl w 8 v (l.map ConR.cells)) :
    Calls Tryz.prog 56 #[v, .agg #[.int .i64 z.off, .bool z.sum], .int .i64 f, .int .i64 t] w fun e w' => e = .returned (.int .i64 (cAt l z f t)) ∧ Below w.heap.size w w' := by
  obtain ⟨W0, hW0, hb0, hg0, hx0⟩ := box1 w #[.int .i64 z.off, .bool z.sum] 27
  have HV := Lib.hid (hv.below hb0)
  replace hL := hL.below hb0
  clear hv
  obtain ⟨A, c, rfl, hlc, hcm, hsl⟩ := hL
  rw [List.length_map] at hlc
  unfold maxLen at hcm
  simp only [List.length_map]
  go_enter Tryz.func56, Tryz.ntmps56
  go_wp2_with fail
  rw [← hW0]
  clear hW0
  refine (least_nil _).mono ?_
  rintro e w1 ⟨rfl, rfl⟩
  go_wp2_with fail
  go_loopw [9, 15] (fun n i wr => ∃ k : Nat, k ≤ l.length ∧ n = .int .i64 (cAt (l.take k) z f t) ∧ i = .int .i64 k ∧ Below W0.heap.size W0 wr) (fun _ i _ => l.length - (intOf i).toNat)
  case atStart => exact ⟨0, by omega, rfl, rfl, Below.refl _ _⟩
  case round =>
    obtain ⟨k, hk, rfl, rfl, hbw⟩ := hrel
    obtain ⟨hc, hf⟩ := bcell hbw
    by_cases hlt : k < l.length
    · have hki : (k : Int) < (l.length : Int) := by omega
      obtain ⟨b, off, rfl, hb, c0, c1, c2, c3, c4, c5, c6, c7⟩ := con_at (hsl.below hbw) hlt
      have hst := cAt_take hlt z f t
      have hle := cAt_le (l.take k) z f t
      have y1 := old_allocC (w := wr) (b := w.heap.size) (Nat.lt_of_lt_of_le hg0 hbw.size)
      generalize l[k] = x at *
      generalize cAt (l.take k) z f t = n at *
      by_cases hfd : x.fd = f
      · cases hh : holdsB x.w z t with
        | false =>
          have H : Hid (cAt (l.take (k + 1)) z f t = n) := by unfold Hid; rw [hst]; exact if_neg (fun h => by rw [(cOn_iff.1 h).2] at hh; cases hh)
          have HH := Lib.hid hh
          clear hst hh hle
          go_wp2_with fail
          refine (holdsT_any x.w z t _ (HV.out.below (below_alloc hbw _))).mono ?_
          rintro e w2 ⟨rfl, hb2⟩
          rw [HH.out]
          have hbw2 := below_step (below_alloc hbw _) hb2
          go_wp2_with fail
          go_roundw
          case measure => simp [intOf]; omega
          case rel => exact ⟨k + 1, by omega, by rw [H.out], by go_num, hbw2⟩
        | true =>
          have H : Hid (cAt (l.take (k + 1)) z f t = min n x.tot) := by unfold Hid; rw [hst]; exact if_pos (cOn_iff.2 ⟨hfd, hh⟩)
          have HH := Lib.hid hh
          have HL := Lib.hid (leastF_two (n := n) (m := x.tot) hle)
          clear hst hh hle
          go_wp2_with fail
          refine (holdsT_any x.w z t _ (HV.out.below (below_alloc hbw _))).mono ?_
          rintro e w2 ⟨rfl, hb2⟩
          rw [HH.out]
          have hbw2 := below_step (below_alloc hbw _) hb2
          have d7 := ((bcell hb2).1 wr.heap.size 7 (by simp)).trans (World.cell?_alloc_mark wr #[.string x.nm, .int .i64 f, .int .i64 x.w.dy, .int .i64 x.w.st, .int .i64 x.w.en, .int .i64 x.w.fr, .int .i64 x.w.to, .int .i64 x.tot] 68 (0, 0) 7)
          have hz2 : wr.heap.size < w2.heap.size := Nat.lt_of_lt_of_le (by simp) hb2.size
          go_wp2_with fail
          refine (least_any [n, x.tot] _ _ (IsSl.mk (ints_at w2 3 [n, x.tot] #[.int .i64 n, .int .i64 x.tot] rfl) rfl (Nat.le_refl _) (by simp [maxLen]))).mono ?_
          rintro e w3 ⟨rfl, rfl⟩
          rw [HL.out]
          go_wp2_with fail
          go_roundw
          case measure => simp [intOf]; omega
          case rel => exact ⟨k + 1, by omega, by rw [H.out], by go_num, below_alloc hbw2 _⟩
      · have H : Hid (cAt (l.take (k + 1)) z f t = n) := by unfold Hid; rw [hst]; exact if_neg (fun h => hfd (cOn_iff.1 h).1)
        clear hst hle
        go_wp2_with fail
        go_roundw
        case measure => simp [intOf]; omega
        case rel => exact ⟨k + 1, by omega, by rw [H.out], by go_num, below_alloc hbw _⟩
    · have hki : ¬ (k : Int) < (l.length : Int) := by omega
      have H : Hid (cAt l z f t = cAt (l.take k) z f t) := by unfold Hid; rw [List.take_of_length_le (by omega)]
      go_wp2_with fail
      go_ret
      exact ⟨ret_int H.out.symm, below_step hb0 hbw⟩

end Go.Proofs.YtmappmeojmdekaaGreatDoor

namespace Go.Proofs.YtmappmeojmdekaaGreatDoor
open Go.RowKit Go.Lib Go.Maps
set_option linter.unusedVariables false

set_option maxRecDepth 100000 in
theorem conAfter_any (x : ConR) (z : ZoneR) (t : Int) (w : World) (hv : LenV w) (h0 : 0 ≤ t) (h1 : t ≤ 268435456) :
    Calls Tryz.prog 93 #[.agg #[.string x.nm, .int .i64 x.fd, .int .i64 x.w.dy, .int .i64 x.w.st, .int .i64 x.w.en, .int .i64 x.w.fr, .int .i64 x.w.to, .int .i64 x.tot], .agg #[.int .i64 z.off, .bool z.sum], .int .i64 t] w fun e w' => e = .returned (.int .i64 (aftF z t x)) ∧ Below w.heap.size w w' := by
  obtain ⟨W0, hW0, hb0, hg1, hg0, hx0, hy0⟩ := box2 w #[.string x.nm, .int .i64 x.fd, .int .i64 x.w.dy, .int .i64 x.w.st, .int .i64 x.w.en, .int .i64 x.w.fr, .int .i64 x.w.to, .int .i64 x.tot] 68 #[.int .i64 z.off, .bool z.sum] 27
  have HV := Lib.hid (hv.below hb0)
  have HN : Hid (nextA x.w z t = nxA z t x) := rfl
  have HA : Hid (aftF z t x = if 0 ≤ nxA z t x then nxA z t x else 268435457) := rfl
  clear hv
  go_enter Tryz.func93, Tryz.ntmps93
  go_wp2_with fail
  rw [← hW0]
  clear hW0
  refine (winNext_any x.w z t _ HV.out).mono ?_
  rintro e w1 ⟨rfl, hb1⟩
  rw [HN.out]
  generalize nxA z t x = n at *
  by_cases hn : 0 ≤ n
  · go_wp2_with fail
    go_ret
    exact ⟨ret_int (by rw [HA.out, if_pos hn]), below_step hb0 hb1⟩
  · go_wp2_with fail
    go_ret
    exact ⟨ret_int (by rw [HA.out, if_neg (by omega)]), below_step hb0 hb1⟩

theorem edgeF_take {l : List ConR} {k : Nat} (h : k < l.length) (t : Int) : edgeF (l.take (k + 1)) t = edStep t (edgeF (l.take k) t) l[k] := fold_take (edStep t) 268435457 h
theorem edStep_bad {t n : Int} {c : ConR} (h : winB c.w = false) : edStep t n c = n := by unfold edStep; rw [h]; exact if_neg (by decide)
theorem edStep_ok {t n : Int} {c : ConR} (h : winB c.w = true) : edStep t n c = (if t < c.w.to then min (if t < c.w.fr then min n c.w.fr else n) c.w.to else if t < c.w.fr then min n c.w.fr else n) := by unfold edStep; exact if_pos h

set_option maxRecDepth 100000 in
set_option maxHeartbeats 6400000 in
theorem conEdge_any (l : List ConR) (v : Value) (t : Int) (w : World) (hL : IsSl w 8 v (l.map ConR.cells)) :
    Calls Tryz.prog 78 #[v, .int .i64 t] w fun e w' => e = .returned (.int .i64 (edgeF l t)) ∧ Below w.heap.size w w' := by
  obtain ⟨A, c, rfl, hlc, hcm, hsl⟩ := hL
  rw [List.length_map] at hlc
  unfold maxLen at hcm
  simp only [List.length_map]
  go_enter Tryz.func78, Tryz.ntmps78
  go_wp2_with fail
  go_loopw [5, 12] (fun n i wr => ∃ k : Nat, k ≤ l.length ∧ n = .int .i64 (edgeF (l.take k) t) ∧ i = .int .i64 k ∧ Below w.heap.size w wr) (fun _ i _ => l.length - (intOf i).toNat)
  case atStart => exact ⟨0, by omega, rfl, rfl, Below.refl _ _⟩
  case round =>
    obtain ⟨k, hk, rfl, rfl, hbw⟩ := hrel
    obtain ⟨hc, hf⟩ := bcell hbw
    by_cases hlt : k < l.length
    · have hki : (k : Int) < (l.length : Int) := by omega
      obtain ⟨b, off, rfl, hb, c0, c1, c2, c3, c4, c5, c6, c7⟩ := con_at (hsl.below hbw) hlt
      have HT := Lib.hid (edgeF_take hlt t)
      have HB := Lib.hid (fun n h => edStep_bad (t := t) (n := n) (c := l[k]'hlt) h)
      have HO := Lib.hid (fun n h => edStep_ok (t := t) (n := n) (c := l[k]'hlt) h)
      generalize l[k] = x at *
      generalize edgeF (l.take k) t = n at *
      cases hW : winB x.w with
      | false =>
        have H1 := Lib.hid (winE_false hW)
        have H : Hid (edgeF (l.take (k + 1)) t = n) := by unfold Hid; rw [HT.out, HB.out _ hW]
        clear hW
        go_wp2_with fail
        refine (winValid_any x.w _).mono ?_
        rintro e w2 ⟨rfl, hb2⟩
        rw [H1.out]
        go_wp2_with fail
        go_roundw
        case measure => simp [intOf]; omega
        case rel => exact ⟨k + 1, by omega, by rw [H.out], by go_num, below_step (below_alloc hbw _) hb2⟩
      | true =>
        have H1 := Lib.hid (winE_true hW)
        have H : Hid (edgeF (l.take (k + 1)) t = (if t < x.w.to then min (if t < x.w.fr then min n x.w.fr else n) x.w.to else if t < x.w.fr then min n x.w.fr else n)) := by unfold Hid; rw [HT.out, HO.out _ hW]
        clear hW
        have x0 : ∀ w, (Instr.index 101 (.agg #[.int .i64 x.w.fr, .int .i64 x.w.to]) (.int .i64 0)).run Tryz.prog w = .ok (.int .i64 x.w.fr) w := fun _ => by kernel_rfl
        have x1 : ∀ w, (Instr.index 101 (.agg #[.int .i64 x.w.fr, .int .i64 x.w.to]) (.int .i64 1)).run Tryz.prog w = .ok (.int .i64 x.w.to) w := fun _ => by kernel_rfl
        go_wp2_with fail
        refine (winValid_any x.w _).mono ?_
        rintro e w2 ⟨rfl, hb2⟩
        rw [H1.out]
        have hbw2 := below_step (below_alloc hbw _) hb2
        have hz2 : wr.heap.size < w2.heap.size := Nat.lt_of_lt_of_le (by simp) hb2.size
        have d5 := ((bcell hb2).1 wr.heap.size 5 (by simp)).trans (World.cell?_alloc_mark wr #[.string x.nm, .int .i64 x.fd, .int .i64 x.w.dy, .int .i64 x.w.st, .int .i64 x.w.en, .int .i64 x.w.fr, .int .i64 x.w.to, .int .i64 x.tot] 68 (0, 0) 5)
        have d6 := ((bcell hb2).1 wr.heap.size 6 (by simp)).trans (World.cell?_alloc_mark wr #[.string x.nm, .int .i64 x.fd, .int .i64 x.w.dy, .int .i64 x.w.st, .int .i64 x.w.en, .int .i64 x.w.fr, .int .i64 x.w.to, .int .i64 x.tot] 68 (0, 0) 6)
        go_wp2_with fail
        go_loopw [5, 27] (fun m j wx => ((j = .int .i64 0 ∧ m = .int .i64 n) ∨ (j = .int .i64 1 ∧ m = .int .i64 (if t < x.w.fr then min n x.w.fr else n)) ∨ (j = .int .i64 2 ∧ m = .int .i64 (edgeF (l.take (k + 1)) t))) ∧ wx = w2) (fun _ j _ => 2 - (intOf j).toNat)
        case atStart => exact ⟨.inl ⟨rfl, rfl⟩, rfl⟩
        case round =>
          obtain ⟨⟨rfl, rfl⟩ | ⟨rfl, rfl⟩ | ⟨rfl, rfl⟩, rfl⟩ := hrel
          · by_cases h : t < x.w.fr
            · have hiv : Hid (Value.int .i64 (min n x.w.fr) = .int .i64 (if t < x.w.fr then min n x.w.fr else n)) := by unfold Hid; rw [if_pos h]
              go_wp2_with fail
              go_roundw
              case measure => simp [intOf]
              case rel => exact ⟨.inr (.inl ⟨by go_num, hiv.out⟩), trivial⟩
            · go_wp2_with fail
              go_roundw
              case measure => simp [intOf]
              case rel => exact ⟨.inr (.inl ⟨by go_num, by rw [if_neg h]⟩), trivial⟩
          · generalize (if t < x.w.fr then min n x.w.fr else n) = m at *
            by_cases h : t < x.w.to
            · have hiv : Hid (Value.int .i64 (min m x.w.to) = .int .i64 (edgeF (l.take (k + 1)) t)) := by unfold Hid; rw [H.out, if_pos h]
              go_wp2_with fail
              go_roundw
              case measure => simp [intOf]
              case rel => exact ⟨.inr (.inr ⟨by go_num, hiv.out⟩), trivial⟩
            · go_wp2_with fail
              go_roundw
              case measure => simp [intOf]
              case rel => exact ⟨.inr (.inr ⟨by go_num, by rw [H.out, if_neg h]⟩), trivial⟩
          · go_wp2_with fail
            go_roundw
            case measure => simp [intOf]; omega
            case rel => exact ⟨k + 1, by omega, rfl, by go_num, hbw2⟩
    · have hki : ¬ (k : Int) < (l.length : Int) := by omega
      have H : Hid (edgeF l t = edgeF (l.take k) t) := by unfold Hid; rw [List.take_of_length_le (by omega)]
      go_wp2_with fail
      go_ret
      exact ⟨ret_int H.out.symm, hbw⟩

end Go.Proofs.YtmappmeojmdekaaGreatDoor

namespace Go.Proofs.YtmappmeojmdekaaGreatDoor
open Go.RowKit Go.Lib Go.Maps
set_option linter.unusedVariables false

theorem I64.minI {a b : Int} (h : I64 a) (g : I64 b) : I64 (min a b) := by
  have h1 := h.rng
  have h2 := g.rng
  exact I64.mk (by omega) (by omega)
/-- limits of feeders, as a map that the call has made -/
def LimPost (w : World) (l : List ConR) (z : ZoneR) (t : Int) (e : Ending) (w' : World) : Prop := ∃ b, e = .returned (.map (some b)) ∧ IntMap Tryz.prog 3 3 w' b l.length (limG l z t) ∧ w.heap.size ≤ b ∧ Below w.heap.size w w'

set_option maxRecDepth 100000 in
set_option maxHeartbeats 6400000 in
theorem conLimits_any (l : List ConR) (v : Value) (z : ZoneR) (t : Int) (w : World) (hv : LenV w) (hL : IsSl w 8 v (l.map ConR.cells)) (hfit : ∀ c ∈ l, c.fits) :
    Calls Tryz.prog 95 #[v, .agg #[.int .i64 z.off, .bool z.sum], .int .i64 t] w (LimPost w l z t) := by
  obtain ⟨W0, hW0, hb0, hg0, hx0⟩ := box1 w #[.int .i64 z.off, .bool z.sum] 27
  have HV := Lib.hid (hv.below hb0)
  replace hL := hL.below hb0
  have HF := Lib.hid hfit
  clear hv hfit
  obtain ⟨A, c, rfl, hlc, hcm, hsl⟩ := hL
  rw [List.length_map] at hlc
  have hlm : l.length ≤ maxLen := Nat.le_trans hlc hcm
  unfold maxLen at hcm
  simp only [List.length_map]
  have hmm := @run_makeMap Tryz.prog
  go_enter Tryz.func95, Tryz.ntmps95
  go_wp2_with fail
  rw [← hW0]
  obtain ⟨B, hB⟩ : ∃ B, B = w.heap.size + 1 := ⟨_, rfl⟩
  rw [← hB]
  have HB : Hid (W0.heap.size = B) := by unfold Hid; rw [hB, hW0]; simp
  clear hW0 hmm hB
  go_loopw [15] (fun i wr => ∃ k : Nat, k ≤ l.length ∧ i = .int .i64 k ∧ Hid (IntMap Tryz.prog 3 3 wr B k (limG (l.take k) z t)) ∧ Below W0.heap.size W0 wr) (fun i _ => l.length - (intOf i).toNat)
  case atStart => exact ⟨0, by omega, rfl, HB.out ▸ (intMap_made _ _ _).congr (by rw [List.take_zero, limG_nil]), below_alloc (Below.refl _ _) _⟩
  case round =>
    obtain ⟨k, hk, rfl, HM, hbw⟩ := hrel
    obtain ⟨hc, hf⟩ := bcell hbw
    by_cases hlt : k < l.length
    · have hki : (k : Int) < (l.length : Int) := by omega
      obtain ⟨b, off, rfl, hb, c0, c1, c2, c3, c4, c5, c6, c7⟩ := con_at (hsl.below hbw) hlt
      have hxf := HF.out _ (List.getElem_mem hlt)
      have hcw := cAt_wf (fits_take HF.out k) z
      have HS1 : Hid (1073741824 ≤ (l[k]'hlt).tot ∨ holdsB (l[k]'hlt).w z t = false → limG (l.take k ++ [l[k]'hlt]) z t = limG (l.take k) z t) := fun h => limG_skip h
      have HS2 : Hid ((l[k]'hlt).tot < 1073741824 → holdsB (l[k]'hlt).w z t = true → ∀ n, n = min (cAt (l.take k) z (l[k]'hlt).fd t) (l[k]'hlt).tot → limG (l.take k ++ [l[k]'hlt]) z t = fun f => if f = (l[k]'hlt).fd then some n else limG (l.take k) z t f) := fun h1 h2 n hn => limG_put h1 h2 n hn
      have HTK : Hid (l.take (k + 1) = l.take k ++ [l[k]]) := List.take_succ_eq_append_getElem hlt
      have y1 := old_allocC (w := wr) (b := w.heap.size) (Nat.lt_of_lt_of_le hg0 hbw.size)
      generalize l[k] = x at *
      by_cases htot : 1073741824 ≤ x.tot
      · have H : Hid (limG (l.take k) z t = limG (l.take (k + 1)) z t) := by unfold Hid; rw [HTK.out]; exact (HS1.out (.inl htot)).symm
        clear hcw
        go_wp2_with fail
        go_roundw
        case measure => simp [intOf]; omega
        case rel => exact ⟨k + 1, by omega, by go_num, ((HM.out.below (below_alloc (Below.refl _ _) _)).mono (Nat.le_succ k)).congr H.out, below_alloc hbw _⟩
      · cases hh : holdsB x.w z t with
        | false =>
          have H : Hid (limG (l.take k) z t = limG (l.take (k + 1)) z t) := by unfold Hid; rw [HTK.out]; exact (HS1.out (.inr hh)).symm
          have HH := Lib.hid hh
          clear hh hcw
          go_wp2_with fail
          refine (holdsT_any x.w z t _ (HV.out.below (below_alloc hbw _))).mono ?_
          rintro e w2 ⟨rfl, hb2⟩
          rw [HH.out]
          have hbw2 := below_step (below_alloc hbw _) hb2
          go_wp2_with fail
          go_roundw
          case measure => simp [intOf]; omega
          case rel => exact ⟨k + 1, by omega, by go_num, (((HM.out.below (below_alloc (Below.refl _ _) _)).below hb2).mono (Nat.le_succ k)).congr H.out, hbw2⟩
        | true =>
          have HP := Lib.hid (HS2.out (by omega) hh)
          have HH := Lib.hid hh
          have HCW := Lib.hid (fun f => hcw f t)
          have HXF := Lib.hid hxf
          clear hh hcw hxf
          go_wp2_with fail
          refine (holdsT_any x.w z t _ (HV.out.below (below_alloc hbw _))).mono ?_
          rintro e w2 ⟨rfl, hb2⟩
          rw [HH.out]
          have hbw2 := below_step (below_alloc hbw _) hb2
          have d1 := ((bcell hb2).1 wr.heap.size 1 (by simp)).trans (World.cell?_alloc_mark wr #[.string x.nm, .int .i64 x.fd, .int .i64 x.w.dy, .int .i64 x.w.st, .int .i64 x.w.en, .int .i64 x.w.fr, .int .i64 x.w.to, .int .i64 x.tot] 68 (0, 0) 1)
          have d7 := ((bcell hb2).1 wr.heap.size 7 (by simp)).trans (World.cell?_alloc_mark wr #[.string x.nm, .int .i64 x.fd, .int .i64 x.w.dy, .int .i64 x.w.st, .int .i64 x.w.en, .int .i64 x.w.fr, .int .i64 x.w.to, .int .i64 x.tot] 68 (0, 0) 7)
          have hz2 : wr.heap.size < w2.heap.size := Nat.lt_of_lt_of_le (by simp) hb2.size
          have HM2 := (HM.out.below (below_alloc (Below.refl _ _) _)).below hb2
          cases hg : limG (l.take k) z t x.fd with
          | some n =>
            have hn := limG_some hg
            have HL := Lib.hid (leastF_two (n := n) (m := x.tot) hn.2)
            have HP2 := Lib.hid (HP.out (min n x.tot) (by rw [hn.1]))
            have HW : Hid (I64 (min n x.tot)) := by unfold Hid; rw [hn.1]; exact (HCW.out _).minI HXF.out.2.2
            clear hn
            go_wp2_with (at_lookup; refine wpList_lookup_imap _ rfl _ _ 129 rfl 3 3 Tryz.underlying3 Tryz.underlying129 Tryz.underlying3 zeroInt B k (limG (l.take k) z t) rfl HM2 x.fd rfl HXF.out.2.1 ?_; rw [hg]; go_frame)
            have hz2d : wr.heap.size < w2.drew.heap.size := hz2
            have y2 := old_allocC (w := w2.drew) (b := wr.heap.size) hz2d
            obtain ⟨w5, hrun5, hM5, hg5⟩ := (HM2.below ((Below.refl w2.heap.size w2).alloc (Nat.le_refl _) (.cells #[.int .i64 n, .int .i64 x.tot] 3)).drew).update_run (t := 129) Tryz.underlying3 Tryz.underlying129 Tryz.underlying3 (by unfold maxLen; omega) HXF.out.2.1 HW.out
            have HM5 := Lib.hid hM5
            have HG5 := Lib.hid hg5
            clear hM5 hg5
            go_region_with (go_at_call 72; refine (least_any [n, x.tot] _ _ (IsSl.mk (ints_at w2.drew 3 [n, x.tot] #[.int .i64 n, .int .i64 x.tot] rfl) rfl (Nat.le_refl _) (by simp [maxLen]))).mono ?_; rintro e w4 ⟨rfl, rfl⟩; rw [HL.out])
            all_goals
              go_wp2_with fail
              go_roundw
              case measure => simp [intOf]; omega
              case rel => exact ⟨k + 1, by omega, by go_num, HM5.out.congr (by rw [HTK.out, HP2.out]; rfl), (below_alloc hbw2 _).drew.grown HG5.out (below_alloc hbw2 _).drew.size (fun j hj => by cases hj; exact Nat.le_of_eq HB.out)⟩
          | none =>
            have hn := limG_none hg
            have HL := Lib.hid (leastF_one (n := x.tot) (by omega))
            have HP2 := Lib.hid (HP.out x.tot (by rw [hn]; omega))
            clear hn
            go_wp2_with (at_lookup; refine wpList_lookup_imap _ rfl _ _ 129 rfl 3 3 Tryz.underlying3 Tryz.underlying129 Tryz.underlying3 zeroInt B k (limG (l.take k) z t) rfl HM2 x.fd rfl HXF.out.2.1 ?_; rw [hg]; go_frame)
            have hz2d : wr.heap.size < w2.drew.heap.size := hz2
            have y2 := old_allocC (w := w2.drew) (b := wr.heap.size) hz2d
            obtain ⟨w5, hrun5, hM5, hg5⟩ := (HM2.below ((Below.refl w2.heap.size w2).alloc (Nat.le_refl _) (.cells #[.int .i64 x.tot] 3)).drew).update_run (t := 129) Tryz.underlying3 Tryz.underlying129 Tryz.underlying3 (by unfold maxLen; omega) HXF.out.2.1 HXF.out.2.2
            have HM5 := Lib.hid hM5
            have HG5 := Lib.hid hg5
            clear hM5 hg5
            go_region_with (go_at_call 72; refine (least_any [x.tot] _ _ (IsSl.mk (ints_at w2.drew 3 [x.tot] #[.int .i64 x.tot] rfl) rfl (Nat.le_refl _) (by simp [maxLen]))).mono ?_; rintro e w4 ⟨rfl, rfl⟩; rw [HL.out])
            all_goals
              go_wp2_with fail
              go_roundw
              case measure => simp [intOf]; omega
              case rel => exact ⟨k + 1, by omega, by go_num, HM5.out.congr (by rw [HTK.out, HP2.out]; rfl), (below_alloc hbw2 _).drew.grown HG5.out (below_alloc hbw2 _).drew.size (fun j hj => by cases hj; exact Nat.le_of_eq HB.out)⟩
    · have hki : ¬ (k : Int) < (l.length : Int) := by omega
      have hkl : k = l.length := by omega
      have HE : Hid (IntMap Tryz.prog 3 3 wr B l.length (limG l z t)) := by
        have := HM.out
        rw [List.take_of_length_le (by omega), hkl] at this
        exact this
      clear hkl
      go_wp2_with fail
      go_ret
      exact ⟨B, rfl, HE.out, HB.out ▸ hb0.size, below_step hb0 hbw⟩

end Go.Proofs.YtmappmeojmdekaaGreatDoor

namespace Go.Proofs.YtmappmeojmdekaaGreatDoor
open Go.RowKit Go.Lib Go.Maps
set_option linter.unusedVariables false

set_option maxRecDepth 100000 in
set_option maxHeartbeats 6400000 in
theorem conDiffers_any (l : List ConR) (v : Value) (z : ZoneR) (t : Int) (w : World) (hv : LenV w) (hL : IsSl w 8 v (l.map ConR.cells)) (hfit : ∀ c ∈ l, c.fits) (h0 : 0 ≤ t) (h1 : t ≤ 268435457) :
    Calls Tryz.prog 80 #[v, .agg #[.int .i64 z.off, .bool z.sum], .int .i64 t] w fun e w' => e = .returned (.bool (difB l z t)) ∧ Below w.heap.size w w' := by
  obtain ⟨W0, hW0, hb0, hg0, hx0⟩ := box1 w #[.int .i64 z.off, .bool z.sum] 27
  have HV := Lib.hid (hv.below hb0)
  replace hL := Lib.hid (hL.below hb0)
  have HF := Lib.hid hfit
  clear hv hfit
  have hwp : IntKind.i64.wrap (t - 1) = t - 1 := IntWalk.i64_in _ (by omega)
  have HD : Hid (difB l z t = !eqG (limG l z t) (limG l z (t - 1))) := by
    unfold Hid
    by_cases h : limG l z t = limG l z (t - 1)
    · rw [eqG_true h]; exact limG_dif.2 h
    · rw [eqG_false h]
      cases hd : difB l z t with
      | true => rfl
      | false => exact absurd (limG_dif.1 hd) h
  clear h0 h1
  have HC1 := Lib.hid (fun w hv hL => conLimits_any l v z t w hv hL HF.out)
  have HC2 := Lib.hid (fun w hv hL => conLimits_any l v z (t - 1) w hv hL HF.out)
  have hbr := Below.refl W0.heap.size W0
  go_enter Tryz.func80, Tryz.ntmps80
  go_wp2_with fail
  rw [← hW0]
  clear hW0
  go_region_with ((first
    | (go_at_call 95; have hz4 := hM4; refine (HC2.out _ (HV.out.below hbw4) (hL.out.below hbw4)).mono ?_; rintro e w5 ⟨b5, rfl, hM5, hg5, hb5⟩; replace hM4 := hM4.below hb5; have hbw5 := below_step hbw4 hb5)
    | (go_at_call 95; refine (HC1.out _ (HV.out.below (Below.refl _ _).drew) (hL.out.below (Below.refl _ _).drew)).mono ?_; rintro e w4 ⟨b4, rfl, hM4, hg4, hb4⟩; have hbw4 := below_step (Below.refl W0.heap.size W0).drew hb4; obtain ⟨hc4, hf4⟩ := bcell hbw4)
    | (go_at_call 94; refine (mapsEqual_any b4 b5 l.length l.length _ _ _ hM4 hM5).mono ?_; rintro e w6 ⟨rfl, hb6⟩; have hbw6 := below_step hbw5 hb6)))
  all_goals
    go_wp2_with fail
    go_ret
    exact ⟨ret_bool HD.out.symm, below_step hb0 hbw6⟩

end Go.Proofs.YtmappmeojmdekaaGreatDoor
