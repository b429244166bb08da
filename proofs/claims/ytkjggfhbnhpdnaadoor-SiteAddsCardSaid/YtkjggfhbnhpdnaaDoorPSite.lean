/-
  Plain facts: sites.
-/
import Derived.Test.YtkjggfhbnhpdnaaDoorPIdent
import Derived.Test.YtkjggfhbnhpdnaaDoorSl
namespace Go.Proofs.YtkjggfhbnhpdnaaDoor
set_option linter.unusedVariables false

structure Feed where
  name : ByteArray
  parent : Int
  a : Int
  b : Int
  c : Int
structure Pnt where
  name : ByteArray
  feeder : Int
  phases : Int
  rated : Int
  least : Int
structure CapR where
  a : Int
  b : Int
  c : Int
  t : Int
structure WantR where
  point : Int
  phases : Int
  top : Int
structure SiteR where
  name : ByteArray
  F : List Feed
  P : List Pnt

def Feed.cells (f : Feed) : List Value := [.string f.name, .int .i64 f.parent, .int .i64 f.a, .int .i64 f.b, .int .i64 f.c]
def Pnt.cells (p : Pnt) : List Value := [.string p.name, .int .i64 p.feeder, .int .i64 p.phases, .int .i64 p.rated, .int .i64 p.least]
def CapR.cells (c : CapR) : List Value := [.int .i64 c.a, .int .i64 c.b, .int .i64 c.c, .int .i64 c.t]
def WantR.cells (w : WantR) : List Value := [.int .i64 w.point, .int .i64 w.phases, .int .i64 w.top]
def Feed.fits (f : Feed) : Prop := f.name.size ≤ maxLen
def Pnt.fits (p : Pnt) : Prop := p.name.size ≤ maxLen

/-- a name, in capitals -/
def keyN (s : ByteArray) : List UInt8 := capL s.data.toList
def nameE (keys : List (List UInt8)) (s : ByteArray) : Int := if (!validL s.data.toList) = true then 4 else if keyN s ∈ keys then 9 else 0
def powB (n : Int) : Bool := decide (0 ≤ n) && decide (n ≤ 1048576)
def feedE (keys : List (List UInt8)) (i : Int) (f : Feed) : Int :=
  if nameE keys f.name ≠ 0 then nameE keys f.name else if f.parent < -1 ∨ i ≤ f.parent then 1 else if (powB f.a && (powB f.b && powB f.c)) = false then 2 else 0
def pntE (keys : List (List UInt8)) (n : Int) (p : Pnt) : Int :=
  if nameE keys p.name ≠ 0 then nameE keys p.name else if p.feeder < 0 ∨ n ≤ p.feeder ∨ p.phases < 1 ∨ 7 < p.phases then 1 else if powB p.rated = false ∨ p.least < 0 ∨ p.rated < p.least then 2 else 0

def keysF (l : List Feed) : List (List UInt8) := l.map (fun f => keyN f.name)
def keysP (l : List Pnt) : List (List UInt8) := l.map (fun p => keyN p.name)
def feedAt (F : List Feed) (k : Nat) : Int := match F[k]? with
  | some f => feedE (keysF (F.take k)) k f
  | none => 0
def pntAt (F : List Feed) (P : List Pnt) (k : Nat) : Int := match P[k]? with
  | some p => pntE (keysF F ++ keysP (P.take k)) F.length p
  | none => 0
/-- the first that is not 0, of n -/
def firstE (g : Nat → Int) : Nat → Int
  | 0 => 0
  | n + 1 => if firstE g n ≠ 0 then firstE g n else g n
def siteE (S : SiteR) : Int :=
  if (!validL S.name.data.toList) = true then 4 else if 32 < S.F.length ∨ 32 < S.P.length then 3
  else if firstE (feedAt S.F) S.F.length ≠ 0 then firstE (feedAt S.F) S.F.length else firstE (pntAt S.F S.P) S.P.length

theorem firstE_step {g : Nat → Int} {n : Nat} (h : firstE g n = 0) : firstE g (n + 1) = g n := by simp [firstE, h]
theorem firstE_more {g : Nat → Int} {n : Nat} {e : Int} (h : firstE g n = e) (he : e ≠ 0) : ∀ m, n ≤ m → firstE g m = e := by
  intro m hm
  induction m with
  | zero => have : n = 0 := by omega
            subst this; exact h
  | succ m ih =>
    by_cases hn : n = m + 1
    · subst hn; exact h
    · have := ih (by omega)
      simp [firstE, this, he]
theorem firstE_stop {g : Nat → Int} {k n : Nat} (h : firstE g k = 0) (he : g k ≠ 0) (hk : k < n) : firstE g n = g k :=
  firstE_more (by rw [firstE_step h]) he n (by omega)
theorem firstE_go {g : Nat → Int} {k : Nat} (h : firstE g k = 0) (he : g k = 0) : firstE g (k + 1) = 0 := by rw [firstE_step h, he]

theorem feedAt_eq {F : List Feed} {k : Nat} (h : k < F.length) : feedAt F k = feedE (keysF (F.take k)) k F[k] := by simp [feedAt, List.getElem?_eq_getElem h]
theorem pntAt_eq {F : List Feed} {P : List Pnt} {k : Nat} (h : k < P.length) : pntAt F P k = pntE (keysF F ++ keysP (P.take k)) F.length P[k] := by simp [pntAt, List.getElem?_eq_getElem h]
theorem keysF_step {F : List Feed} {k : Nat} (h : k < F.length) : keysF (F.take (k + 1)) = keysF (F.take k) ++ [keyN F[k].name] := by
  unfold keysF; rw [List.take_succ_eq_append_getElem h, List.map_append]; rfl
theorem keysP_step {P : List Pnt} {k : Nat} (h : k < P.length) : keysP (P.take (k + 1)) = keysP (P.take k) ++ [keyN P[k].name] := by
  unfold keysP; rw [List.take_succ_eq_append_getElem h, List.map_append]; rfl

/-- a feeder and the feeders above it -/
def pathL (F : List Feed) (last : Nat) (i : Int) : List Nat :=
  if h : 0 ≤ i ∧ i < last then i.toNat :: pathL F i.toNat (match F[i.toNat]? with | some f => f.parent | none => -1) else []
termination_by last
decreasing_by omega
theorem pathL_in {F : List Feed} {last k : Nat} (h : k < last) (hk : k < F.length) : pathL F last (k : Int) = k :: pathL F k F[k].parent := by
  rw [pathL]
  simp [h, List.getElem?_eq_getElem hk]
theorem pathL_out {F : List Feed} {last : Nat} {i : Int} (h : ¬ (0 ≤ i ∧ i < last)) : pathL F last i = [] := by
  rw [pathL, dif_neg h]
theorem pathL_lt {F : List Feed} {last : Nat} {i : Int} : ∀ x ∈ pathL F last i, x < last := by
  induction last using Nat.strongRecOn generalizing i with
  | _ last ih =>
    intro x hx
    rw [pathL] at hx
    split at hx
    · rename_i h
      rcases List.mem_cons.1 hx with rfl | hx
      · omega
      · have := ih i.toNat (by omega) x hx
        omega
    · simp at hx

/-- what exceeds its cap -/
def overB (c l : CapR) : Bool := decide (c.a < l.a) || (decide (c.b < l.b) || (decide (c.c < l.c) || decide (c.t < l.t)))
def overL (c l : List CapR) : List Nat := (List.range (min c.length l.length)).filter (fun i => match c[i]?, l[i]? with
  | some x, some y => overB x y
  | _, _ => false)

end Go.Proofs.YtkjggfhbnhpdnaaDoor
