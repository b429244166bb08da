/-
  Plain facts: what the feeders of a site carry.
-/
import Derived.Test.YtkjggfhbnhpdnaaDoorPSite
namespace Go.Proofs.YtkjggfhbnhpdnaaDoor
set_option linter.unusedVariables false

theorem CapR.ext' {x y : CapR} (h1 : x.a = y.a) (h2 : x.b = y.b) (h3 : x.c = y.c) (h4 : x.t = y.t) : x = y := by
  cases x; cases y; simp_all

def zeroC : CapR := ⟨0, 0, 0, 0⟩
/-- a power on some phases, added -/
def addC (c : CapR) (ph p : Int) : CapR := ⟨c.a + p * (ph % 2), c.b + p * (ph / 2 % 2), c.c + p * (ph / 4 % 2), c.t + p * (ph % 2 + ph / 2 % 2 + ph / 4 % 2)⟩
def plusC (x y : CapR) : CapR := ⟨x.a + y.a, x.b + y.b, x.c + y.c, x.t + y.t⟩
theorem plusC_comm (x y : CapR) : plusC x y = plusC y x := by apply CapR.ext' <;> simp only [plusC] <;> omega
theorem plusC_assoc (x y z : CapR) : plusC (plusC x y) z = plusC x (plusC y z) := by apply CapR.ext' <;> simp only [plusC] <;> omega
theorem zero_plusC (x : CapR) : plusC zeroC x = x := by apply CapR.ext' <;> simp only [plusC, zeroC] <;> omega
theorem addC_plus (c : CapR) (ph p : Int) : addC c ph p = plusC c (addC zeroC ph p) := by apply CapR.ext' <;> simp only [plusC, addC, zeroC] <;> omega

/-- the feeders that a want loads -/
def wantPath (F : List Feed) (P : List Pnt) (x : WantR) : List Nat := match P[x.point.toNat]? with
  | some p => pathL F F.length p.feeder
  | none => []
theorem wantPath_eq {F : List Feed} {P : List Pnt} {x : WantR} {k : Nat} (h : k < P.length) (e : x.point = k) : wantPath F P x = pathL F F.length P[k].feeder := by
  unfold wantPath
  rw [e, Int.toNat_natCast, List.getElem?_eq_getElem h]
def addPath (L : List CapR) (path : List Nat) (ph p : Int) : List CapR := path.foldl (fun L f => L.modify f (fun c => addC c ph p)) L
def loadW (F : List Feed) (P : List Pnt) (L : List CapR) (x : WantR × Int) : List CapR := addPath L (wantPath F P x.1) x.1.phases x.2
def loadL (F : List Feed) (P : List Pnt) (l : List (WantR × Int)) : List CapR := l.foldl (loadW F P) (List.replicate F.length zeroC)
def ctr (F : List Feed) (P : List Pnt) (f : Nat) (x : WantR × Int) : CapR := if f ∈ wantPath F P x.1 then addC zeroC x.1.phases x.2 else zeroC
def capAt (F : List Feed) (P : List Pnt) (f : Nat) (l : List (WantR × Int)) : CapR := l.foldl (fun c x => plusC c (ctr F P f x)) zeroC

theorem addPath_len (path : List Nat) (ph p : Int) : ∀ L : List CapR, (addPath L path ph p).length = L.length := by
  induction path with
  | nil => intro L; rfl
  | cons f l ih => intro L; unfold addPath at *; rw [List.foldl_cons, ih, List.length_modify]
theorem loadL_len (F : List Feed) (P : List Pnt) (l : List (WantR × Int)) : (loadL F P l).length = F.length := by
  unfold loadL
  suffices h : ∀ L : List CapR, (l.foldl (loadW F P) L).length = L.length by rw [h]; simp
  induction l with
  | nil => intro L; rfl
  | cons x l ih => intro L; rw [List.foldl_cons, ih]; exact addPath_len _ _ _ _
theorem loadL_snoc (F : List Feed) (P : List Pnt) (l : List (WantR × Int)) (x : WantR × Int) : loadL F P (l ++ [x]) = addPath (loadL F P l) (wantPath F P x.1) x.1.phases x.2 := by
  unfold loadL; rw [List.foldl_append]; rfl

theorem pathL_desc {F : List Feed} {last : Nat} {i : Int} : (pathL F last i).Pairwise (fun a b => b < a) := by
  induction last using Nat.strongRecOn generalizing i with
  | _ last ih =>
    rw [pathL]
    split
    · rename_i h
      rw [List.pairwise_cons]
      exact ⟨fun x hx => pathL_lt x hx, ih _ (by omega)⟩
    · exact List.Pairwise.nil
theorem wantPath_desc (F : List Feed) (P : List Pnt) (x : WantR) : (wantPath F P x).Pairwise (fun a b => b < a) := by
  unfold wantPath
  split
  · exact pathL_desc
  · exact List.Pairwise.nil
theorem wantPath_lt {F : List Feed} {P : List Pnt} {x : WantR} : ∀ f ∈ wantPath F P x, f < F.length := by
  unfold wantPath
  split
  · exact pathL_lt
  · intro f hf; simp at hf

theorem addPath_get {path : List Nat} (hd : path.Pairwise (fun a b => b < a)) (ph p : Int) (f : Nat) : ∀ L : List CapR, (addPath L path ph p)[f]? = if f ∈ path then L[f]?.map (fun c => addC c ph p) else L[f]? := by
  induction path with
  | nil => intro L; simp [addPath]
  | cons g l ih =>
    intro L
    rw [List.pairwise_cons] at hd
    have h := ih hd.2 (L.modify g (fun c => addC c ph p))
    have e : addPath L (g :: l) ph p = addPath (L.modify g (fun c => addC c ph p)) l ph p := rfl
    rw [e, h]
    by_cases hg : f = g
    · subst hg
      have hn : f ∉ l := fun hh => by have := hd.1 f hh; omega
      rw [if_neg hn, if_pos (by simp), List.getElem?_modify]
      simp
    · rw [List.getElem?_modify]
      have : ¬ g = f := fun e => hg e.symm
      by_cases hl : f ∈ l
      · rw [if_pos hl, if_pos (by simp [hl])]; simp [this]
      · rw [if_neg hl, if_neg (by simp [hl, hg])]; simp [this]

theorem addPath_step {F : List Feed} {L : List CapR} {f : Nat} {c : CapR} (h : L[f]? = some c) (ph p : Int) : L.modify f (fun c => addC c ph p) = L.set f (addC c ph p) := by
  apply List.ext_getElem?
  intro j
  rw [List.getElem?_modify, List.getElem?_set]
  have hl : f < L.length := (List.getElem?_eq_some_iff.1 h).1
  by_cases hj : f = j
  · subst hj
    have h2 := (List.getElem?_eq_some_iff.1 h).2
    simp [hl, h2]
  · simp [hj]

theorem loadL_get {F : List Feed} {P : List Pnt} {f : Nat} (hf : f < F.length) (l : List (WantR × Int)) : (loadL F P l)[f]? = some (capAt F P f l) := by
  unfold loadL capAt
  suffices h : ∀ (l : List (WantR × Int)) (L : List CapR) (c : CapR), L[f]? = some c → (l.foldl (loadW F P) L)[f]? = some (l.foldl (fun c x => plusC c (ctr F P f x)) c) by
    exact h l _ _ (by simp [hf])
  intro l
  induction l with
  | nil => intro L c h; exact h
  | cons x l ih =>
    intro L c h
    rw [List.foldl_cons, List.foldl_cons]
    refine ih _ _ ?_
    unfold loadW
    rw [addPath_get (wantPath_desc F P x.1), h]
    unfold ctr
    by_cases hm : f ∈ wantPath F P x.1
    · rw [if_pos hm, if_pos hm, ← addC_plus]; rfl
    · rw [if_neg hm, if_neg hm, plusC_comm, zero_plusC]

theorem capAt_from (F : List Feed) (P : List Pnt) (f : Nat) (l : List (WantR × Int)) : ∀ c : CapR, l.foldl (fun c x => plusC c (ctr F P f x)) c = plusC c (capAt F P f l) := by
  induction l with
  | nil => intro c; unfold capAt; rw [plusC_comm]; simp only [List.foldl_nil]; rw [zero_plusC]
  | cons x l ih =>
    intro c
    unfold capAt
    rw [List.foldl_cons, List.foldl_cons, ih, ih, zero_plusC, plusC_assoc]
theorem capAt_append (F : List Feed) (P : List Pnt) (f : Nat) (l m : List (WantR × Int)) : capAt F P f (l ++ m) = plusC (capAt F P f l) (capAt F P f m) := by
  show (l ++ m).foldl _ zeroC = _
  rw [List.foldl_append, capAt_from]; rfl
theorem capAt_cons (F : List Feed) (P : List Pnt) (f : Nat) (x : WantR × Int) (m : List (WantR × Int)) : capAt F P f (x :: m) = plusC (ctr F P f x) (capAt F P f m) := by
  show (x :: m).foldl _ zeroC = _
  rw [List.foldl_cons, capAt_from, zero_plusC]
theorem loadL_turn (F : List Feed) (P : List Pnt) (l m : List (WantR × Int)) : loadL F P (l ++ m) = loadL F P (m ++ l) := by
  apply List.ext_getElem?
  intro j
  by_cases hj : j < F.length
  · rw [loadL_get hj, loadL_get hj, capAt_append, capAt_append, plusC_comm]
  · rw [List.getElem?_eq_none (by rw [loadL_len]; omega), List.getElem?_eq_none (by rw [loadL_len]; omega)]

/-- a want and its power that are right -/
def maskB (a b : Int) : Bool := decide (bits .andNot .i64 a b = 0)
def wantB (P : List Pnt) (x : WantR × Int) : Bool := match P[x.1.point.toNat]? with
  | some p => decide (0 ≤ x.1.point) && (decide (1 ≤ x.1.phases) && (decide (x.1.phases ≤ 7) && (maskB x.1.phases p.phases && powB x.2)))
  | none => false
structure Right (P : List Pnt) (x : WantR × Int) : Prop where
  p0 : 0 ≤ x.1.point
  p1 : x.1.point.toNat < P.length
  h1 : 1 ≤ x.1.phases
  h7 : x.1.phases ≤ 7
  mask : maskB x.1.phases P[x.1.point.toNat].phases = true
  w0 : 0 ≤ x.2
  w1 : x.2 ≤ 1048576
theorem wantB_iff {P : List Pnt} {x : WantR × Int} : wantB P x = true ↔ Right P x := by
  unfold wantB
  by_cases h : x.1.point.toNat < P.length
  · rw [List.getElem?_eq_getElem h]
    simp only [powB, Bool.and_eq_true, decide_eq_true_eq]
    exact ⟨fun ⟨a, b, c, d, e, f⟩ => ⟨a, h, b, c, d, e, f⟩, fun ⟨a, _, b, c, d, e, f⟩ => ⟨a, b, c, d, e, f⟩⟩
  · rw [List.getElem?_eq_none (by omega)]
    exact ⟨fun h => by simp at h, fun h' => absurd h'.p1 h⟩

theorem bit_01 (x : Int) : 0 ≤ x % 2 ∧ x % 2 ≤ 1 := by omega
theorem addC_bd {ph p : Int} (h0 : 0 ≤ p) (h1 : p ≤ 1048576) : 0 ≤ (addC zeroC ph p).a ∧ (addC zeroC ph p).a ≤ 1048576 ∧ 0 ≤ (addC zeroC ph p).b ∧ (addC zeroC ph p).b ≤ 1048576 ∧ 0 ≤ (addC zeroC ph p).c ∧ (addC zeroC ph p).c ≤ 1048576 ∧ (addC zeroC ph p).t = (addC zeroC ph p).a + (addC zeroC ph p).b + (addC zeroC ph p).c := by
  have e : ∀ b : Int, b % 2 = 0 ∨ b % 2 = 1 := by omega
  simp only [addC, zeroC]
  rcases e ph with h | h <;> rcases e (ph / 2) with h' | h' <;> rcases e (ph / 4) with h'' | h'' <;> rw [h, h', h''] <;> omega

/-- the bounds on what n right wants load -/
structure CapOk (n : Int) (c : CapR) : Prop where
  a0 : 0 ≤ c.a
  a1 : c.a ≤ n
  b0 : 0 ≤ c.b
  b1 : c.b ≤ n
  c0 : 0 ≤ c.c
  c1 : c.c ≤ n
  t : c.t = c.a + c.b + c.c
theorem CapOk.zero : CapOk 0 zeroC := ⟨by decide, by decide, by decide, by decide, by decide, by decide, by decide⟩
theorem CapOk.mono {n m : Int} {c : CapR} (h : CapOk n c) (hm : n ≤ m) : CapOk m c := ⟨h.a0, Int.le_trans h.a1 hm, h.b0, Int.le_trans h.b1 hm, h.c0, Int.le_trans h.c1 hm, h.t⟩
theorem CapOk.plus {n m : Int} {c d : CapR} (h : CapOk n c) (h' : CapOk m d) : CapOk (n + m) (plusC c d) := by
  obtain ⟨a, b, c1, d1, e, f, g⟩ := h
  obtain ⟨a', b', c1', d1', e', f', g'⟩ := h'
  constructor <;> simp only [plusC] <;> omega
theorem CapOk.ctr {F : List Feed} {P : List Pnt} {f : Nat} {x : WantR × Int} (h0 : 0 ≤ x.2) (h1 : x.2 ≤ 1048576) : CapOk 1048576 (ctr F P f x) := by
  unfold Go.Proofs.YtkjggfhbnhpdnaaDoor.ctr
  split
  · obtain ⟨a, b, c, d, e, g, t⟩ := addC_bd (ph := x.1.phases) h0 h1
    exact ⟨a, b, c, d, e, g, t⟩
  · exact CapOk.zero.mono (by decide)
theorem capAt_ok {F : List Feed} {P : List Pnt} {f : Nat} {l : List (WantR × Int)} (h : ∀ x ∈ l, 0 ≤ x.2 ∧ x.2 ≤ 1048576) : CapOk (l.length * 1048576) (capAt F P f l) := by
  induction l with
  | nil => exact CapOk.zero
  | cons x l ih =>
    rw [capAt_cons]
    have hx := h x (by simp)
    refine ((CapOk.ctr (F := F) (P := P) (f := f) hx.1 hx.2).plus (ih (fun y hy => h y (by simp [hy])))).mono ?_
    rw [List.length_cons]
    omega

/-- the error of a load -/
def loadE (S : SiteR) (W : List WantR) (pw : List Int) : Int :=
  if siteE S ≠ 0 then siteE S else if W.length ≠ pw.length then 1 else if (W.zip pw).all (wantB S.P) = true then 0 else 1
theorem loadE_site {S : SiteR} {W : List WantR} {pw : List Int} (h : siteE S ≠ 0) : loadE S W pw = siteE S := by unfold loadE; rw [if_pos h]
theorem loadE_len {S : SiteR} {W : List WantR} {pw : List Int} (h : siteE S = 0) (hl : W.length ≠ pw.length) : loadE S W pw = 1 := by unfold loadE; rw [if_neg (by simp [h]), if_pos hl]
theorem loadE_bad {S : SiteR} {W : List WantR} {pw : List Int} (h : siteE S = 0) (hl : W.length = pw.length) (hb : (W.zip pw).all (wantB S.P) = false) : loadE S W pw = 1 := by unfold loadE; rw [if_neg (by simp [h]), if_neg (by simp [hl]), hb]; rfl
theorem loadE_ok {S : SiteR} {W : List WantR} {pw : List Int} (h : siteE S = 0) (hl : W.length = pw.length) (hb : (W.zip pw).all (wantB S.P) = true) : loadE S W pw = 0 := by unfold loadE; rw [if_neg (by simp [h]), if_neg (by simp [hl]), hb]; rfl
theorem loadE_zero {S : SiteR} {W : List WantR} {pw : List Int} (h : loadE S W pw = 0) : siteE S = 0 ∧ W.length = pw.length ∧ (W.zip pw).all (wantB S.P) = true := by
  unfold loadE at h
  split at h
  · rename_i h1; exact absurd h h1
  · rename_i h1
    split at h
    · simp at h
    · rename_i h2
      split at h
      · rename_i h3; exact ⟨by simpa using h1, by simpa using h2, h3⟩
      · simp at h
/-- the loads that a call hands back -/
def loadsOf (S : SiteR) (W : List WantR) (pw : List Int) : List CapR := if loadE S W pw = 0 then loadL S.F S.P (W.zip pw) else []
theorem loadsOf_ok {S : SiteR} {W : List WantR} {pw : List Int} (h : loadE S W pw = 0) : loadsOf S W pw = loadL S.F S.P (W.zip pw) := by unfold loadsOf; rw [if_pos h]
theorem loadsOf_no {S : SiteR} {W : List WantR} {pw : List Int} (h : loadE S W pw ≠ 0) : loadsOf S W pw = [] := by unfold loadsOf; rw [if_neg h]

/-- what Fits reports -/
def highB (P : List Pnt) (x : WantR × Int) : Bool := match P[x.1.point.toNat]? with
  | some p => decide (x.1.top < x.2) || decide (p.rated < x.2)
  | none => false
def fitsB (S : SiteR) (C : List CapR) (W : List WantR) (pw : List Int) : Bool :=
  decide (loadE S W pw = 0) && (decide (C.length = S.F.length) && (decide ((overL C (loadsOf S W pw)).length = 0) && !(W.zip pw).any (highB S.P)))

end Go.Proofs.YtkjggfhbnhpdnaaDoor
