/-
  Plain functions of contracts: the limit of a feeder at a time. No program is named here.
  Plain functions of contracts: the candidates of a change; edges. No program is named here.
  Plain functions: a value that changes with time, as a list of steps. No program is named here.
  Plain functions of contracts: the limits of all feeders, as a function of the feeder; the error of a contract. No program is named here.
  Contracts as rows of cells; a contract of a list, read. No program is named here.
-/
import Derived.Test.YtlpjniejbblcnaaDoorPWin2
import Derived.Test.YtlpjniejbblcnaaDoorM1
import Derived.Test.YtlpjniejbblcnaaDoorM4
namespace Go.Proofs.YtlpjniejbblcnaaDoor
set_option linter.unusedVariables false

structure ConR where
  nm : ByteArray
  fd : Int
  w : WinR
  tot : Int
def noL : Int := 1073741824
noncomputable def cOn (z : ZoneR) (f t : Int) (c : ConR) : Bool := c.fd == f && holdsB c.w z t
noncomputable def cStep (z : ZoneR) (f t : Int) (n : Int) (c : ConR) : Int := if cOn z f t c = true then min n c.tot else n
noncomputable def cFrom (z : ZoneR) (f t : Int) (n : Int) (l : List ConR) : Int := l.foldl (cStep z f t) n
/-- the limit of a feeder at a time -/
noncomputable def cAt (l : List ConR) (z : ZoneR) (f t : Int) : Int := cFrom z f t noL l
theorem cOn_iff {z : ZoneR} {f t : Int} {c : ConR} : cOn z f t c = true ↔ c.fd = f ∧ holdsB c.w z t = true := by unfold cOn; simp
theorem cStep_le (z : ZoneR) (f t n : Int) (c : ConR) : cStep z f t n c ≤ n := by unfold cStep; split <;> omega
theorem cFrom_le (z : ZoneR) (f t : Int) (l : List ConR) : ∀ n, cFrom z f t n l ≤ n := by
  induction l with
  | nil => intro n; exact Int.le_refl _
  | cons c l ih => intro n; exact Int.le_trans (ih _) (cStep_le z f t n c)
theorem cAt_le (l : List ConR) (z : ZoneR) (f t : Int) : cAt l z f t ≤ 1073741824 := cFrom_le z f t l noL
theorem cAt_nil (z : ZoneR) (f t : Int) : cAt [] z f t = noL := rfl
theorem cAt_snoc (l : List ConR) (c : ConR) (z : ZoneR) (f t : Int) : cAt (l ++ [c]) z f t = cStep z f t (cAt l z f t) c := by
  unfold cAt cFrom; rw [List.foldl_append]; rfl
theorem cAt_take {l : List ConR} {k : Nat} (h : k < l.length) (z : ZoneR) (f t : Int) : cAt (l.take (k + 1)) z f t = cStep z f t (cAt (l.take k) z f t) l[k] := by
  rw [List.take_succ_eq_append_getElem h, cAt_snoc]
/-- the limit is the least of what applies -/
theorem cFrom_lt (z : ZoneR) (f t : Int) (l : List ConR) : ∀ n m, cFrom z f t n l < m ↔ n < m ∨ ∃ c ∈ l, cOn z f t c = true ∧ c.tot < m := by
  induction l with
  | nil => intro n m; simp [cFrom]
  | cons c l ih =>
    intro n m
    have := ih (cStep z f t n c) m
    unfold cFrom at this ⊢
    rw [List.foldl_cons, this]
    unfold cStep
    constructor
    · rintro (h | ⟨d, hd, h⟩)
      · split at h
        · rename_i hc
          by_cases h2 : n < m
          · exact .inl h2
          · exact .inr ⟨c, by simp, hc, by omega⟩
        · exact .inl h
      · exact .inr ⟨d, by simp [hd], h⟩
    · rintro (h | ⟨d, hd, h1, h2⟩)
      · left; split <;> omega
      · rcases List.mem_cons.1 hd with rfl | hd
        · left; rw [if_pos h1]; omega
        · exact .inr ⟨d, hd, h1, h2⟩
theorem cAt_lt {l : List ConR} {z : ZoneR} {f t m : Int} : cAt l z f t < m ↔ 1073741824 < m ∨ ∃ c ∈ l, cOn z f t c = true ∧ c.tot < m := cFrom_lt z f t l noL m
theorem eq_of_lt {a b : Int} (h : ∀ m, a < m ↔ b < m) : a = b := by
  have h1 := (h (a + 1)).1 (by omega)
  have h2 := (h (b + 1)).2 (by omega)
  omega
/-- two lists of which the same applies -/
theorem cAt_same {l k : List ConR} {z : ZoneR} {f t u : Int} (h : ∀ m : Int, (∃ c ∈ l, cOn z f t c = true ∧ c.tot < m) ↔ ∃ c ∈ k, cOn z f u c = true ∧ c.tot < m) : cAt l z f t = cAt k z f u :=
  eq_of_lt fun m => by rw [cAt_lt, cAt_lt, h m]
theorem cAt_congr {l : List ConR} {z : ZoneR} {t u : Int} (h : ∀ c ∈ l, holdsB c.w z t = holdsB c.w z u) (f : Int) : cAt l z f t = cAt l z f u :=
  cAt_same fun m => by
    constructor
    · rintro ⟨c, hc, h1, h2⟩
      exact ⟨c, hc, by rw [cOn_iff] at h1 ⊢; rw [← h c hc]; exact h1, h2⟩
    · rintro ⟨c, hc, h1, h2⟩
      exact ⟨c, hc, by rw [cOn_iff] at h1 ⊢; rw [h c hc]; exact h1, h2⟩
theorem cAt_none {l : List ConR} {z : ZoneR} {f t : Int} (h : ∀ c ∈ l, c.fd ≠ f) : cAt l z f t = noL := by
  rw [← cAt_nil z f t]
  refine cAt_same fun m => ⟨?_, fun ⟨c, hc, _⟩ => by simp at hc⟩
  rintro ⟨c, hc, h1, _⟩
  exact absurd (cOn_iff.1 h1).1 (h c hc)

/-- a limit differs from what it was a minute before -/
noncomputable def difB (l : List ConR) (z : ZoneR) (t : Int) : Bool := l.any (fun c => cAt l z c.fd t != cAt l z c.fd (t - 1))
theorem difB_false {l : List ConR} {z : ZoneR} {t : Int} : difB l z t = false ↔ ∀ f, cAt l z f t = cAt l z f (t - 1) := by
  unfold difB
  constructor
  · intro h f
    by_cases hf : ∃ c ∈ l, c.fd = f
    · obtain ⟨c, hc, rfl⟩ := hf
      have := List.any_eq_false.1 h c hc
      simpa using this
    · have hn : ∀ c ∈ l, c.fd ≠ f := fun c hc e => hf ⟨c, hc, e⟩
      rw [cAt_none hn, cAt_none hn]
  · intro h
    refine List.any_eq_false.2 fun c hc => ?_
    simp [h c.fd]
theorem difB_true {l : List ConR} {z : ZoneR} {t : Int} : difB l z t = true ↔ ∃ c ∈ l, cAt l z c.fd t ≠ cAt l z c.fd (t - 1) := by
  unfold difB
  rw [List.any_eq_true]
  simp
theorem dif_holds {l : List ConR} {z : ZoneR} {t : Int} (h : ∀ c ∈ l, holdsB c.w z t = holdsB c.w z (t - 1)) : difB l z t = false := difB_false.2 (cAt_congr h)

/-- r is the least time after t at which D; -1: there is none -/
def NextP (D : Int → Bool) (t r : Int) : Prop :=
  (t < r ∧ r ≤ 268435456 ∧ D r = true ∧ ∀ u, t < u → u < r → D u = false) ∨ (r = -1 ∧ ∀ u, t < u → u ≤ 268435456 → D u = false)
theorem NextP.unique {D : Int → Bool} {t r s : Int} (h : NextP D t r) (g : NextP D t s) : r = s := by
  rcases h with ⟨a, b, c, d⟩ | ⟨rfl, d⟩ <;> rcases g with ⟨a', b', c', d'⟩ | ⟨rfl, d'⟩
  · rcases Int.lt_trichotomy r s with e | e | e
    · rw [d' r a e] at c; cases c
    · exact e
    · rw [d s a' e] at c'; cases c'
  · rw [d' r a b] at c; cases c
  · rw [d s a' b'] at c'; cases c'
  · rfl
open Classical in
noncomputable def nextP (D : Int → Bool) (t : Int) : Int := if h : ∃ r, NextP D t r then h.choose else 0
theorem nextP_of {D : Int → Bool} {t r : Int} (h : NextP D t r) : nextP D t = r := by
  have g : ∃ r, NextP D t r := ⟨r, h⟩
  unfold nextP
  rw [dif_pos g]
  exact g.choose_spec.unique h
theorem nextP_exists (D : Int → Bool) (t : Int) : ∃ r, NextP D t r := by
  rcases least_or (fun k => D (t + 1 + k) = true) (268435456 - t).toNat with ⟨k, h1, h2, h3⟩ | h
  · refine ⟨t + 1 + k, .inl ⟨by omega, by omega, h2, fun u a b => ?_⟩⟩
    have := h3 (u - t - 1).toNat (by omega)
    rw [show t + 1 + ((u - t - 1).toNat : Int) = u by omega] at this
    simpa using this
  · refine ⟨-1, .inr ⟨rfl, fun u a b => ?_⟩⟩
    have := h (u - t - 1).toNat (by omega)
    rw [show t + 1 + ((u - t - 1).toNat : Int) = u by omega] at this
    simpa using this
theorem nextP_spec (D : Int → Bool) (t : Int) : NextP D t (nextP D t) := by
  obtain ⟨r, h⟩ := nextP_exists D t
  rw [nextP_of h]; exact h
theorem nextP_rng (D : Int → Bool) (t : Int) : nextP D t = -1 ∨ (t < nextP D t ∧ nextP D t ≤ 268435456) := by
  rcases nextP_spec D t with ⟨a, b, _⟩ | ⟨a, _⟩
  · exact .inr ⟨a, b⟩
  · exact .inl a
/-- nothing happens up to a time -/
def Quiet (D : Int → Bool) (t u : Int) : Prop := ∀ v, t < v → v ≤ u → v ≤ 268435456 → D v = false
theorem Quiet.refl (D : Int → Bool) (t : Int) : Quiet D t t := fun v a b _ => by omega
theorem Quiet.trans {D : Int → Bool} {t u v : Int} (h : Quiet D t u) (g : Quiet D u v) : Quiet D t v := fun x a b c => by
  by_cases e : x ≤ u
  · exact h x a e c
  · exact g x (by omega) b c
theorem Quiet.mono {D : Int → Bool} {t u v : Int} (h : Quiet D t u) (g : v ≤ u) : Quiet D t v := fun x a b c => h x a (by omega) c
theorem Quiet.found {D : Int → Bool} {t r : Int} (h : Quiet D t (r - 1)) (h1 : t < r) (h2 : r ≤ 268435456) (h3 : D r = true) : NextP D t r := .inl ⟨h1, h2, h3, fun u a b => h u a (by omega) (by omega)⟩
theorem Quiet.none {D : Int → Bool} {t u : Int} (h : Quiet D t u) (h1 : 268435456 ≤ u) : NextP D t (-1) := .inr ⟨rfl, fun v a b => h v a (by omega) b⟩
theorem quiet_const {l : List ConR} {z : ZoneR} {t u : Int} (h : Quiet (difB l z) t u) (hu : u ≤ 268435456) (f : Int) : ∀ v, t ≤ v → v ≤ u → cAt l z f v = cAt l z f t := by
  intro v h1 h2
  obtain ⟨n, rfl⟩ : ∃ n : Nat, v = t + n := ⟨(v - t).toNat, by omega⟩
  clear h1
  induction n with
  | zero => simp
  | succ n ih =>
    rw [difB_false.1 (h (t + ((n + 1 : Nat) : Int)) (by omega) h2 (by omega)) f, show t + ((n + 1 : Nat) : Int) - 1 = t + n by omega]
    exact ih (by omega)
theorem const_quiet {l : List ConR} {z : ZoneR} {t u : Int} (h : ∀ f v, t ≤ v → v ≤ u → cAt l z f v = cAt l z f t) : Quiet (difB l z) t u := fun v a b _ =>
  difB_false.2 fun f => by rw [h f v (by omega) b, h f (v - 1) (by omega) (by omega)]

/-- the minute of the local week -/
noncomputable def wkF (z : ZoneR) (t : Int) : Int := (t + offF z t) % 10080
def patW (W : WinR) (m : Int) : Bool := dayB W.dy W.st W.en (wdF (m / 1440)) (m % 1440)
theorem patB_wk (W : WinR) (z : ZoneR) (t : Int) : patB W z t = patW W (wkF z t) := by
  unfold patB patW wkF
  generalize t + offF z t = L
  have e1 : L % 10080 % 1440 = L % 1440 := by omega
  have e2 : wdF (L % 10080 / 1440) = wdF (L / 1440) := by unfold wdF; omega
  rw [e1, e2]
theorem week_all {z : ZoneR} {a : Int} (ho : ∀ u, a ≤ u → u < a + 10080 → offF z u = offF z a) (v : Int) : ∃ u, a ≤ u ∧ u < a + 10080 ∧ wkF z u = wkF z v := by
  have h := ho (a + (v + offF z v - offF z a - a) % 10080) (by omega) (by omega)
  refine ⟨a + (v + offF z v - offF z a - a) % 10080, by omega, by omega, ?_⟩
  unfold wkF
  rw [h]
  omega
theorem off_const {z : ZoneR} {a : Int} (n : Nat) (h0 : 0 ≤ a) (h : ∀ u, a < u → u < a + n → offF z u = offF z (u - 1)) : ∀ u, a ≤ u → u < a + n → offF z u = offF z a := by
  intro u h1 h2
  obtain ⟨k, rfl⟩ : ∃ k : Nat, u = a + k := ⟨(u - a).toNat, by omega⟩
  clear h1
  induction k with
  | zero => simp
  | succ k ih =>
    rw [h _ (by omega) h2, show a + ((k + 1 : Nat) : Int) - 1 = a + k by omega]
    exact ih (by omega)
/-- in two weeks each minute of the local week occurs -/
theorem weeks_all {z : ZoneR} {a : Int} (h0 : 0 ≤ a) (v : Int) : ∃ u, a ≤ u ∧ u < a + 20160 ∧ wkF z u = wkF z v := by
  by_cases h : ∃ u, a < u ∧ u < a + 10080 ∧ offF z u ≠ offF z (u - 1)
  · obtain ⟨u, h1, h2, h3⟩ := h
    obtain ⟨hs, hu⟩ := off_turn (by omega) h3
    have ho : ∀ u, a + 10080 ≤ u → u < a + 10080 + 10080 → offF z u = offF z (a + 10080) := off_const 10080 (by omega) (fun x h4 h5 => by
      apply Classical.byContradiction
      intro hne
      have := turns_far (by omega) (show u < x by omega) hu (off_turn (by omega) hne).2
      omega)
    obtain ⟨x, x1, x2, x3⟩ := week_all ho v
    exact ⟨x, by omega, by omega, x3⟩
  · have ho : ∀ u, a ≤ u → u < a + 10080 → offF z u = offF z a := off_const 10080 h0 (fun x h4 h5 => by
      apply Classical.byContradiction
      intro hne
      exact h ⟨x, h4, by omega, hne⟩)
    obtain ⟨x, x1, x2, x3⟩ := week_all ho v
    exact ⟨x, x1, by omega, x3⟩

/-- no valid window begins or ends for good within these times -/
def NoEdge (l : List ConR) (a e : Int) : Prop := ∀ c ∈ l, winB c.w = true → ¬ (a < c.w.fr ∧ c.w.fr < e) ∧ ¬ (a < c.w.to ∧ c.w.to < e)
theorem holds_wk {l : List ConR} {z : ZoneR} {a e : Int} (h0 : 0 ≤ a) (h : NoEdge l a e) {c : ConR} (hc : c ∈ l) {u v : Int} (hu : a ≤ u) (hu2 : u < e) (hu3 : u ≤ 268435456) (hv : a ≤ v) (hv2 : v < e) (hv3 : v ≤ 268435456) (hw : wkF z u = wkF z v) :
    holdsB c.w z u = holdsB c.w z v := by
  unfold holdsB
  rw [patB_wk, patB_wk, hw, timeB_iff.2 ⟨by omega, hu3⟩, timeB_iff.2 ⟨by omega, hv3⟩]
  cases hb : winB c.w with
  | false => rfl
  | true =>
    obtain ⟨h1, h2⟩ := h c hc hb
    have : inB c.w u = inB c.w v := by
      rw [Bool.eq_iff_iff, inB_iff, inB_iff]
      omega
    rw [this]
/-- two weeks without a change: no change up to the next edge -/
theorem con_calm {l : List ConR} {z : ZoneR} {a e : Int} (h0 : 0 ≤ a) (h : NoEdge l a e) (hq : Quiet (difB l z) a (a + 20159)) : Quiet (difB l z) a (e - 1) := by
  by_cases he : e ≤ a + 20160
  · exact hq.mono (by omega)
  by_cases hm : 268435456 ≤ a + 20159
  · exact fun v x y q => hq v x (by omega) q
  · have hc := fun f => quiet_const hq (by omega) f
    intro v x y q
    have key : ∀ f u, a ≤ u → u < e → u ≤ 268435456 → cAt l z f u = cAt l z f a := fun f u u1 u2 u3 => by
      obtain ⟨s, s1, s2, s3⟩ := weeks_all (z := z) h0 u
      rw [← hc f s s1 (by omega)]
      exact cAt_congr (fun c hcm => holds_wk h0 h hcm u1 u2 u3 s1 (by omega) (by omega) s3.symm) f
    exact difB_false.2 fun f => by rw [key f v (by omega) (by omega) q, key f (v - 1) (by omega) (by omega) (by omega)]

end Go.Proofs.YtlpjniejbblcnaaDoor

namespace Go.Proofs.YtlpjniejbblcnaaDoor
set_option linter.unusedVariables false

/-- the next change of a window, or -1 -/
noncomputable def nxA (z : ZoneR) (t : Int) (c : ConR) : Int := if (winB c.w && zoneB z && timeB t) = true then nextF (holdsB c.w z) t else -1
theorem holdsB_nil {W : WinR} {z : ZoneR} (h : (winB W && zoneB z) = false) (t : Int) : holdsB W z t = false := by unfold holdsB; rw [h]; simp
theorem next_none_of {H : Int → Bool} {t : Int} (h : ∀ v, H v = false) : NextSpec H t (-1) := .inr ⟨rfl, fun u _ _ => by rw [h, h]⟩
theorem nxA_spec (z : ZoneR) (c : ConR) {t : Int} (h0 : 0 ≤ t) (h1 : t ≤ 268435456) : NextSpec (holdsB c.w z) t (nxA z t c) := by
  unfold nxA
  cases hb : (winB c.w && zoneB z) with
  | true => rw [timeB_iff.2 ⟨h0, h1⟩, if_pos (by decide)]; exact nextF_spec _ (by omega)
  | false => rw [if_neg (by simp)]; exact next_none_of (holdsB_nil hb)
theorem nxA_rng (z : ZoneR) (c : ConR) {t : Int} (h0 : 0 ≤ t) (h1 : t ≤ 268435456) : nxA z t c = -1 ∨ (t < nxA z t c ∧ nxA z t c ≤ 268435456) := by
  rcases nxA_spec z c h0 h1 with ⟨a, b, _⟩ | ⟨a, _⟩
  · exact .inr ⟨a, b⟩
  · exact .inl a
theorem nxA_late (z : ZoneR) (c : ConR) {t x : Int} (h0 : 0 ≤ t) (h1 : t ≤ x) (h2 : x ≤ 268435456) (h : nxA z t c = -1 ∨ x < nxA z t c) : nxA z x c = nxA z t c := by
  refine (nxA_spec z c (by omega) h2).unique ?_
  rcases nxA_spec z c h0 (by omega) with ⟨a, b, d, e⟩ | ⟨a, e⟩
  · exact .inl ⟨by omega, b, d, fun u x y => e u (by omega) y⟩
  · exact .inr ⟨a, fun u x y => e u (by omega) y⟩
/-- until the next changes nothing changes -/
theorem nx_quiet {l : List ConR} {z : ZoneR} {t x : Int} (h0 : 0 ≤ t) (h1 : t ≤ 268435456) (h : ∀ c ∈ l, nxA z t c = -1 ∨ x ≤ nxA z t c) : Quiet (difB l z) t (x - 1) := fun v a b q => by
  refine dif_holds fun c hc => ?_
  rcases nxA_spec z c h0 h1 with ⟨p1, p2, p3, p4⟩ | ⟨p1, p2⟩
  · rcases h c hc with g | g
    · omega
    · exact p4 v a (by omega)
  · exact p2 v a q

/-- .. or a time behind all times -/
noncomputable def aftF (z : ZoneR) (t : Int) (c : ConR) : Int := if 0 ≤ nxA z t c then nxA z t c else 268435457
theorem aftF_rng (z : ZoneR) (c : ConR) {t : Int} (h0 : 0 ≤ t) (h1 : t ≤ 268435456) : t < aftF z t c ∧ aftF z t c ≤ 268435457 := by
  have := nxA_rng z c h0 h1
  unfold aftF
  split <;> omega
theorem aftF_late (z : ZoneR) (c : ConR) {t x : Int} (h0 : 0 ≤ t) (h1 : t ≤ x) (h2 : x ≤ 268435456) (h : x < aftF z t c) : aftF z x c = aftF z t c := by
  have hr := nxA_rng z c h0 (by omega)
  have := nxA_late z c h0 h1 h2 (by unfold aftF at h; split at h <;> omega)
  unfold aftF
  rw [this]
/-- the next candidate up to a last time -/
noncomputable def atF (l : List ConR) (z : ZoneR) (t last : Int) : Int := (l.map (aftF z t)).foldl (fun n m => min n m) (last + 1)
theorem minL_le (l : List Int) : ∀ n, l.foldl (fun n m => min n m) n ≤ n ∧ ∀ m ∈ l, l.foldl (fun n m => min n m) n ≤ m := by
  induction l with
  | nil => intro n; simp
  | cons a l ih =>
    intro n
    rw [List.foldl_cons]
    have := ih (min n a)
    refine ⟨by omega, fun m hm => ?_⟩
    rcases List.mem_cons.1 hm with rfl | hm
    · omega
    · exact this.2 m hm
theorem minL_in (l : List Int) : ∀ n, l.foldl (fun n m => min n m) n = n ∨ l.foldl (fun n m => min n m) n ∈ l := by
  induction l with
  | nil => intro n; simp
  | cons a l ih =>
    intro n
    rw [List.foldl_cons]
    rcases ih (min n a) with h | h
    · rw [h]
      rcases Int.lt_or_le a n with e | e
      · right; rw [Int.min_eq_right (by omega)]; simp
      · left; omega
    · exact .inr (by simp [h])
theorem atF_gt {l : List ConR} {z : ZoneR} {t last : Int} (h0 : 0 ≤ t) (h1 : t ≤ 268435456) (h : t ≤ last) : t < atF l z t last := by
  unfold atF
  rcases minL_in (l.map (aftF z t)) (last + 1) with e | e
  · rw [e]; omega
  · obtain ⟨c, _, hc⟩ := List.mem_map.1 e
    rw [← hc]; exact (aftF_rng z c h0 h1).1
theorem atF_le (l : List ConR) (z : ZoneR) (t last : Int) : atF l z t last ≤ last + 1 := (minL_le _ _).1
theorem atF_c {l : List ConR} {z : ZoneR} {t last : Int} {c : ConR} (hc : c ∈ l) : atF l z t last ≤ aftF z t c := (minL_le _ _).2 _ (List.mem_map.2 ⟨c, hc, rfl⟩)
theorem atF_quiet {l : List ConR} {z : ZoneR} {t last : Int} (h0 : 0 ≤ t) (h1 : t ≤ 268435456) : Quiet (difB l z) t (atF l z t last - 1) :=
  nx_quiet h0 h1 fun c hc => by
    have := atF_c (z := z) (t := t) (last := last) hc
    have hr := nxA_rng z c h0 h1
    unfold aftF at this
    split at this <;> omega
/-- the candidates behind a step -/
theorem aft_step {l : List ConR} {z : ZoneR} {t last x : Int} (h0 : 0 ≤ t) (ht : t ≤ 268435456) (hx : x = atF l z t last) (hl : t ≤ last) (h1 : x ≤ 268435456) {c : ConR} (hc : c ∈ l) :
    (if aftF z t c = x then aftF z x c else aftF z t c) = aftF z x c := by
  have h2 := atF_gt (l := l) (z := z) (t := t) (last := last) h0 ht hl
  have h3 := atF_c (z := z) (t := t) (last := last) hc
  split
  · rfl
  · exact (aftF_late z c h0 (by omega) h1 (by omega)).symm
/-- what 'change' returns -/
def ChgIs (D : Int → Bool) (t last r : Int) : Prop := (t < r ∧ r ≤ last ∧ r ≤ 268435456 ∧ D r = true ∧ Quiet D t (r - 1)) ∨ (r = -1 ∧ Quiet D t last)

/-- the least edge after a time, or a time behind all times -/
noncomputable def edStep (t n : Int) (c : ConR) : Int :=
  if winB c.w = true then (if t < c.w.to then min (if t < c.w.fr then min n c.w.fr else n) c.w.to else if t < c.w.fr then min n c.w.fr else n) else n
noncomputable def edgeF (l : List ConR) (t : Int) : Int := l.foldl (edStep t) 268435457
theorem fold_take {α β : Type} (f : β → α → β) (b : β) {l : List α} {k : Nat} (h : k < l.length) : (l.take (k + 1)).foldl f b = f ((l.take k).foldl f b) l[k] := by
  rw [List.take_succ_eq_append_getElem h, List.foldl_append]; rfl
theorem fold_inv {α β : Type} {f : β → α → β} {P : List α → β → Prop} (hs : ∀ acc b x, P acc b → P (acc ++ [x]) (f b x)) : ∀ (l acc : List α) (b : β), P acc b → P (acc ++ l) (l.foldl f b)
  | [], acc, b, h => by simpa using h
  | x :: l, acc, b, h => by
    have := fold_inv hs l (acc ++ [x]) (f b x) (hs acc b x h)
    simpa using this
theorem edge_is (l : List ConR) {t : Int} (ht : t ≤ 268435456) : t < edgeF l t ∧ edgeF l t ≤ 268435457 ∧ NoEdge l t (edgeF l t) := by
  have := fold_inv (f := edStep t) (P := fun l n => t < n ∧ n ≤ 268435457 ∧ NoEdge l t n) (fun acc n c h => by
    obtain ⟨h1, h2, h3⟩ := h
    have hle : edStep t n c ≤ n := by unfold edStep; split <;> omega
    have hgt : t < edStep t n c := by unfold edStep; split <;> omega
    refine ⟨hgt, by omega, fun d hd hb => ?_⟩
    rcases List.mem_append.1 hd with e | e
    · have := h3 d e hb; omega
    · simp at e; subst e
      unfold edStep
      rw [if_pos hb]
      omega) l [] 268435457 ⟨by omega, by omega, fun c hc => by simp at hc⟩
  rw [List.nil_append] at this
  exact this

/-- the least edge after a time, or -1 -/
noncomputable def bd1 (t n m : Int) : Int := if t < m ∧ (n < 0 ∨ m < n) then m else n
noncomputable def bdStep (t n : Int) (c : ConR) : Int := if winB c.w = true then bd1 t (bd1 t n c.w.fr) c.w.to else n
noncomputable def bordF (l : List ConR) (t : Int) : Int := l.foldl (bdStep t) (-1)
def BordIs (t : Int) (l : List ConR) (n : Int) : Prop :=
  (n = -1 ∨ (t < n ∧ n ≤ 268435456 ∧ ∃ c ∈ l, winB c.w = true ∧ (c.w.fr = n ∨ c.w.to = n))) ∧ ∀ c ∈ l, winB c.w = true → (t < c.w.fr → 0 ≤ n ∧ n ≤ c.w.fr) ∧ (t < c.w.to → 0 ≤ n ∧ n ≤ c.w.to)
theorem bord_is (l : List ConR) {t : Int} (h0 : 0 ≤ t) : BordIs t l (bordF l t) := by
  have := fold_inv (f := bdStep t) (P := BordIs t) (fun acc n c h => by
    obtain ⟨h1, h2⟩ := h
    cases hb : winB c.w with
    | false =>
      unfold bdStep
      rw [hb, if_neg (by decide)]
      refine ⟨?_, fun d hd hw => ?_⟩
      · rcases h1 with e | ⟨e1, e2, d, hd, e3⟩
        · exact .inl e
        · exact .inr ⟨e1, e2, d, by simp [hd], e3⟩
      · rcases List.mem_append.1 hd with e | e
        · exact h2 d e hw
        · simp at e; subst e; rw [hb] at hw; cases hw
    | true =>
      have ok := winB_iff.1 hb
      have f1 := ok.f1
      have tt := ok.t
      have hx : bdStep t n c = n ∨ (bdStep t n c = c.w.fr ∧ t < c.w.fr) ∨ (bdStep t n c = c.w.to ∧ t < c.w.to) := by
        unfold bdStep bd1
        rw [if_pos hb]
        split <;> (split <;> omega)
      have hy : (0 ≤ n → 0 ≤ bdStep t n c ∧ bdStep t n c ≤ n) ∧ (t < c.w.fr → 0 ≤ bdStep t n c ∧ bdStep t n c ≤ c.w.fr) ∧ (t < c.w.to → 0 ≤ bdStep t n c ∧ bdStep t n c ≤ c.w.to) := by
        unfold bdStep bd1
        rw [if_pos hb]
        split <;> (split <;> omega)
      obtain ⟨y1, y2, y3⟩ := hy
      refine ⟨?_, fun d hd hw => ?_⟩
      · rcases hx with e | ⟨e, e'⟩ | ⟨e, e'⟩
        · rw [e]
          rcases h1 with e | ⟨e1, e2, d, hd, e3⟩
          · exact .inl e
          · exact .inr ⟨e1, e2, d, by simp [hd], e3⟩
        · rw [e]; exact .inr ⟨e', f1, c, by simp, hb, .inl rfl⟩
        · rw [e]; exact .inr ⟨e', by omega, c, by simp, hb, .inr rfl⟩
      · rcases List.mem_append.1 hd with e | e
        · obtain ⟨a, b⟩ := h2 d e hw
          exact ⟨fun g => by have := a g; have := y1 this.1; omega, fun g => by have := b g; have := y1 this.1; omega⟩
        · simp at e; subst e; exact ⟨y2, y3⟩) l [] (-1) ⟨.inl rfl, fun c hc => by simp at hc⟩
  rw [List.nil_append] at this
  exact this
def cn1 (t : Int) (c : ConR) : Nat := if winB c.w = true then (if t < c.w.fr then 1 else 0) + (if t < c.w.to then 1 else 0) else 0
def cntE (l : List ConR) (t : Int) : Nat := (l.map (cn1 t)).sum
theorem cn1_le (t : Int) (c : ConR) : cn1 t c ≤ 2 := by unfold cn1; split <;> (try split) <;> (try split) <;> omega
theorem cn1_mono {t u : Int} (h : t ≤ u) (c : ConR) : cn1 u c ≤ cn1 t c := by
  unfold cn1
  split
  · split <;> split <;> split <;> split <;> omega
  · omega
theorem cntE_le (t : Int) : ∀ l : List ConR, cntE l t ≤ 2 * l.length
  | [] => by simp [cntE]
  | c :: l => by
    have := cntE_le t l
    have := cn1_le t c
    unfold cntE at *
    simp only [List.map_cons, List.sum_cons, List.length_cons]
    omega
theorem cntE_mono {t u : Int} (h : t ≤ u) : ∀ l : List ConR, cntE l u ≤ cntE l t
  | [] => by simp [cntE]
  | c :: l => by
    have := cntE_mono h l
    have := cn1_mono h c
    unfold cntE at *
    simp only [List.map_cons, List.sum_cons]
    omega
theorem cntE_lt {t u : Int} (h : t < u) : ∀ (l : List ConR) (c : ConR), c ∈ l → winB c.w = true → (c.w.fr = u ∨ c.w.to = u) → cntE l u < cntE l t
  | [], c, hc, _, _ => by simp at hc
  | d :: l, c, hc, hb, he => by
    rcases List.mem_cons.1 hc with e | e
    · subst e
      have := cntE_mono (Int.le_of_lt h) l
      have h2 : cn1 u c < cn1 t c := by
        unfold cn1
        rw [if_pos hb, if_pos hb]
        split <;> split <;> split <;> split <;> omega
      unfold cntE at *
      simp only [List.map_cons, List.sum_cons]
      omega
    · have := cntE_lt h l c e hb he
      have := cn1_mono (Int.le_of_lt h) d
      unfold cntE at *
      simp only [List.map_cons, List.sum_cons]
      omega
theorem bord_cases (l : List ConR) {t : Int} (h0 : 0 ≤ t) : (bordF l t = -1 ∧ NoEdge l t 268435458) ∨ (t < bordF l t ∧ bordF l t ≤ 268435456 ∧ NoEdge l t (bordF l t) ∧ cntE l (bordF l t) < cntE l t) := by
  obtain ⟨h1, h2⟩ := bord_is l h0
  rcases h1 with e | ⟨e1, e2, c, hc, hb, e3⟩
  · refine .inl ⟨e, fun c hc hb => ?_⟩
    have := h2 c hc hb
    omega
  · refine .inr ⟨e1, e2, fun c hc hb => ?_, cntE_lt e1 l c hc hb e3⟩
    have := h2 c hc hb
    omega

/-- the least of some times that are not negative; -1: there is none -/
def fs1 (x n : Int) : Int := if 0 ≤ n ∧ (x < 0 ∨ n < x) then n else x
def firF (l : List Int) : Int := l.foldl fs1 (-1)
theorem firF_is (l : List Int) : (firF l = -1 ∧ ∀ n ∈ l, n < 0) ∨ (0 ≤ firF l ∧ firF l ∈ l ∧ ∀ n ∈ l, 0 ≤ n → firF l ≤ n) := by
  have := fold_inv (f := fs1) (P := fun l x => (x = -1 ∧ ∀ n ∈ l, n < 0) ∨ (0 ≤ x ∧ x ∈ l ∧ ∀ n ∈ l, 0 ≤ n → x ≤ n)) (fun acc x n h => by
    unfold fs1
    rcases h with ⟨h1, h2⟩ | ⟨h1, h2, h3⟩
    · by_cases hn : 0 ≤ n
      · rw [if_pos (by omega)]
        refine .inr ⟨hn, by simp, fun m hm h0 => ?_⟩
        rcases List.mem_append.1 hm with e | e
        · have := h2 m e; omega
        · simp at e; omega
      · rw [if_neg (by omega)]
        refine .inl ⟨h1, fun m hm => ?_⟩
        rcases List.mem_append.1 hm with e | e
        · exact h2 m e
        · simp at e; omega
    · right
      by_cases hn : 0 ≤ n ∧ n < x
      · rw [if_pos (by omega)]
        refine ⟨hn.1, by simp, fun m hm h0 => ?_⟩
        rcases List.mem_append.1 hm with e | e
        · have := h3 m e h0; omega
        · simp at e; omega
      · rw [if_neg (by omega)]
        refine ⟨h1, by simp [h2], fun m hm h0 => ?_⟩
        rcases List.mem_append.1 hm with e | e
        · exact h3 m e h0
        · simp at e; omega) l [] (-1) (.inl ⟨rfl, fun n hn => by simp at hn⟩)
  rw [List.nil_append] at this
  exact this
noncomputable def fstF (l : List ConR) (z : ZoneR) (t : Int) : Int := firF (l.map (nxA z t))
theorem fst_is (l : List ConR) (z : ZoneR) {t : Int} (h0 : 0 ≤ t) (h1 : t ≤ 268435456) :
    (fstF l z t = -1 ∧ ∀ c ∈ l, nxA z t c = -1) ∨ (t < fstF l z t ∧ fstF l z t ≤ 268435456 ∧ ∀ c ∈ l, nxA z t c = -1 ∨ fstF l z t ≤ nxA z t c) := by
  rcases firF_is (l.map (nxA z t)) with ⟨a, b⟩ | ⟨a, b, d⟩
  · refine .inl ⟨a, fun c hc => ?_⟩
    have := b _ (List.mem_map.2 ⟨c, hc, rfl⟩)
    have := nxA_rng z c h0 h1
    omega
  · refine .inr ?_
    obtain ⟨c, hc, e⟩ := List.mem_map.1 b
    have := nxA_rng z c h0 h1
    unfold fstF
    refine ⟨by omega, by omega, fun c hc => ?_⟩
    have := nxA_rng z c h0 h1
    have := d _ (List.mem_map.2 ⟨c, hc, rfl⟩)
    omega
theorem fst_quiet {l : List ConR} {z : ZoneR} {t : Int} (h0 : 0 ≤ t) (h1 : t ≤ 268435456) (h : 0 ≤ fstF l z t) : Quiet (difB l z) t (fstF l z t - 1) := by
  rcases fst_is l z h0 h1 with ⟨a, b⟩ | ⟨a, b, d⟩
  · omega
  · exact nx_quiet h0 h1 d
theorem fst_none {l : List ConR} {z : ZoneR} {t : Int} (h0 : 0 ≤ t) (h1 : t ≤ 268435456) (h : fstF l z t < 0) (x : Int) : Quiet (difB l z) t x := by
  rcases fst_is l z h0 h1 with ⟨a, b⟩ | ⟨a, b, d⟩
  · have := nx_quiet (x := x + 1) h0 h1 (fun c hc => .inl (b c hc))
    rw [show x + 1 - 1 = x by omega] at this
    exact this
  · omega
theorem fst_step {l : List ConR} {z : ZoneR} {t x : Int} (h0 : 0 ≤ t) (h1 : t ≤ 268435456) (hx : x = fstF l z t) (h : 0 ≤ x) {c : ConR} (hc : c ∈ l) : (if nxA z t c = x then nxA z x c else nxA z t c) = nxA z x c := by
  rcases fst_is l z h0 h1 with ⟨a, b⟩ | ⟨a, b, d⟩
  · omega
  · have := d c hc
    split
    · rfl
    · exact (nxA_late z c h0 (by omega) (by omega) (by omega)).symm

/-- the next change of a limit, or -1 -/
noncomputable def conA (l : List ConR) (z : ZoneR) (t : Int) : Int := if 0 ≤ t ∧ t ≤ 268435456 then nextP (difB l z) t else -1
theorem conA_of {l : List ConR} {z : ZoneR} {t r : Int} (h0 : 0 ≤ t) (h1 : t ≤ 268435456) (h : NextP (difB l z) t r) : conA l z t = r := by
  unfold conA; rw [if_pos ⟨h0, h1⟩, nextP_of h]
theorem conA_out {l : List ConR} {z : ZoneR} {t : Int} (h : ¬ (0 ≤ t ∧ t ≤ 268435456)) : conA l z t = -1 := if_neg h
theorem conA_spec (l : List ConR) (z : ZoneR) {t : Int} (h0 : 0 ≤ t) (h1 : t ≤ 268435456) : NextP (difB l z) t (conA l z t) := by
  unfold conA; rw [if_pos ⟨h0, h1⟩]; exact nextP_spec _ _
theorem conA_rng (l : List ConR) (z : ZoneR) (t : Int) : conA l z t = -1 ∨ (0 ≤ t ∧ t < conA l z t ∧ conA l z t ≤ 268435456) := by
  unfold conA
  split
  · have := nextP_rng (difB l z) t; omega
  · exact .inl rfl
/-- a round of Next -/
theorem round_quiet {l : List ConR} {z : ZoneR} {t e : Int} (h0 : 0 ≤ t) (hn : NoEdge l t e) (hq : Quiet (difB l z) t (min (e - 1) (t + 20160))) : Quiet (difB l z) t (e - 1) := by
  by_cases h : e - 1 ≤ t + 20160
  · rw [Int.min_eq_left h] at hq; exact hq
  · rw [Int.min_eq_right (by omega)] at hq
    exact con_calm h0 hn (hq.mono (by omega))
/-- a round of the reference's Next -/
theorem ref_quiet {l : List ConR} {z : ZoneR} {f b e : Int} (h0 : 0 ≤ f) (h1 : b - 1 ≤ f) (h2 : f ≤ b) (hn : NoEdge l b e) (hb : b < e) (hq : Quiet (difB l z) f (f + 21600)) : Quiet (difB l z) f (e - 1) := by
  have h3 : Quiet (difB l z) b (e - 1) := con_calm (by omega) hn (fun v x y q => hq v (by omega) (by omega) q)
  exact Quiet.trans (hq.mono (show b ≤ f + 21600 by omega)) h3

end Go.Proofs.YtlpjniejbblcnaaDoor

namespace Go.Proofs.YtlpjniejbblcnaaDoor
set_option linter.unusedVariables false

def turnB (V : Int → Int) (u : Int) : Bool := V u != V (u - 1)
theorem turnB_false {V : Int → Int} {u : Int} : turnB V u = false ↔ V u = V (u - 1) := by unfold turnB; simp
theorem turnB_true {V : Int → Int} {u : Int} : turnB V u = true ↔ V u ≠ V (u - 1) := by unfold turnB; simp
noncomputable def nxV (V : Int → Int) (t : Int) : Int := nextP (turnB V) t
theorem quietV {V : Int → Int} {t u : Int} (h : Quiet (turnB V) t u) (hu : u ≤ 268435456) : ∀ v, t ≤ v → v ≤ u → V v = V t := by
  intro v h1 h2
  obtain ⟨n, rfl⟩ : ∃ n : Nat, v = t + n := ⟨(v - t).toNat, by omega⟩
  clear h1
  induction n with
  | zero => simp
  | succ n ih =>
    rw [turnB_false.1 (h (t + ((n + 1 : Nat) : Int)) (by omega) h2 (by omega)), show t + ((n + 1 : Nat) : Int) - 1 = t + n by omega]
    exact ih (by omega)
/-- how far the value at t reaches -/
noncomputable def reachV (V : Int → Int) (t : Int) : Int := if nxV V t < 0 then 268435457 else nxV V t
theorem nxV_cases (V : Int → Int) (t : Int) : (nxV V t = -1 ∧ ∀ v, t ≤ v → v ≤ 268435456 → V v = V t) ∨
    (t < nxV V t ∧ nxV V t ≤ 268435456 ∧ V (nxV V t) ≠ V t ∧ V (nxV V t - 1) = V t ∧ ∀ v, t ≤ v → v < nxV V t → V v = V t) := by
  rcases nextP_spec (turnB V) t with ⟨a, b, c, d⟩ | ⟨a, d⟩
  · have hq := quietV (t := t) (u := nxV V t - 1) (V := V) (fun v x y z => d v x (by unfold nxV at y; omega)) (by unfold nxV; omega)
    refine .inr ⟨a, b, ?_, hq _ (by unfold nxV; omega) (by omega), fun v x y => hq v x (by omega)⟩
    have := turnB_true.1 c
    rw [hq (nextP (turnB V) t - 1) (by omega) (by unfold nxV; omega)] at this
    exact this
  · exact .inl ⟨a, quietV (fun v x y z => d v x z) (Int.le_refl _)⟩
noncomputable def goR (V : Int → Int) (b : Int) : Nat → Int → List (Int × Int) → Option (List (Int × Int))
  | 0, _, l => some l
  | n + 1, t, l => if 0 ≤ t ∧ t < b then (if l.length = 512 then none else goR V b n (nxV V t) (l ++ [(t, V t)])) else some l
theorem goR_more {V : Int → Int} {b : Int} : ∀ (n m : Nat) (t : Int) (l : List (Int × Int)), (t < 0 ∨ b - t ≤ n) → n ≤ m → goR V b m t l = goR V b n t l := by
  intro n
  induction n with
  | zero =>
    intro m t l h1 h2
    cases m with
    | zero => rfl
    | succ m => exact if_neg (by omega)
  | succ n ih =>
    intro m t l h1 h2
    obtain ⟨m, rfl⟩ : ∃ k, m = k + 1 := ⟨m - 1, by omega⟩
    rw [goR, goR]
    by_cases ht : 0 ≤ t ∧ t < b
    · rw [if_pos ht, if_pos ht]
      have := nextP_rng (turnB V) t
      rw [ih m _ _ (by unfold nxV; omega) (by omega)]
    · rw [if_neg ht, if_neg ht]
/-- what is still to come -/
noncomputable def restR (V : Int → Int) (b t : Int) (l : List (Int × Int)) : Option (List (Int × Int)) := goR V b (b - t).toNat t l
theorem restR_end {V : Int → Int} {b t : Int} {l : List (Int × Int)} (h : ¬ (0 ≤ t ∧ t < b)) : restR V b t l = some l := by
  unfold restR
  cases (b - t).toNat with
  | zero => rfl
  | succ n => exact if_neg h
theorem restR_step {V : Int → Int} {b t : Int} {l : List (Int × Int)} (h0 : 0 ≤ t) (h : t < b) :
    restR V b t l = if l.length = 512 then none else restR V b (nxV V t) (l ++ [(t, V t)]) := by
  unfold restR
  obtain ⟨n, hn⟩ : ∃ n, (b - t).toNat = n + 1 := ⟨(b - t).toNat - 1, by omega⟩
  rw [hn, goR, if_pos ⟨h0, h⟩]
  have hr := nextP_rng (turnB V) t
  rcases hr with e | e
  · rw [goR_more 0 n _ _ (.inl (by unfold nxV; omega)) (by omega), goR_more 0 (b - nxV V t).toNat _ _ (.inl (by unfold nxV; omega)) (by omega)]
  · have e2 : nxV V t = nextP (turnB V) t := rfl
    rw [goR_more (b - nxV V t).toNat n _ _ (.inr (by omega)) (by omega)]

/-- the value of a list of steps at a time -/
def valL (d : Int) (L : List (Int × Int)) (t : Int) : Int := L.foldl (fun n p => if p.1 ≤ t then p.2 else n) d
theorem valL_snoc (d : Int) (L : List (Int × Int)) (p : Int × Int) (t : Int) : valL d (L ++ [p]) t = if p.1 ≤ t then p.2 else valL d L t := by
  unfold valL; rw [List.foldl_append]; rfl
theorem valL_take {L : List (Int × Int)} {k : Nat} (h : k < L.length) (d t : Int) : valL d (L.take (k + 1)) t = if L[k].1 ≤ t then L[k].2 else valL d (L.take k) t := by
  rw [List.take_succ_eq_append_getElem h, valL_snoc]
structure StepOk (V : Int → Int) (p q : Int × Int) : Prop where
  lt : p.1 < q.1
  ne : q.2 ≠ p.2
  at' : V (q.1 - 1) = p.2
/-- steps that tell V from a on, up to e -/
structure SerTo (V : Int → Int) (a b e : Int) (L : List (Int × Int)) : Prop where
  val : ∀ p ∈ L, p.2 = V p.1
  rng : ∀ p ∈ L, a ≤ p.1 ∧ p.1 < b
  first : ∀ (h : 0 < L.length), L[0].1 = a
  step : ∀ i (h : i + 1 < L.length), StepOk V L[i] L[i + 1]
  tells : ∀ d t, a ≤ t → t < e → valL d L t = V t
theorem SerTo.start (V : Int → Int) (a b : Int) : SerTo V a b a [] := ⟨fun p h => by simp at h, fun p h => by simp at h, fun h => by simp at h, fun i h => by simp at h, fun d t h1 h2 => by omega⟩
/-- where the loop stands -/
def SerSt (V : Int → Int) (a b t : Int) (L : List (Int × Int)) : Prop :=
  (L = [] ∧ t = a) ∨ (∃ M p, L = M ++ [(p, V p)] ∧ a ≤ p ∧ p < b ∧ t = nxV V p ∧ SerTo V a b (reachV V p) L)
theorem SerSt.step {V : Int → Int} {a b t : Int} {L : List (Int × Int)} (hs : SerSt V a b t L) (ha : 0 ≤ a) (hb : b ≤ 268435456) (h0 : 0 ≤ t) (h1 : t < b) (hat : a ≤ t) : SerSt V a b (nxV V t) (L ++ [(t, V t)]) := by
  have hn := nxV_cases V t
  have hreach : ∀ v, t ≤ v → v < reachV V t → V v = V t := fun v x y => by
    unfold reachV at y
    rcases hn with ⟨e, f⟩ | ⟨e, _, _, _, f⟩
    · rw [e, if_pos (by omega)] at y; exact f v x (by omega)
    · rw [if_neg (by omega)] at y; exact f v x y
  refine .inr ⟨L, t, rfl, hat, h1, rfl, ?_⟩
  rcases hs with ⟨rfl, rfl⟩ | ⟨M, p, hL, p0, p1, ht, hS⟩
  · refine ⟨fun q hq => ?_, fun q hq => ?_, fun h => rfl, fun i h => by simp at h, fun d u h1 h2 => ?_⟩
    · simp at hq; rw [hq]
    · simp at hq; rw [hq]; exact ⟨hat, h1⟩
    · rw [valL_snoc, if_pos h1]; exact (hreach u h1 h2).symm
  · have hp := nxV_cases V p
    rw [← ht] at hp
    have hpt : p < t ∧ V t ≠ V p ∧ V (t - 1) = V p ∧ reachV V p = t := by
      rcases hp with ⟨e, _⟩ | ⟨e1, e2, e3, e4, _⟩
      · omega
      · exact ⟨e1, e3, e4, by unfold reachV; rw [← ht, if_neg (by omega)]⟩
    obtain ⟨q1, q2, q3, q4⟩ := hpt
    refine ⟨fun q hq => ?_, fun q hq => ?_, fun h => ?_, fun i h => ?_, fun d u h1 h2 => ?_⟩
    · rcases List.mem_append.1 hq with e | e
      · exact hS.val q e
      · simp at e; rw [e]
    · rcases List.mem_append.1 hq with e | e
      · exact hS.rng q e
      · simp at e; rw [e]; exact ⟨hat, h1⟩
    · have hl : 0 < L.length := by rw [hL]; simp
      rw [List.getElem_append_left hl]
      exact hS.first hl
    · by_cases hi : i + 1 < L.length
      · rw [List.getElem_append_left hi, List.getElem_append_left (by omega)]
        exact hS.step i hi
      · have hil : i + 1 = L.length := by simp at h; omega
        have e1 : (L ++ [(t, V t)])[i + 1] = (t, V t) := by
          rw [List.getElem_append_right (by omega)]; simp [hil]
        have e2 : (L ++ [(t, V t)])[i] = (p, V p) := by
          rw [List.getElem_append_left (by omega)]
          subst hL
          rw [List.getElem_append_right (by simp at hil; omega)]
          simp
        rw [e1, e2]
        exact ⟨q1, q2, q3⟩
    · rw [valL_snoc]
      split
      · rename_i hle; exact (hreach u hle h2).symm
      · exact hS.tells d u h1 (by rw [q4]; omega)
/-- a finished list -/
structure SerIs (V : Int → Int) (a b : Int) (L : List (Int × Int)) : Prop where
  pos : a < b → 0 < L.length
  «to» : SerTo V a b b L
theorem SerSt.done {V : Int → Int} {a b t : Int} {L : List (Int × Int)} (hs : SerSt V a b t L) (ha : 0 ≤ a) (hb : b ≤ 268435456) (hab : a ≤ b) (h : ¬ (0 ≤ t ∧ t < b)) : SerIs V a b L := by
  rcases hs with ⟨rfl, rfl⟩ | ⟨M, p, hL, p0, p1, ht, hS⟩
  · refine ⟨fun h => by omega, ?_⟩
    have := SerTo.start V t b
    exact ⟨this.val, this.rng, this.first, this.step, fun d u h1 h2 => by omega⟩
  · refine ⟨fun _ => by rw [hL]; simp, hS.val, hS.rng, hS.first, hS.step, fun d u h1 h2 => hS.tells d u h1 ?_⟩
    have hp := nxV_cases V p
    unfold reachV
    rw [← ht] at hp ⊢
    split <;> omega
theorem restR_is {V : Int → Int} {a b : Int} (ha : 0 ≤ a) (hb : b ≤ 268435456) (hab : a ≤ b) : ∀ (n : Nat) (t : Int) (acc L : List (Int × Int)), (b - t).toNat ≤ n → (0 ≤ t → a ≤ t) → SerSt V a b t acc → restR V b t acc = some L → SerIs V a b L := by
  intro n
  induction n with
  | zero =>
    intro t acc L hn hat hs hr
    rw [restR_end (by omega)] at hr
    injection hr with hr
    rw [← hr]; exact hs.done ha hb hab (by omega)
  | succ n ih =>
    intro t acc L hn hat hs hr
    by_cases h : 0 ≤ t ∧ t < b
    · rw [restR_step h.1 h.2] at hr
      split at hr
      · cases hr
      · have hx := hs.step ha hb h.1 h.2 (hat h.1)
        have hnx := nxV_cases V t
        by_cases hneg : nxV V t = -1
        · rw [hneg] at hr hx
          rw [restR_end (by omega)] at hr
          injection hr with hr
          rw [← hr]; exact hx.done ha hb hab (by omega)
        · exact ih _ _ L (by omega) (by omega) hx hr
    · rw [restR_end h] at hr
      injection hr with hr
      rw [← hr]; exact hs.done ha hb hab h

/-- the contracts of one feeder -/
def ownC (f : Int) (l : List ConR) : List ConR := l.filter (fun c => c.fd == f)
theorem own_at (l : List ConR) (z : ZoneR) (f t : Int) : cAt (ownC f l) z f t = cAt l z f t :=
  cAt_same fun m => by
    constructor
    · rintro ⟨c, hc, h1, h2⟩
      exact ⟨c, (List.mem_filter.1 hc).1, h1, h2⟩
    · rintro ⟨c, hc, h1, h2⟩
      exact ⟨c, List.mem_filter.2 ⟨hc, by simpa using (cOn_iff.1 h1).1⟩, h1, h2⟩
theorem own_dif (l : List ConR) (z : ZoneR) (f : Int) : difB (ownC f l) z = turnB (cAt l z f) := by
  funext u
  rw [Bool.eq_iff_iff, ← Bool.not_eq_false, ← Bool.not_eq_false (turnB _ _)]
  refine not_congr ?_
  rw [difB_false, turnB_false]
  constructor
  · intro h
    have := h f
    rw [own_at, own_at] at this; exact this
  · intro h g
    by_cases e : g = f
    · subst e; rw [own_at, own_at]; exact h
    · have hn : ∀ c ∈ ownC f l, c.fd ≠ g := fun c hc e2 => by
        have := (List.mem_filter.1 hc).2
        simp at this
        omega
      rw [cAt_none hn, cAt_none hn]
theorem own_next {l : List ConR} {z : ZoneR} {f t : Int} (h0 : 0 ≤ t) (h1 : t ≤ 268435456) : conA (ownC f l) z t = nxV (cAt l z f) t := by
  unfold conA nxV; rw [if_pos ⟨h0, h1⟩, own_dif]
theorem own_take {f : Int} {l : List ConR} {k : Nat} (h : k < l.length) : ownC f (l.take (k + 1)) = if l[k].fd = f then ownC f (l.take k) ++ [l[k]] else ownC f (l.take k) := by
  unfold ownC
  rw [List.take_succ_eq_append_getElem h, List.filter_append]
  by_cases e : l[k].fd = f
  · rw [if_pos e]; simp [e]
  · rw [if_neg e]; simp [e]

end Go.Proofs.YtlpjniejbblcnaaDoor

namespace Go.Proofs.YtlpjniejbblcnaaDoor
set_option linter.unusedVariables false

/-- the limit of a feeder that has one -/
noncomputable def limG (l : List ConR) (z : ZoneR) (t : Int) : Int → Option Int := fun f => if cAt l z f t < 1073741824 then some (cAt l z f t) else none
theorem limG_nil (z : ZoneR) (t : Int) : limG [] z t = fun _ => none := by
  funext f; unfold limG; rw [cAt_nil]; rfl
theorem limG_skip {l : List ConR} {c : ConR} {z : ZoneR} {t : Int} (h : 1073741824 ≤ c.tot ∨ holdsB c.w z t = false) : limG (l ++ [c]) z t = limG l z t := by
  funext f
  have e : cAt (l ++ [c]) z f t = cAt l z f t := by
    rw [cAt_snoc]
    unfold cStep
    split
    · rename_i hc
      have h1 := cAt_le l z f t
      rcases h with h | h
      · omega
      · rw [(cOn_iff.1 hc).2] at h; cases h
    · rfl
  unfold limG
  rw [e]
theorem limG_put {l : List ConR} {c : ConR} {z : ZoneR} {t : Int} (h1 : c.tot < 1073741824) (h2 : holdsB c.w z t = true) (n : Int) (hn : n = min (cAt l z c.fd t) c.tot) :
    limG (l ++ [c]) z t = fun f => if f = c.fd then some n else limG l z t f := by
  funext f
  unfold limG
  rw [cAt_snoc]
  unfold cStep
  by_cases e : f = c.fd
  · subst e
    rw [if_pos (cOn_iff.2 ⟨rfl, h2⟩), if_pos rfl, if_pos (by omega), hn]
  · rw [if_neg e, if_neg (fun h => e (cOn_iff.1 h).1.symm)]
theorem limG_some {l : List ConR} {z : ZoneR} {t f n : Int} (h : limG l z t f = some n) : n = cAt l z f t ∧ n ≤ 1073741824 := by
  unfold limG at h
  split at h
  · injection h with h; omega
  · cases h
theorem limG_none {l : List ConR} {z : ZoneR} {t f : Int} (h : limG l z t f = none) : cAt l z f t = 1073741824 := by
  unfold limG at h
  have := cAt_le l z f t
  split at h
  · cases h
  · omega
theorem limG_eq {l : List ConR} {z : ZoneR} {t u : Int} : limG l z t = limG l z u ↔ ∀ f, cAt l z f t = cAt l z f u := by
  constructor
  · intro h f
    have hf := congrFun h f
    cases ht : limG l z t f with
    | none =>
      rw [ht] at hf
      rw [limG_none ht, limG_none hf.symm]
    | some n =>
      rw [ht] at hf
      rw [← (limG_some ht).1, ← (limG_some hf.symm).1]
  · intro h
    funext f
    unfold limG
    rw [h f]
theorem limG_dif {l : List ConR} {z : ZoneR} {t : Int} : difB l z t = false ↔ limG l z t = limG l z (t - 1) := by rw [difB_false, limG_eq]
/-- a limit is NoLimit or the total of a contract -/
theorem cFrom_in (z : ZoneR) (f t : Int) : ∀ (l : List ConR) (n : Int), cFrom z f t n l = n ∨ ∃ c ∈ l, cFrom z f t n l = c.tot
  | [], n => .inl rfl
  | c :: l, n => by
    have e : cFrom z f t n (c :: l) = cFrom z f t (cStep z f t n c) l := rfl
    rw [e]
    rcases cFrom_in z f t l (cStep z f t n c) with h | ⟨d, hd, h⟩
    · rw [h]
      unfold cStep
      split
      · by_cases g : n ≤ c.tot
        · left; omega
        · right; exact ⟨c, by simp, by omega⟩
      · exact .inl rfl
    · exact .inr ⟨d, by simp [hd], h⟩
theorem cAt_in (l : List ConR) (z : ZoneR) (f t : Int) : cAt l z f t = 1073741824 ∨ ∃ c ∈ l, cAt l z f t = c.tot := cFrom_in z f t l noL

/-- the least of NoLimit and some limits -/
def leastF (l : List Int) : Int := l.foldl (fun n m => min n m) 1073741824
theorem leastF_take {l : List Int} {k : Nat} (h : k < l.length) : leastF (l.take (k + 1)) = min (leastF (l.take k)) l[k] := by
  unfold leastF
  rw [List.take_succ_eq_append_getElem h, List.foldl_append]; rfl

end Go.Proofs.YtlpjniejbblcnaaDoor

namespace Go.Proofs.YtlpjniejbblcnaaDoor
open Go.RowKit
set_option linter.unusedVariables false

def ConR.cells (c : ConR) : List Value := [.string c.nm, .int .i64 c.fd, .int .i64 c.w.dy, .int .i64 c.w.st, .int .i64 c.w.en, .int .i64 c.w.fr, .int .i64 c.w.to, .int .i64 c.tot]
theorem ConR.cells_len (c : ConR) : c.cells.length = 8 := rfl
theorem ConR.cells_one (c : ConR) : ∀ u ∈ c.cells, u.oneCell' = true := by intro u hu; simp [ConR.cells] at hu; rcases hu with rfl | rfl | rfl | rfl | rfl | rfl | rfl | rfl <;> rfl
def ConR.fits (c : ConR) : Prop := c.nm.size ≤ maxLen ∧ I64 c.fd ∧ I64 c.tot
theorem con_at {w : World} {A : Option Addr} {l : List ConR} (h : SlAt w 8 A (l.map ConR.cells)) {k : Nat} (hk : k < l.length) :
    ∃ b off, A = some ⟨b, off, none⟩ ∧ b < w.heap.size ∧ w.cell? ⟨b, off + k * 8, none⟩ = some (.string l[k].nm) ∧ w.cell? ⟨b, off + k * 8 + 1, none⟩ = some (.int .i64 l[k].fd) ∧
      w.cell? ⟨b, off + k * 8 + 2, none⟩ = some (.int .i64 l[k].w.dy) ∧ w.cell? ⟨b, off + k * 8 + 3, none⟩ = some (.int .i64 l[k].w.st) ∧ w.cell? ⟨b, off + k * 8 + 4, none⟩ = some (.int .i64 l[k].w.en) ∧
      w.cell? ⟨b, off + k * 8 + 5, none⟩ = some (.int .i64 l[k].w.fr) ∧ w.cell? ⟨b, off + k * 8 + 6, none⟩ = some (.int .i64 l[k].w.to) ∧ w.cell? ⟨b, off + k * 8 + 7, none⟩ = some (.int .i64 l[k].tot) := by
  obtain ⟨b, off, e, hb, hc⟩ := h k l[k].cells (by rw [List.getElem?_map, List.getElem?_eq_getElem hk]; rfl)
  exact ⟨b, off, e, hb, by simpa using hc 0 _ rfl, hc 1 _ rfl, hc 2 _ rfl, hc 3 _ rfl, hc 4 _ rfl, hc 5 _ rfl, hc 6 _ rfl, hc 7 _ rfl⟩
theorem cAt_wf {l : List ConR} (h : ∀ c ∈ l, c.fits) (z : ZoneR) (f t : Int) : I64 (cAt l z f t) := by
  rcases cAt_in l z f t with e | ⟨c, hc, e⟩
  · rw [e]; exact I64.mk (by omega) (by omega)
  · rw [e]; exact (h c hc).2.2
theorem fits_take {l : List ConR} (h : ∀ c ∈ l, c.fits) (k : Nat) : ∀ c ∈ l.take k, c.fits := fun c hc => h c (List.mem_of_mem_take hc)

end Go.Proofs.YtlpjniejbblcnaaDoor
