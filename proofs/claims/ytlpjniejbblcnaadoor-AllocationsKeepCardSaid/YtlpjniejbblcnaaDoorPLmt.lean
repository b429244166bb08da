/-
  Plain functions of limits: grid events, caps; when a cap changes next. No program is named here.
-/
import Derived.Test.YtlpjniejbblcnaaDoorPConM
namespace Go.Proofs.YtlpjniejbblcnaaDoor
set_option linter.unusedVariables false

structure CurR where
  nm : ByteArray
  ver : Int
  fd : Int
  fr : Int
  «to» : Int
  tot : Int
  off : Bool
def uOn (f t : Int) (c : CurR) : Bool := c.fd == f && (!c.off && (decide (c.fr ≤ t) && decide (t < c.to)))
def uStep (f t n : Int) (c : CurR) : Int := if uOn f t c = true then min n c.tot else n
/-- the limit of a feeder by grid events -/
def uAt (l : List CurR) (f t : Int) : Int := l.foldl (uStep f t) noL
theorem uStep_le (f t n : Int) (c : CurR) : uStep f t n c ≤ n := by unfold uStep; split <;> omega
theorem uFold_le (f t : Int) : ∀ (l : List CurR) (n : Int), l.foldl (uStep f t) n ≤ n
  | [], n => Int.le_refl _
  | c :: l, n => Int.le_trans (uFold_le f t l _) (uStep_le f t n c)
theorem uAt_le (l : List CurR) (f t : Int) : uAt l f t ≤ 1073741824 := uFold_le f t l noL
theorem uFold_none {f t : Int} : ∀ {l : List CurR}, (∀ c ∈ l, c.fd ≠ f) → ∀ n, l.foldl (uStep f t) n = n
  | [], _, n => rfl
  | c :: l, h, n => by
    rw [List.foldl_cons, show uStep f t n c = n from if_neg (fun e => h c (by simp) (by unfold uOn at e; simp at e; exact e.1))]
    exact uFold_none (fun d hd => h d (by simp [hd])) n
theorem uAt_none {l : List CurR} {f t : Int} (h : ∀ c ∈ l, c.fd ≠ f) : uAt l f t = noL := uFold_none h noL
/-- a limit by grid events differs from what it was a minute before -/
def difU (l : List CurR) (t : Int) : Bool := l.any (fun c => uAt l c.fd t != uAt l c.fd (t - 1))
theorem difU_false {l : List CurR} {t : Int} : difU l t = false ↔ ∀ f, uAt l f t = uAt l f (t - 1) := by
  unfold difU
  constructor
  · intro h f
    by_cases hf : ∃ c ∈ l, c.fd = f
    · obtain ⟨c, hc, rfl⟩ := hf
      have := List.any_eq_false.1 h c hc
      simpa using this
    · have hn : ∀ c ∈ l, c.fd ≠ f := fun c hc e => hf ⟨c, hc, e⟩
      rw [uAt_none hn, uAt_none hn]
  · intro h
    refine List.any_eq_false.2 fun c hc => ?_
    simp [h c.fd]
theorem difU_const {l : List CurR} {t u : Int} (h : Quiet (difU l) t u) (hu : u ≤ 268435456) (f : Int) : ∀ v, t ≤ v → v ≤ u → uAt l f v = uAt l f t := by
  intro v h1 h2
  obtain ⟨n, rfl⟩ : ∃ n : Nat, v = t + n := ⟨(v - t).toNat, by omega⟩
  clear h1
  induction n with
  | zero => simp
  | succ n ih =>
    rw [difU_false.1 (h (t + ((n + 1 : Nat) : Int)) (by omega) h2 (by omega)) f, show t + ((n + 1 : Nat) : Int) - 1 = t + n by omega]
    exact ih (by omega)

theorem uFold_congr {f t u : Int} : ∀ {l : List CurR}, (∀ c ∈ l, uOn f t c = uOn f u c) → ∀ n, l.foldl (uStep f t) n = l.foldl (uStep f u) n
  | [], _, n => rfl
  | c :: l, h, n => by
    rw [List.foldl_cons, List.foldl_cons, show uStep f t n c = uStep f u n c by unfold uStep; rw [h c (by simp)]]
    exact uFold_congr (fun d hd => h d (by simp [hd])) _
theorem uAt_congr {l : List CurR} {f t u : Int} (h : ∀ c ∈ l, uOn f t c = uOn f u c) : uAt l f t = uAt l f u := uFold_congr h noL
/-- a limit changes only where a grid event begins or ends -/
theorem difU_at {l : List CurR} {t : Int} (h : difU l t = true) : ∃ c ∈ l, c.off = false ∧ (c.fr = t ∨ c.to = t) ∧ uAt l c.fd t ≠ uAt l c.fd (t - 1) := by
  unfold difU at h
  rw [List.any_eq_true] at h
  obtain ⟨c0, hc0, hne⟩ := h
  have hne2 : uAt l c0.fd t ≠ uAt l c0.fd (t - 1) := by simpa using hne
  generalize c0.fd = f at *
  apply Classical.byContradiction
  intro hcon
  refine hne2 (uAt_congr fun c hc => ?_)
  rw [Bool.eq_iff_iff]
  unfold uOn
  simp only [Bool.and_eq_true, beq_iff_eq, Bool.not_eq_true', decide_eq_true_eq]
  constructor
  · rintro ⟨rfl, h2, h3, h4⟩
    refine ⟨rfl, h2, ?_, by omega⟩
    by_cases e : c.fr = t
    · exact absurd ⟨c, hc, h2, .inl e, hne2⟩ hcon
    · omega
  · rintro ⟨rfl, h2, h3, h4⟩
    refine ⟨rfl, h2, by omega, ?_⟩
    by_cases e : c.to = t
    · exact absurd ⟨c, hc, h2, .inr e, hne2⟩ hcon
    · omega
theorem difU_of {l : List CurR} {t : Int} {c : CurR} (hc : c ∈ l) (h : uAt l c.fd t ≠ uAt l c.fd (t - 1)) : difU l t = true := by
  unfold difU
  rw [List.any_eq_true]
  exact ⟨c, hc, by simpa using h⟩
/-- the times after t at which a grid event that is not cancelled begins or ends -/
def timesU (l : List CurR) (t : Int) : List Int := l.flatMap (fun c => (if c.off = false ∧ t < c.fr then [c.fr] else []) ++ (if c.off = false ∧ t < c.to then [c.to] else []))
theorem timesU_mem {l : List CurR} {t x : Int} : x ∈ timesU l t ↔ ∃ c ∈ l, c.off = false ∧ t < x ∧ (c.fr = x ∨ c.to = x) := by
  unfold timesU
  rw [List.mem_flatMap]
  constructor
  · rintro ⟨c, hc, h⟩
    rcases List.mem_append.1 h with h | h
    · split at h
      · rename_i hh; simp at h; exact ⟨c, hc, hh.1, by rw [h]; exact hh.2, .inl h.symm⟩
      · simp at h
    · split at h
      · rename_i hh; simp at h; exact ⟨c, hc, hh.1, by rw [h]; exact hh.2, .inr h.symm⟩
      · simp at h
  · rintro ⟨c, hc, h1, h2, h3⟩
    refine ⟨c, hc, List.mem_append.2 ?_⟩
    rcases h3 with e | e
    · left; rw [if_pos ⟨h1, by rw [e]; exact h2⟩]; simp [e]
    · right; rw [if_pos ⟨h1, by rw [e]; exact h2⟩]; simp [e]
theorem timesU_dif {l : List CurR} {t u : Int} (ht : t < u) (h : difU l u = true) : u ∈ timesU l t := by
  obtain ⟨c, hc, h1, h2, _⟩ := difU_at h
  exact timesU_mem.2 ⟨c, hc, h1, ht, h2⟩

/-- a limit is NoLimit, or the total of a contract that applies -/
theorem cFrom_on (z : ZoneR) (f t : Int) : ∀ (l : List ConR) (n : Int), cFrom z f t n l = n ∨ ∃ c ∈ l, cOn z f t c = true ∧ cFrom z f t n l = c.tot
  | [], n => .inl rfl
  | c :: l, n => by
    have e : cFrom z f t n (c :: l) = cFrom z f t (cStep z f t n c) l := rfl
    rw [e]
    rcases cFrom_on z f t l (cStep z f t n c) with h | ⟨d, hd, h1, h⟩
    · rw [h]
      unfold cStep
      split
      · rename_i hc
        by_cases g : n ≤ c.tot
        · left; omega
        · right; exact ⟨c, by simp, hc, by omega⟩
      · exact .inl rfl
    · exact .inr ⟨d, by simp [hd], h1, h⟩
theorem cAt_on (l : List ConR) (z : ZoneR) (f t : Int) : cAt l z f t = 1073741824 ∨ ∃ c ∈ l, cOn z f t c = true ∧ cAt l z f t = c.tot := cFrom_on z f t l noL

/-- the rules: the ratings of the feeders, summed; contracts; grid events -/
structure LimR where
  R : List Int
  C : List ConR
  U : List CurR
  z : ZoneR
/-- the total of a feeder without contracts -/
def totF (r : LimR) (f t : Int) : Int := min (r.R.getD f.toNat 0) (uAt r.U f t)
noncomputable def capF (r : LimR) (f t : Int) : Int := min (totF r f t) (cAt r.C r.z f t)
/-- a cap differs from what it was a minute before -/
noncomputable def difR (r : LimR) (t : Int) : Bool := (List.range r.R.length).any (fun i => capF r i t != capF r i (t - 1))
theorem difR_false {r : LimR} {t : Int} : difR r t = false ↔ ∀ i : Nat, i < r.R.length → capF r i t = capF r i (t - 1) := by
  unfold difR
  rw [List.any_eq_false]
  simp
/-- the contracts that allow less than ratings and grid events -/
def strictF (r : LimR) (t : Int) : List ConR := r.C.filter (fun c => decide (c.tot < totF r c.fd t))
theorem totF_le (r : LimR) (f t : Int) : totF r f t ≤ 1073741824 := by
  have := uAt_le r.U f t
  unfold totF
  omega
theorem min_strict (r : LimR) (f t v : Int) : min (totF r f t) (cAt (strictF r t) r.z f v) = min (totF r f t) (cAt r.C r.z f v) := by
  refine eq_of_lt fun m => ?_
  have hl := totF_le r f t
  have e : ∀ x y : Int, min x y < m ↔ x < m ∨ y < m := fun x y => by omega
  rw [e, e, cAt_lt, cAt_lt]
  constructor
  · rintro (h | h | ⟨c, hc, h1, h2⟩)
    · exact .inl h
    · exact .inr (.inl h)
    · exact .inr (.inr ⟨c, (List.mem_filter.1 hc).1, h1, h2⟩)
  · rintro (h | h | ⟨c, hc, h1, h2⟩)
    · exact .inl h
    · exact .inr (.inl h)
    · by_cases hs : c.tot < totF r f t
      · refine .inr (.inr ⟨c, List.mem_filter.2 ⟨hc, ?_⟩, h1, h2⟩)
        rw [(cOn_iff.1 h1).1]
        simpa using hs
      · exact .inl (by omega)
theorem strict_val (r : LimR) (f t v : Int) : cAt (strictF r t) r.z f v = 1073741824 ∨ cAt (strictF r t) r.z f v < totF r f t := by
  rcases cAt_on (strictF r t) r.z f v with h | ⟨c, hc, h1, h⟩
  · exact .inl h
  · have := (List.mem_filter.1 hc).2
    rw [(cOn_iff.1 h1).1] at this
    simp at this
    exact .inr (by omega)
/-- until the next grid event a cap is what the strict contracts leave -/
theorem cap_strict {r : LimR} {t e : Int} (hq : Quiet (difU r.U) t (e - 1)) (he : e ≤ 268435457) (f v : Int) (h1 : t ≤ v) (h2 : v < e) : capF r f v = min (totF r f t) (cAt (strictF r t) r.z f v) := by
  have hu := difU_const hq (by omega) f v h1 (by omega)
  have : totF r f v = totF r f t := by unfold totF; rw [hu]
  unfold capF
  rw [this, min_strict]
/-- until the next grid event a cap changes just if a limit of the strict contracts does -/
theorem dif_strict {r : LimR} {t e : Int} (hC : ∀ c ∈ r.C, 0 ≤ c.fd ∧ c.fd < r.R.length) (hq : Quiet (difU r.U) t (e - 1)) (he : e ≤ 268435457) {v : Int} (h1 : t < v) (h2 : v < e) : difR r v = difB (strictF r t) r.z v := by
  rw [Bool.eq_iff_iff, ← Bool.not_eq_false, ← Bool.not_eq_false (difB _ _ _)]
  refine not_congr ?_
  rw [difR_false, difB_false]
  constructor
  · intro h f
    by_cases hf : 0 ≤ f ∧ f < r.R.length
    · have := h f.toNat (by omega)
      rw [show ((f.toNat : Nat) : Int) = f by omega, cap_strict hq he f v (by omega) h2, cap_strict hq he f (v - 1) (by omega) (by omega)] at this
      have a := strict_val r f t v
      have b := strict_val r f t (v - 1)
      have c := totF_le r f t
      omega
    · have hn : ∀ c ∈ strictF r t, c.fd ≠ f := fun c hc e => hf (e ▸ hC c (List.mem_filter.1 hc).1)
      rw [cAt_none hn, cAt_none hn]
  · intro h i hi
    rw [cap_strict hq he i v (by omega) h2, cap_strict hq he i (v - 1) (by omega) (by omega), h]

/-- what Next of limits returns -/
noncomputable def limA (r : LimR) (t : Int) : Int := nextP (difR r) t
/-- a round of Next: the next change of a strict contract lies before the next grid event -/
theorem lim_found {r : LimR} {t e a : Int} (hC : ∀ c ∈ r.C, 0 ≤ c.fd ∧ c.fd < r.R.length) (hq : Quiet (difU r.U) t (e - 1)) (he : e ≤ 268435457) (ha : NextP (difB (strictF r t) r.z) t a) (h0 : 0 ≤ a) (ht : 0 ≤ t) (h1 : a < e) : NextP (difR r) t a := by
  rcases ha with ⟨a1, a2, a3, a4⟩ | ⟨a1, _⟩
  · refine .inl ⟨a1, a2, by rw [dif_strict hC hq he a1 h1]; exact a3, fun u b c => ?_⟩
    rw [dif_strict hC hq he b (by omega)]; exact a4 u b c
  · omega
/-- .. or does not: nothing changes ahead of the event -/
theorem lim_quiet {r : LimR} {t e a : Int} (hC : ∀ c ∈ r.C, 0 ≤ c.fd ∧ c.fd < r.R.length) (hq : Quiet (difU r.U) t (e - 1)) (he : e ≤ 268435457) (ha : NextP (difB (strictF r t) r.z) t a) (ht : 0 ≤ t) (h1 : a = -1 ∨ e ≤ a) : Quiet (difR r) t (e - 1) := by
  intro v b c d
  rw [dif_strict hC hq he b (by omega)]
  rcases ha with ⟨a1, a2, a3, a4⟩ | ⟨a1, a4⟩
  · exact a4 v b (by omega)
  · exact a4 v b d

end Go.Proofs.YtlpjniejbblcnaaDoor
