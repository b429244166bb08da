/-
  Plain functions of limits: the candidates of the reference; the rules of one feeder. No program is named here.
-/
import Derived.Test.YtlpjniejbblcnaaDoorPLmt
namespace Go.Proofs.YtlpjniejbblcnaaDoor
set_option linter.unusedVariables false

theorem difR_none {r : LimR} {v : Int} (h1 : ∀ c ∈ r.C, holdsB c.w r.z v = holdsB c.w r.z (v - 1)) (h2 : difU r.U v = false) : difR r v = false := by
  rw [difR_false]
  intro i _
  unfold capF totF
  rw [difU_false.1 h2, cAt_congr h1]
/-- the times after t at which something may change -/
noncomputable def candL (r : LimR) (t : Int) : List Int := r.C.map (nxA r.z t) ++ r.U.flatMap (fun c => (if t < c.fr then [c.fr] else []) ++ (if t < c.to then [c.to] else []))
theorem candL_edge {r : LimR} {t v : Int} (ht : t < v) {c : CurR} (hc : c ∈ r.U) (h : c.fr = v ∨ c.to = v) : v ∈ candL r t := by
  refine List.mem_append.2 (.inr (List.mem_flatMap.2 ⟨c, hc, List.mem_append.2 ?_⟩))
  rcases h with e | e
  · left; rw [if_pos (by omega)]; simp [e]
  · right; rw [if_pos (by omega)]; simp [e]
theorem candL_rng {r : LimR} {t : Int} (h0 : 0 ≤ t) (h1 : t ≤ 268435456) {n : Int} (hn : n ∈ candL r t) : n = -1 ∨ t < n := by
  rcases List.mem_append.1 hn with h | h
  · obtain ⟨c, _, rfl⟩ := List.mem_map.1 h
    have := nxA_rng r.z c h0 h1
    omega
  · obtain ⟨c, _, h⟩ := List.mem_flatMap.1 h
    rcases List.mem_append.1 h with h | h
    · split at h
      · simp at h; omega
      · simp at h
    · split at h
      · simp at h; omega
      · simp at h
/-- ahead of all of them nothing changes -/
theorem cand_quiet {r : LimR} {t x : Int} (h0 : 0 ≤ t) (h1 : t ≤ 268435456) (h : ∀ n ∈ candL r t, 0 ≤ n → x ≤ n) : Quiet (difR r) t (x - 1) := by
  intro v a b c
  refine difR_none (fun d hd => ?_) ?_
  · have hm : nxA r.z t d ∈ candL r t := List.mem_append.2 (.inl (List.mem_map.2 ⟨d, hd, rfl⟩))
    rcases nxA_spec r.z d h0 h1 with ⟨p1, p2, p3, p4⟩ | ⟨p1, p2⟩
    · have := h _ hm (by omega)
      exact p4 v a (by omega)
    · exact p2 v a c
  · cases hd : difU r.U v with
    | false => rfl
    | true =>
      obtain ⟨d, hdm, _, he, _⟩ := difU_at hd
      have := h v (candL_edge a hdm he) (by omega)
      omega
/-- the least of them, or -1 -/
noncomputable def candR (r : LimR) (t : Int) : Int := firF (candL r t)
theorem candR_cases (r : LimR) {t : Int} (h0 : 0 ≤ t) (h1 : t ≤ 268435456) : (candR r t = -1 ∧ ∀ x, Quiet (difR r) t x) ∨ (t < candR r t ∧ Quiet (difR r) t (candR r t - 1)) := by
  unfold candR
  rcases firF_is (candL r t) with ⟨a, b⟩ | ⟨a, b, c⟩
  · refine .inl ⟨a, fun x => ?_⟩
    have := cand_quiet (r := r) (x := x + 1) h0 h1 (fun n hn hp => by have := b n hn; omega)
    rw [show x + 1 - 1 = x by omega] at this
    exact this
  · refine .inr ⟨?_, cand_quiet h0 h1 c⟩
    have := candL_rng h0 h1 b
    omega
/-- one step of the reference's 'first' -/
def firS (a b : Int) : Int := if a < 0 ∨ (0 ≤ b ∧ b < a) then b else a
theorem firS_eq {a b : Int} (ha : a = -1 ∨ 0 ≤ a) (hb : b = -1 ∨ 0 ≤ b) : firS a b = fs1 a b := by
  unfold firS fs1
  split <;> split <;> omega
theorem fs1_rng {a b : Int} (ha : a = -1 ∨ 0 ≤ a) : fs1 a b = -1 ∨ 0 ≤ fs1 a b := by
  unfold fs1
  split <;> omega
theorem firS_fold : ∀ (l : List Int) (a : Int), (a = -1 ∨ 0 ≤ a) → (∀ n ∈ l, n = -1 ∨ 0 ≤ n) → l.foldl firS a = l.foldl fs1 a
  | [], a, _, _ => rfl
  | n :: l, a, ha, h => by
    rw [List.foldl_cons, List.foldl_cons, firS_eq ha (h n (by simp))]
    exact firS_fold l _ (fs1_rng ha) (fun m hm => h m (by simp [hm]))
theorem candR_fold (r : LimR) {t : Int} (h0 : 0 ≤ t) (h1 : t ≤ 268435456) : (candL r t).foldl firS (-1) = candR r t :=
  firS_fold _ _ (.inl rfl) (fun n hn => by have := candL_rng (r := r) h0 h1 hn; omega)

/-- the rules with the contracts and the grid events of one feeder -/
def onlyR (r : LimR) (f : Int) : LimR := ⟨r.R, ownC f r.C, r.U.filter (fun c => c.fd == f), r.z⟩
theorem uFold_own {f t : Int} : ∀ (l : List CurR) (n : Int), (l.filter (fun c => c.fd == f)).foldl (uStep f t) n = l.foldl (uStep f t) n
  | [], n => rfl
  | c :: l, n => by
    by_cases e : c.fd = f
    · rw [List.filter_cons_of_pos (by simpa using e), List.foldl_cons, List.foldl_cons]
      exact uFold_own l _
    · rw [List.filter_cons_of_neg (by simpa using e), List.foldl_cons, show uStep f t n c = n from if_neg (fun h => e (by unfold uOn at h; simp at h; exact h.1))]
      exact uFold_own l _
theorem only_cap (r : LimR) (f t : Int) : capF (onlyR r f) f t = capF r f t := by
  unfold capF totF onlyR uAt
  rw [own_at, uFold_own]
theorem only_other (r : LimR) {f i : Int} (h : i ≠ f) (t u : Int) : capF (onlyR r f) i t = capF (onlyR r f) i u := by
  have h1 : ∀ c ∈ (onlyR r f).U, c.fd ≠ i := fun c hc e => by
    have := (List.mem_filter.1 hc).2
    simp at this
    omega
  have h2 : ∀ c ∈ (onlyR r f).C, c.fd ≠ i := fun c hc e => by
    have := (List.mem_filter.1 hc).2
    simp at this
    omega
  unfold capF totF
  rw [uAt_none h1, uAt_none h1, cAt_none h2, cAt_none h2]
theorem only_dif (r : LimR) {f : Int} (h0 : 0 ≤ f) (h1 : f < r.R.length) : difR (onlyR r f) = turnB (capF r f) := by
  funext u
  rw [Bool.eq_iff_iff, ← Bool.not_eq_false, ← Bool.not_eq_false (turnB _ _)]
  refine not_congr ?_
  rw [difR_false, turnB_false]
  constructor
  · intro h
    have := h f.toNat (by show f.toNat < r.R.length; omega)
    rw [show ((f.toNat : Nat) : Int) = f by omega, only_cap, only_cap] at this
    exact this
  · intro h i _
    by_cases e : (i : Int) = f
    · rw [e, only_cap, only_cap]; exact h
    · exact only_other r e _ _
/-- the next change of a feeder's cap -/
theorem only_next (r : LimR) {f : Int} (h0 : 0 ≤ f) (h1 : f < r.R.length) (t : Int) : limA (onlyR r f) t = nxV (capF r f) t := by
  unfold limA nxV; rw [only_dif r h0 h1]

/-- without a contract and without a grid event no cap is less -/
theorem uAt_drop (c : CurR) (l : List CurR) (f t : Int) : uAt (c :: l) f t ≤ uAt l f t := by
  have key : ∀ (l : List CurR) (n m : Int), n ≤ m → l.foldl (uStep f t) n ≤ l.foldl (uStep f t) m := by
    intro l
    induction l with
    | nil => intro n m h; exact h
    | cons d l ih =>
      intro n m h
      exact ih _ _ (by unfold uStep; split <;> omega)
  exact key l _ _ (uStep_le f t noL c)
theorem cAt_drop (c : ConR) (l : List ConR) (z : ZoneR) (f t : Int) : cAt (c :: l) z f t ≤ cAt l z f t := by
  have key : ∀ (l : List ConR) (n m : Int), n ≤ m → cFrom z f t n l ≤ cFrom z f t m l := by
    intro l
    induction l with
    | nil => intro n m h; exact h
    | cons d l ih =>
      intro n m h
      exact ih _ _ (by unfold cStep; split <;> omega)
  exact key l _ _ (cStep_le z f t noL c)
theorem cap_more (r : LimR) (f t : Int) : capF r f t ≤ capF ⟨r.R, r.C.drop 1, r.U.drop 1, r.z⟩ f t := by
  have h1 : cAt r.C r.z f t ≤ cAt (r.C.drop 1) r.z f t := by
    cases h : r.C with
    | nil => exact Int.le_refl _
    | cons c l => exact cAt_drop c l _ _ _
  have h2 : uAt r.U f t ≤ uAt (r.U.drop 1) f t := by
    cases h : r.U with
    | nil => exact Int.le_refl _
    | cons c l => exact uAt_drop c l _ _
  unfold capF totF
  simp only
  omega

end Go.Proofs.YtlpjniejbblcnaaDoor
