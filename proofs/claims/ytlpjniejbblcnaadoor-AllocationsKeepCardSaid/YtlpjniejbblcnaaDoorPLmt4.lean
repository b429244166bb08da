/-
  Plain functions of limits: what the loops find. No program is named here.
-/
import Derived.Test.YtlpjniejbblcnaaDoorPLmt3
import Derived.Test.YtlpjniejbblcnaaDoorPWin3
namespace Go.Proofs.YtlpjniejbblcnaaDoor
open Go.RowKit
set_option linter.unusedVariables false

/-- the spans of grid events end within time -/
def CurIn (U : List CurR) : Prop := ∀ c ∈ U, c.fr ≤ 268435456 ∧ c.to ≤ 268435456
theorem RulOk.curIn {r : RulR} (h : RulOk r) : CurIn r.U := fun c hc => by
  obtain ⟨k, hk, rfl⟩ := List.mem_iff_getElem.1 hc
  have := curE_zero (h.cur k hk)
  omega
theorem RulOk.feeders {r : RulR} (h : RulOk r) : ∀ c ∈ r.C, 0 ≤ c.fd ∧ c.fd < r.S.F.length := fun c hc => by
  obtain ⟨k, hk, rfl⟩ := List.mem_iff_getElem.1 hc
  have := conE_zero (h.con k hk).1
  omega
theorem RulOk.totals {r : RulR} (h : RulOk r) : ∀ c ∈ r.C, 0 ≤ c.tot ∧ c.tot ≤ 1073741824 := fun c hc => by
  obtain ⟨k, hk, rfl⟩ := List.mem_iff_getElem.1 hc
  have := conE_zero (h.con k hk).1
  omega
theorem RulOk.feedersU {r : RulR} (h : RulOk r) : ∀ c ∈ r.U, 0 ≤ c.fd ∧ c.fd < r.S.F.length := fun c hc => by
  obtain ⟨k, hk, rfl⟩ := List.mem_iff_getElem.1 hc
  have := curE_zero (h.cur k hk)
  omega

/-- the times at which Next of grid events looks -/
def curL (l : List CurR) (t : Int) : List Int := Lib.compact ((timesU l t).mergeSort fun x y => decide (x ≤ y))
theorem curL_mem {l : List CurR} {t x : Int} : x ∈ curL l t ↔ x ∈ timesU l t := by
  unfold curL
  constructor
  · intro h; simpa using compact_sub h
  · intro h; exact compact_mem (by simpa using h)
theorem curL_asc (l : List CurR) (t : Int) : (curL l t).Pairwise (· ≤ ·) := by
  refine compact_asc ?_
  have := List.pairwise_mergeSort (le := fun x y : Int => decide (x ≤ y)) (fun a b c h1 h2 => by simp at *; omega) (fun a b => by simp; omega) (timesU l t)
  simpa using this
theorem cur_found {l : List CurR} {t : Int} (hU : CurIn l) {k : Nat} (hk : k < (curL l t).length) (h : ∀ x ∈ (curL l t).take k, difU l x = false) (hd : difU l (curL l t)[k] = true) : NextP (difU l) t (curL l t)[k] := by
  have hm := timesU_mem.1 (curL_mem.1 (List.getElem_mem hk))
  obtain ⟨c, hc, _, h1, h2⟩ := hm
  have := hU c hc
  refine .inl ⟨h1, by omega, hd, fun u hu1 hu2 => ?_⟩
  cases e : difU l u with
  | false => rfl
  | true =>
    obtain ⟨j, hj, hju⟩ := List.mem_iff_getElem.1 (curL_mem.2 (timesU_dif hu1 e))
    by_cases hjk : j < k
    · have := h u (List.mem_iff_getElem.2 ⟨j, by rw [List.length_take]; omega, by rw [List.getElem_take]; exact hju⟩)
      rw [this] at e; cases e
    · exfalso
      by_cases he : j = k
      · subst he; omega
      · have := List.pairwise_iff_getElem.1 (curL_asc l t) k j hk hj (by omega)
        omega
theorem cur_end {l : List CurR} {t : Int} (h : ∀ x ∈ curL l t, difU l x = false) : NextP (difU l) t (-1) := by
  refine .inr ⟨rfl, fun u h1 _ => ?_⟩
  cases e : difU l u with
  | false => rfl
  | true => rw [h u (curL_mem.2 (timesU_dif h1 e))] at e; cases e
theorem timesU_len (l : List CurR) (t : Int) : (timesU l t).length ≤ 2 * l.length := by
  induction l with
  | nil => simp [timesU]
  | cons c l ih =>
    unfold timesU at *
    rw [List.flatMap_cons, List.length_append, List.length_append, List.length_cons]
    have h1 : ∀ (p : Prop) [Decidable p] (a : Int), (if p then [a] else []).length ≤ 1 := fun p _ a => by split <;> simp
    have := h1 (c.off = false ∧ t < c.fr) c.fr
    have := h1 (c.off = false ∧ t < c.to) c.to
    omega
/-- the times of the first k grid events, and of the first j ends of the next one -/
def timesK (l : List CurR) (t : Int) (k j : Nat) : List Int := timesU (l.take k) t ++ (match l[k]? with
  | some c => (if 1 ≤ j ∧ c.off = false ∧ t < c.fr then [c.fr] else []) ++ (if 2 ≤ j ∧ c.off = false ∧ t < c.to then [c.to] else [])
  | none => [])
theorem timesK_zero (l : List CurR) (t : Int) (k : Nat) : timesK l t k 0 = timesU (l.take k) t := by
  unfold timesK
  split <;> simp
theorem timesK_one {l : List CurR} {t : Int} {k : Nat} (h : k < l.length) : timesK l t k 1 = timesK l t k 0 ++ (if l[k].off = false ∧ t < l[k].fr then [l[k].fr] else []) := by
  rw [timesK_zero]
  unfold timesK
  rw [List.getElem?_eq_getElem h]
  simp
theorem timesK_two {l : List CurR} {t : Int} {k : Nat} (h : k < l.length) : timesK l t k 2 = timesK l t k 1 ++ (if l[k].off = false ∧ t < l[k].to then [l[k].to] else []) := by
  rw [timesK_one h, timesK_zero]
  unfold timesK
  rw [List.getElem?_eq_getElem h]
  simp
theorem timesK_next {l : List CurR} {t : Int} {k : Nat} (h : k < l.length) : timesK l t (k + 1) 0 = timesK l t k 2 := by
  rw [timesK_two h, timesK_one h, timesK_zero, timesK_zero, List.take_succ_eq_append_getElem h]
  unfold timesU
  rw [List.flatMap_append]
  simp
theorem timesK_full (l : List CurR) (t : Int) : timesK l t l.length 0 = timesU l t := by rw [timesK_zero, List.take_length]
theorem timesK_len (l : List CurR) (t : Int) (k j : Nat) : (timesK l t k j).length ≤ 2 * l.length + 2 := by
  unfold timesK
  have h0 := timesU_len (l.take k) t
  rw [List.length_take] at h0
  rw [List.length_append]
  split
  · rw [List.length_append]
    have h1 : ∀ (p : Prop) [Decidable p] (a : Int), (if p then [a] else []).length ≤ 1 := fun p _ a => by split <;> simp
    rename_i c _
    have := h1 (1 ≤ j ∧ c.off = false ∧ t < c.fr) c.fr
    have := h1 (2 ≤ j ∧ c.off = false ∧ t < c.to) c.to
    omega
  · simp; omega

/-- what Next of grid events returns -/
noncomputable def curA (l : List CurR) (t : Int) : Int := nextP (difU l) t
theorem curA_rng (l : List CurR) (t : Int) : curA l t = -1 ∨ (t < curA l t ∧ curA l t ≤ 268435456) := nextP_rng (difU l) t

/-- a round of Next of limits -/
theorem lim_round {r : LimR} {t u ev a : Int} (hC : ∀ c ∈ r.C, 0 ≤ c.fd ∧ c.fd < r.R.length) (h0 : 0 ≤ t) (h1 : t ≤ u) (h2 : u ≤ 268435456) (hq : Quiet (difR r) t u) (hev : ev = curA r.U u) (ha : a = conA (strictF r u) r.z u) :
    (0 ≤ a ∧ (ev < 0 ∨ a < ev) ∧ limA r t = a) ∨ (¬ (0 ≤ a ∧ (ev < 0 ∨ a < ev)) ∧ ev < 0 ∧ limA r t = ev) ∨
      (¬ (0 ≤ a ∧ (ev < 0 ∨ a < ev)) ∧ 0 ≤ ev ∧ difR r ev = true ∧ limA r t = ev) ∨ (¬ (0 ≤ a ∧ (ev < 0 ∨ a < ev)) ∧ 0 ≤ ev ∧ difR r ev = false ∧ u < ev ∧ ev ≤ 268435456 ∧ Quiet (difR r) t ev) := by
  have hE := nextP_spec (difU r.U) u
  have hA := conA_spec (strictF r u) r.z (t := u) (by omega) h2
  rw [← ha] at hA
  have hE' : NextP (difU r.U) u ev := by rw [hev]; exact hE
  have glue : ∀ x, NextP (difR r) u x → limA r t = x := fun x hx => by
    refine nextP_of ?_
    rcases hx with ⟨a1, a2, a3, a4⟩ | ⟨a1, a4⟩
    · refine .inl ⟨by omega, a2, a3, fun v b c => ?_⟩
      by_cases e : v ≤ u
      · exact hq v b e (by omega)
      · exact a4 v (by omega) c
    · refine .inr ⟨a1, fun v b c => ?_⟩
      by_cases e : v ≤ u
      · exact hq v b e c
      · exact a4 v (by omega) c
  obtain ⟨e, he, hqe, hee⟩ : ∃ e, e ≤ 268435457 ∧ Quiet (difU r.U) u (e - 1) ∧ ((ev < 0 ∧ e = 268435457) ∨ (0 ≤ ev ∧ e = ev ∧ u < ev ∧ ev ≤ 268435456)) := by
    rcases hE' with ⟨a1, a2, a3, a4⟩ | ⟨a1, a4⟩
    · exact ⟨ev, by omega, fun v b c _ => a4 v b (by omega), .inr ⟨by omega, rfl, a1, a2⟩⟩
    · exact ⟨268435457, by omega, fun v b c d => a4 v b d, .inl ⟨by omega, rfl⟩⟩
  by_cases hi : 0 ≤ a ∧ (ev < 0 ∨ a < ev)
  · left
    refine ⟨hi.1, hi.2, glue a ?_⟩
    refine lim_found hC hqe he hA hi.1 (by omega) ?_
    rcases hee with ⟨_, rfl⟩ | ⟨_, rfl, _⟩
    · rcases hA with ⟨_, a2, _⟩ | ⟨a1, _⟩ <;> omega
    · omega
  · right
    have hqu : Quiet (difR r) u (e - 1) := lim_quiet hC hqe he hA (by omega) (by
      rcases hA with ⟨a1, a2, _⟩ | ⟨a1, _⟩
      · right
        rcases hee with ⟨h, rfl⟩ | ⟨h, rfl, _⟩
        · exact absurd ⟨by omega, .inl h⟩ hi
        · rcases Int.lt_or_le a e with g | g
          · exact absurd ⟨by omega, .inr g⟩ hi
          · exact g
      · exact .inl a1)
    rcases hee with ⟨h, rfl⟩ | ⟨h, rfl, h3, h4⟩
    · refine .inl ⟨hi, h, glue ev ?_⟩
      have hm : ev = -1 := by
        rcases hE' with ⟨a1, _⟩ | ⟨a1, _⟩ <;> omega
      rw [hm]
      exact hqu.none (by omega)
    · right
      cases hd : difR r e with
      | true => exact .inl ⟨hi, h, rfl, glue e (hqu.found h3 h4 hd)⟩
      | false =>
        refine .inr ⟨hi, h, rfl, h3, h4, fun v b c d => ?_⟩
        by_cases g : v ≤ u
        · exact hq v b g d
        · by_cases g2 : v = e
          · rw [g2]; exact hd
          · exact hqu v (by omega) (by omega) d

/-- where the loop of the reference's Next stands -/
def NxSt (r : LimR) (t u : Int) : Prop := (u = -1 ∧ ∀ x, Quiet (difR r) t x) ∨ (t < u ∧ u ≤ 268435456 ∧ Quiet (difR r) t (u - 1))
theorem candR_top {r : LimR} (hU : CurIn r.U) {t : Int} (h0 : 0 ≤ t) (h1 : t ≤ 268435456) : candR r t ≤ 268435456 := by
  unfold candR
  rcases firF_is (candL r t) with ⟨a, b⟩ | ⟨a, b, c⟩
  · omega
  · rcases List.mem_append.1 b with h | h
    · obtain ⟨c, _, h⟩ := List.mem_map.1 h
      have := nxA_rng r.z c h0 h1
      omega
    · obtain ⟨c, hc, h⟩ := List.mem_flatMap.1 h
      have := hU c hc
      rcases List.mem_append.1 h with h | h
      · split at h
        · simp at h; omega
        · simp at h
      · split at h
        · simp at h; omega
        · simp at h
theorem NxSt.start {r : LimR} (hU : CurIn r.U) {t : Int} (h0 : 0 ≤ t) (h1 : t ≤ 268435456) : NxSt r t (candR r t) := by
  have := candR_top hU h0 h1
  rcases candR_cases r h0 h1 with ⟨a, b⟩ | ⟨a, b⟩
  · exact .inl ⟨a, b⟩
  · exact .inr ⟨a, this, b⟩
theorem NxSt.next {r : LimR} (hU : CurIn r.U) {t u : Int} (h : NxSt r t u) (h0 : 0 ≤ t) (hu : 0 ≤ u) (hd : difR r u = false) : NxSt r t (candR r u) := by
  rcases h with ⟨a, b⟩ | ⟨a, b, c⟩
  · omega
  · have htop := candR_top hU hu b
    have hq : Quiet (difR r) t u := fun v x y z => by
      by_cases e : v = u
      · rw [e]; exact hd
      · exact c v x (by omega) z
    rcases candR_cases r hu b with ⟨d, e⟩ | ⟨d, e⟩
    · exact .inl ⟨d, fun x => hq.trans (e x)⟩
    · exact .inr ⟨by omega, htop, hq.trans e⟩
theorem NxSt.found {r : LimR} {t u : Int} (h : NxSt r t u) (hu : 0 ≤ u) (hd : difR r u = true) : limA r t = u := by
  rcases h with ⟨a, b⟩ | ⟨a, b, c⟩
  · omega
  · exact nextP_of (c.found a b hd)
theorem NxSt.done {r : LimR} {t u : Int} (h : NxSt r t u) (hu : u < 0) (h0 : 0 ≤ t) : limA r t = -1 := by
  rcases h with ⟨a, b⟩ | ⟨a, b, c⟩
  · exact nextP_of ((b 268435456).none (by omega))
  · omega
theorem NxSt.rng {r : LimR} {t u : Int} (h : NxSt r t u) : u = -1 ∨ (t < u ∧ u ≤ 268435456) := by
  rcases h with ⟨a, b⟩ | ⟨a, b, c⟩
  · exact .inl a
  · exact .inr ⟨a, b⟩

/-- Next of limits -/
noncomputable def limN (r : RulR) (t : Int) : Int := if limE r = 0 ∧ 0 ≤ t ∧ t ≤ 268435456 then limA r.lim t else -1
theorem limN_in {r : RulR} {t : Int} (h : limE r = 0) (h0 : 0 ≤ t) (h1 : t ≤ 268435456) : limN r t = limA r.lim t := if_pos ⟨h, h0, h1⟩
theorem limN_out {r : RulR} {t : Int} (h : ¬ (limE r = 0 ∧ 0 ≤ t ∧ t ≤ 268435456)) : limN r t = -1 := if_neg h
theorem caps_quiet {r : RulR} {t u : Int} (h : Quiet (difR r.lim) t u) (hu : u ≤ 268435456) : ∀ v, t ≤ v → v ≤ u → capsL r v = capsL r t := by
  intro v h1 h2
  obtain ⟨n, rfl⟩ : ∃ n : Nat, v = t + n := ⟨(v - t).toNat, by omega⟩
  clear h1
  induction n with
  | zero => simp
  | succ n ih =>
    rw [difR_caps.1 (h (t + ((n + 1 : Nat) : Int)) (by omega) h2 (by omega)), show t + ((n + 1 : Nat) : Int) - 1 = t + n by omega]
    exact ih (by omega)
/-- the caps stay until the next change, and change there -/
theorem limN_const (r : RulR) (t : Int) :
    (limA r.lim t = -1 ∧ ∀ v, t ≤ v → v ≤ 268435456 → capsL r v = capsL r t) ∨
    (t < limA r.lim t ∧ limA r.lim t ≤ 268435456 ∧ capsL r (limA r.lim t) ≠ capsL r (limA r.lim t - 1) ∧ ∀ v, t ≤ v → v < limA r.lim t → capsL r v = capsL r t) := by
  rcases nextP_spec (difR r.lim) t with ⟨a, b, c, d⟩ | ⟨a, d⟩
  · refine .inr ⟨a, b, fun h => ?_, fun v x y => ?_⟩
    · have c' : difR r.lim (limA r.lim t) = true := c
      rw [difR_caps.2 h] at c'; cases c'
    · exact caps_quiet (u := limA r.lim t - 1) (fun v x y z => d v x (by unfold limA at y; omega)) (by unfold limA; omega) v x (by omega)
  · exact .inl ⟨a, fun v x y => caps_quiet (u := 268435456) (fun v x y z => d v x z) (by omega) v x y⟩

/-- what Series of limits returns -/
def serE (r : RulR) (f a b : Int) : Int := if limE r ≠ 0 then limE r else if f < 0 ∨ (r.S.F.length : Int) ≤ f then 8 else if a < 0 ∨ b < a ∨ 268435456 < b then 2 else 0

theorem cap_rated {r : RulR} {i : Nat} (h : i < r.S.F.length) (t : Int) : capF r.lim i t ≤ rateF r.S.F[i] := by
  unfold capF
  rw [totF_at h]
  omega
/-- the rules without the first contract and the first grid event -/
def RulR.less (r : RulR) : RulR := ⟨r.S, r.z, r.C.drop 1, r.U.drop 1⟩
theorem less_more (r : RulR) (i : Int) (t : Int) : capF r.lim i t ≤ capF r.less.lim i t := cap_more r.lim i t

end Go.Proofs.YtlpjniejbblcnaaDoor
