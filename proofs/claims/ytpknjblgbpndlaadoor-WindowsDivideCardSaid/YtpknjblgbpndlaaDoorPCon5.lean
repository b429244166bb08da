/-
  Between the changes of a window; where a window's spans lie. No program is named here.
-/
import Derived.Test.YtpknjblgbpndlaaDoorPCov
import Derived.Test.YtpknjblgbpndlaaDoorWRefW3
namespace Go.Proofs.YtpknjblgbpndlaaDoor
set_option linter.unusedVariables false

theorem nextA_law (W : WinR) (z : ZoneR) {t : Int} (h0 : 0 ≤ t) (h1 : t ≤ 268435456) :
    (nextA W z t = -1 ∧ ∀ v, t ≤ v → v ≤ 268435456 → holdsB W z v = holdsB W z t) ∨
    (t < nextA W z t ∧ nextA W z t ≤ 268435456 ∧ holdsB W z (nextA W z t) = !holdsB W z (nextA W z t - 1) ∧ ∀ v, t ≤ v → v < nextA W z t → holdsB W z v = holdsB W z t) := by
  by_cases hb : winB W = true ∧ zoneB z = true
  · rw [nextA_ok hb.1 hb.2 (timeB_iff.2 ⟨h0, h1⟩)]
    rcases nextF_spec (holdsB W z) (t := t) (by omega) with ⟨a, b, c, d⟩ | ⟨a, d⟩
    · refine .inr ⟨a, b, ?_, const_of d⟩
      cases e1 : holdsB W z (nextF (holdsB W z) t) <;> cases e2 : holdsB W z (nextF (holdsB W z) t - 1) <;> simp_all
    · refine .inl ⟨a, fun v x y => ?_⟩
      exact const_of (r := 268435457) (fun u p q => d u p (by unfold maxT; omega)) v x (by omega)
  · have hf : (winB W && zoneB z) = false := by
      cases h : (winB W && zoneB z) with
      | false => rfl
      | true => exact absurd (Bool.and_eq_true_iff.1 h) hb
    have hh : ∀ v, holdsB W z v = false := fun v => by unfold holdsB; rw [hf]; simp
    exact .inl ⟨nextA_bad (by rw [hf]; rfl), fun v _ _ => by rw [hh, hh]⟩
theorem nextA_out (W : WinR) (z : ZoneR) {t : Int} (h : ¬ (0 ≤ t ∧ t ≤ 268435456)) : nextA W z t = -1 := by
  refine nextA_bad ?_
  cases ht : timeB t with
  | false => simp
  | true => exact absurd (timeB_iff.1 ht) h

/-- all spans before k are over at t -/
def OverTo (l : List (Int × Int)) (k : Nat) (t : Int) : Prop := ∀ p ∈ l.take k, p.2 ≤ t
theorem OverTo.zero (l : List (Int × Int)) (t : Int) : OverTo l 0 t := fun p h => by simp at h
theorem OverTo.mono {l : List (Int × Int)} {k : Nat} {t u : Int} (h : OverTo l k t) (hu : t ≤ u) : OverTo l k u := fun p hp => Int.le_trans (h p hp) hu
theorem OverTo.step {l : List (Int × Int)} {k : Nat} {t : Int} (h : OverTo l k t) (hk : k < l.length) (ht : l[k].2 ≤ t) : OverTo l (k + 1) t := fun p hp => by
  rw [List.take_succ_eq_append_getElem hk] at hp
  rcases List.mem_append.1 hp with c | c
  · exact h p c
  · simp at c; rw [c]; exact ht
theorem cov_end {H : Int → Bool} {a b t : Int} {l : List (Int × Int)} (h : CovTo H a b l) (ho : OverTo l l.length t) (h1 : a ≤ t) (h2 : t < b) : H t = false := by
  cases hh : H t with
  | false => rfl
  | true =>
    obtain ⟨p, hp, c, d⟩ := h.off t h1 h2 hh
    have := ho p (by simpa using hp)
    omega
theorem cov_in {H : Int → Bool} {a b t : Int} {l : List (Int × Int)} {k : Nat} (h : CovTo H a b l) (ho : OverTo l k t) (hk : k < l.length) (h1 : a ≤ t) (h2 : t < b) (hl : t < l[k].2) : H t = decide (l[k].1 ≤ t) := by
  by_cases c : l[k].1 ≤ t
  · rw [h.on l[k] (List.getElem_mem hk) t c hl]; simp [c]
  · cases hh : H t with
    | false => simp [c]
    | true =>
      obtain ⟨p, hp, d, e⟩ := h.off t h1 h2 hh
      obtain ⟨j, hj, rfl⟩ := List.getElem_of_mem hp
      rcases Nat.lt_trichotomy j k with g | g | g
      · have := ho l[j] (List.mem_take_iff_getElem.2 ⟨j, by omega, rfl⟩)
        omega
      · subst g; omega
      · have := (List.pairwise_iff_getElem.1 h.asc) k j hk hj g
        omega
structure SpanOk (a b : Int) (p : Int × Int) : Prop where
  lt : p.1 < p.2
  lo : a ≤ p.1
  hi : p.2 ≤ b
theorem cov_ok {H : Int → Bool} {a b : Int} {l : List (Int × Int)} (h : CovTo H a b l) {k : Nat} (hk : k < l.length) : SpanOk a b l[k] := by
  have := h.mem l[k] (List.getElem_mem hk)
  exact ⟨this.2.1, this.1, this.2.2⟩
theorem cov_gap {H : Int → Bool} {a b : Int} {l : List (Int × Int)} (h : CovTo H a b l) {k : Nat} (hk : k + 1 < l.length) : l[k].2 < l[k + 1].1 :=
  (List.pairwise_iff_getElem.1 h.asc) k (k + 1) (by omega) hk (by omega)

end Go.Proofs.YtpknjblgbpndlaaDoor
