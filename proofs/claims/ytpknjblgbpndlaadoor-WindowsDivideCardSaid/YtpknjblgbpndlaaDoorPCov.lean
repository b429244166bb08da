/-
  The spans of a window hold exactly where it does. No program is named here.
-/
import Derived.Test.YtpknjblgbpndlaaDoorPWin2
namespace Go.Proofs.YtpknjblgbpndlaaDoor
set_option linter.unusedVariables false

/-- spans that ascend from a on, do not touch, end by x, and cover just the times at which H holds -/
structure CovTo (H : Int → Bool) (a x : Int) (l : List (Int × Int)) : Prop where
  asc : l.Pairwise (fun p q => p.2 < q.1)
  mem : ∀ p ∈ l, a ≤ p.1 ∧ p.1 < p.2 ∧ p.2 ≤ x
  on : ∀ p ∈ l, ∀ t, p.1 ≤ t → t < p.2 → H t = true
  off : ∀ t, a ≤ t → t < x → H t = true → ∃ p ∈ l, p.1 ≤ t ∧ t < p.2
theorem CovTo.start (H : Int → Bool) (a : Int) : CovTo H a a [] := ⟨List.Pairwise.nil, fun p h => by simp at h, fun p h => by simp at h, fun t h1 h2 => by omega⟩
/-- between two changes H is constant -/
theorem toF_const {H : Int → Bool} {b t : Int} (h0 : -1 ≤ t) (hb : b ≤ 268435456) : ∀ u, t ≤ u → u < toF H b t → H u = H t := by
  have hs := nextF_spec H h0
  intro u h1 h2
  unfold toF at h2
  rcases hs with ⟨a, c, d, e⟩ | ⟨a, e⟩
  · refine const_of e u h1 ?_
    split at h2 <;> omega
  · have hu : u ≤ 268435455 := by split at h2 <;> omega
    refine const_of (r := 268435456) (fun v x y => e v x (by unfold maxT; omega)) u h1 (by omega)
theorem CovTo.skip {H : Int → Bool} {a x y : Int} {l : List (Int × Int)} (h : CovTo H a x l) (hxy : x ≤ y) (hf : ∀ u, x ≤ u → u < y → H u = false) : CovTo H a y l := by
  refine ⟨h.asc, fun p hp => ?_, h.on, fun t h1 h2 h3 => ?_⟩
  · obtain ⟨c1, c2, c3⟩ := h.mem p hp
    exact ⟨c1, c2, by omega⟩
  · by_cases c : t < x
    · exact h.off t h1 c h3
    · rw [hf t (by omega) h2] at h3; cases h3
theorem CovTo.add {H : Int → Bool} {a x y : Int} {l : List (Int × Int)} (h : CovTo H a x l) (hax : a ≤ x) (hxy : x < y) (ht : ∀ u, x ≤ u → u < y → H u = true) (hl : ∀ p ∈ l, p.2 < x) : CovTo H a y (l ++ [(x, y)]) := by
  refine ⟨?_, fun p hp => ?_, fun p hp t h1 h2 => ?_, fun t h1 h2 h3 => ?_⟩
  · rw [List.pairwise_append]
    exact ⟨h.asc, by simp, fun p hp q hq => by simp at hq; subst hq; exact hl p hp⟩
  · rcases List.mem_append.1 hp with c | c
    · obtain ⟨c1, c2, c3⟩ := h.mem p c
      exact ⟨c1, c2, by omega⟩
    · simp at c; subst c; exact ⟨hax, hxy, Int.le_refl _⟩
  · rcases List.mem_append.1 hp with c | c
    · exact h.on p c t h1 h2
    · simp at c; subst c; exact ht t h1 h2
  · by_cases c : t < x
    · obtain ⟨p, hp, q⟩ := h.off t h1 c h3
      exact ⟨p, List.mem_append_left _ hp, q⟩
    · exact ⟨(x, y), by simp, by simp; omega, by simp; omega⟩
theorem restS_cov {H : Int → Bool} {a b : Int} (hb : b ≤ 268435456) (ha : 0 ≤ a) : ∀ (n : Nat) (x : Int) (acc L : List (Int × Int)), (b - x).toNat ≤ n → a ≤ x → x ≤ b → CovTo H a x acc → (x < b → H x = true → ∀ p ∈ acc, p.2 < x) → restS H b x acc = some L → CovTo H a b L := by
  intro n
  induction n with
  | zero =>
    intro x acc L hn hax hxb hc hnt hr
    have hx : x = b := by omega
    subst hx
    rw [restS_end (Int.le_refl _)] at hr
    injection hr with hr
    rw [← hr]; exact hc
  | succ n ih =>
    intro x acc L hn hax hxb hc hnt hr
    by_cases hlt : x < b
    · have htr := toF_rng (H := H) (show -1 ≤ x by omega) hlt
      have hk := toF_const (H := H) (b := b) (show -1 ≤ x by omega) hb
      have htt := toF_turn (H := H) (b := b) (t := x) (by omega)
      rw [restS_step (by omega) hlt] at hr
      cases hx : H x with
      | false =>
        rw [hx, if_neg (by decide)] at hr
        refine ih _ acc L (by omega) (by omega) htr.2 (hc.skip (by omega) (fun u h1 h2 => by rw [hk u h1 h2]; exact hx)) (fun h1 h2 p hp => ?_) hr
        have := (hc.mem p hp).2.2
        omega
      | true =>
        rw [hx, if_pos rfl] at hr
        by_cases hl : acc.length = 512
        · rw [if_pos hl] at hr; cases hr
        · rw [if_neg hl] at hr
          refine ih _ _ L (by omega) (by omega) htr.2 (hc.add hax (by omega) (fun u h1 h2 => by rw [hk u h1 h2]; exact hx) (hnt hlt hx)) (fun h1 h2 => ?_) hr
          rw [htt h1, hx] at h2
          cases h2
    · have hx : x = b := by omega
      subst hx
      rw [restS_end (Int.le_refl _)] at hr
      injection hr with hr
      rw [← hr]; exact hc

end Go.Proofs.YtpknjblgbpndlaaDoor
