/-
  Plain functions of windows: the reference's candidates; the spans. No program is named here.
-/
import Derived.Test.YtlpjniejbblcnaaDoorPWin
namespace Go.Proofs.YtlpjniejbblcnaaDoor
set_option linter.unusedVariables false

def waitF (minute m : Int) : Int := if minute < m then m - minute else m - minute + 1440
noncomputable def candF (W : WinR) (z : ZoneR) (t : Int) : Int :=
  let n := min (min (min (waitF ((t + offF z t) % 1440) W.st) (waitF ((t + offF z t) % 1440) W.en)) (waitF ((t + offF z t) % 1440) 0)) (waitF (t % 1440) 60)
  let u := if t < W.fr then min (t + n) W.fr else t + n
  if t < W.to then min u W.to else u
theorem waitF_pos (a b : Int) (h : a < 1440) (h2 : 0 ≤ b) : 1 ≤ waitF a b := by unfold waitF; split <;> omega
theorem waitF_miss {a b k : Int} (h0 : 0 ≤ a) (h1 : a < 1440) (h2 : 0 ≤ b) (h3 : b < 1440) (hk : 0 < k) (hk2 : k < waitF a b) : (a + k) % 1440 ≠ b := by
  unfold waitF at hk2
  split at hk2 <;> omega
theorem waitF_le (a b : Int) (h : 0 ≤ a) (h1 : a < 1440) (h2 : b < 1440) : waitF a b ≤ 1440 := by unfold waitF; split <;> omega
structure CandAt (W : WinR) (z : ZoneR) (t u : Int) : Prop where
  up : t < u
  le : u ≤ t + 1440
  same : ∀ v, t < v → v < u → v ≤ 268435456 → holdsB W z v = holdsB W z (v - 1)
theorem cand_at {W : WinR} {z : ZoneR} (hW : winB W = true) {t : Int} (h0 : 0 ≤ t) : CandAt W z t (candF W z t) := by
  have ok := winB_iff.1 hW
  obtain ⟨_, _, s0, s1, e0, e1, f0, f1, ht⟩ := ok
  have p1 := waitF_pos ((t + offF z t) % 1440) W.st (by omega) s0
  have p2 := waitF_pos ((t + offF z t) % 1440) W.en (by omega) e0
  have p3 := waitF_pos ((t + offF z t) % 1440) 0 (by omega) (by omega)
  have p4 := waitF_pos (t % 1440) 60 (by omega) (by omega)
  have q3 := waitF_le ((t + offF z t) % 1440) 0 (by omega) (by omega) (by omega)
  have m1 := fun k h1 h2 => waitF_miss (k := k) (a := (t + offF z t) % 1440) (by omega) (by omega) s0 s1 h1 h2
  have m2 := fun k h1 h2 => waitF_miss (k := k) (a := (t + offF z t) % 1440) (by omega) (by omega) e0 e1 h1 h2
  have m3 := fun k h1 h2 => waitF_miss (k := k) (a := (t + offF z t) % 1440) (b := 0) (by omega) (by omega) (by omega) (by omega) h1 h2
  have m4 := fun k h1 h2 => waitF_miss (k := k) (a := t % 1440) (b := 60) (by omega) (by omega) (by omega) (by omega) h1 h2
  have hb : t < candF W z t ∧ candF W z t ≤ t + waitF ((t + offF z t) % 1440) W.st ∧ candF W z t ≤ t + waitF ((t + offF z t) % 1440) W.en ∧ candF W z t ≤ t + waitF ((t + offF z t) % 1440) 0 ∧
      candF W z t ≤ t + waitF (t % 1440) 60 ∧ (t < W.fr → candF W z t ≤ W.fr) ∧ (t < W.to → candF W z t ≤ W.to) := by
    unfold candF
    generalize waitF ((t + offF z t) % 1440) W.st = a1 at *
    generalize waitF ((t + offF z t) % 1440) W.en = a2 at *
    generalize waitF ((t + offF z t) % 1440) 0 = a3 at *
    generalize waitF (t % 1440) 60 = a4 at *
    clear m1 m2 m3 m4
    dsimp only
    refine ⟨?_, ?_, ?_, ?_, ?_, fun h => ?_, fun h => ?_⟩ <;> omega
  obtain ⟨b0, b1, b2, b3, b4, b5, b6⟩ := hb
  have hoff : ∀ n : Nat, t + n < candF W z t → offF z (t + n) = offF z t := fun n hn => by
    induction n with
    | zero => simp
    | succ n ih =>
      rw [← ih (by omega)]
      apply Classical.byContradiction
      intro hne
      have ht2 := (off_turn (z := z) (t := t + ((n + 1 : Nat) : Int)) (by omega) (by rw [show t + ((n + 1 : Nat) : Int) - 1 = t + n by omega]; exact hne)).2
      have := sum_turn_mod (by omega) ht2
      have := m4 ((n + 1 : Nat) : Int) (by omega) (by omega)
      omega
  refine ⟨b0, by omega, fun v h1 h2 hm => ?_⟩
  obtain ⟨n, rfl⟩ : ∃ n : Nat, v = t + (n + 1 : Nat) := ⟨(v - t - 1).toNat, by omega⟩
  have o1 := hoff (n + 1) h2
  have o2 := hoff n (by omega)
  have e1 : t + ((n + 1 : Nat) : Int) - 1 = t + n := by omega
  have hi : inB W (t + ((n + 1 : Nat) : Int)) = inB W (t + n) := by
    unfold inB
    have x1 : decide (W.fr ≤ t + ((n + 1 : Nat) : Int)) = decide (W.fr ≤ t + n) := by simp only [decide_eq_decide]; omega
    have x2 : (W.to == -1 || decide (t + ((n + 1 : Nat) : Int) < W.to)) = (W.to == -1 || decide (t + (n : Int) < W.to)) := by
      rcases ht with e | e
      · rw [e]; rfl
      · have : decide (t + ((n + 1 : Nat) : Int) < W.to) = decide (t + (n : Int) < W.to) := by simp only [decide_eq_decide]; omega
        rw [this]
    rw [x1, x2]
  have hp : patB W z (t + ((n + 1 : Nat) : Int)) = patB W z (t + n) := by
    apply Classical.byContradiction
    intro hne
    have := pat_local (W := W) (z := z) (t := t + ((n + 1 : Nat) : Int)) (by rw [e1, o1, o2]) (by rw [e1]; exact hne)
    rw [o1] at this
    have a1 := m1 ((n + 1 : Nat) : Int) (by omega) (by omega)
    have a2 := m2 ((n + 1 : Nat) : Int) (by omega) (by omega)
    have a3 := m3 ((n + 1 : Nat) : Int) (by omega) (by omega)
    omega
  rw [e1]
  unfold holdsB
  rw [hi, hp, timeB_iff.2 ⟨by omega, hm⟩, timeB_iff.2 ⟨by omega, by omega⟩]

/-- no change up to a time -/
def NoChg (H : Int → Bool) (t u : Int) : Prop := ∀ v, t < v → v ≤ u → v ≤ 268435456 → H v = H (v - 1)
theorem NoChg.refl (H : Int → Bool) (t : Int) : NoChg H t t := fun v a b _ => by omega
theorem NoChg.step {W : WinR} {z : ZoneR} {t u : Int} (h : NoChg (holdsB W z) t u) (hc : CandAt W z u (candF W z u)) (he : candF W z u ≤ 268435456 → holdsB W z (candF W z u) = holdsB W z (candF W z u - 1)) : NoChg (holdsB W z) t (candF W z u) := fun v a b c => by
  rcases Int.lt_trichotomy u v with d | d | d
  · rcases Int.lt_or_eq_of_le b with e | e
    · exact hc.same v d e c
    · rw [e] at c ⊢; exact he c
  · exact h v a (by omega) c
  · exact h v a (by omega) c
theorem NoChg.found {W : WinR} {z : ZoneR} {t u : Int} (h : NoChg (holdsB W z) t u) (ht : t ≤ u) (hc : CandAt W z u (candF W z u)) (hm : candF W z u ≤ 268435456) (he : holdsB W z (candF W z u) ≠ holdsB W z (candF W z u - 1)) : NextSpec (holdsB W z) t (candF W z u) := by
  refine .inl ⟨by have := hc.up; omega, hm, he, fun v a b => ?_⟩
  by_cases d : v ≤ u
  · exact h v a d (by omega)
  · exact hc.same v (by omega) b (by omega)
/-- the reference starts at the window's beginning -/
theorem next_lift {W : WinR} {z : ZoneR} {t r : Int} (ht : t < W.fr - 1) (hn : NextSpec (holdsB W z) (W.fr - 1) r) : NextSpec (holdsB W z) t r := by
  have hb : ∀ u, t < u → u ≤ W.fr - 1 → holdsB W z u = holdsB W z (u - 1) := fun u a b => by
    rw [holdsB_before (by omega), holdsB_before (by omega)]
  rcases hn with ⟨a, b, c, d⟩ | ⟨e, d⟩
  · refine .inl ⟨by omega, b, c, fun u x y => ?_⟩
    by_cases g : u ≤ W.fr - 1
    · exact hb u x g
    · exact d u (by omega) y
  · refine .inr ⟨e, fun u x y => ?_⟩
    by_cases g : u ≤ W.fr - 1
    · exact hb u x g
    · exact d u (by omega) y
/-- fifteen days without a change -/
theorem next_calm {W : WinR} {z : ZoneR} (hW : winB W = true) (hz : zoneB z = true) {t e : Int} (h0 : 0 ≤ t) (hf : W.fr - 1 ≤ t) (h : NoChg (holdsB W z) t (e - 1)) (he : t + 21600 < e ∨ 268435456 < e) :
    NextSpec (holdsB W z) t (if decide (t < W.to) && holdsB W z (W.to - 1) then W.to else -1) := by
  have ok := winB_iff.1 hW
  have ht := ok.t
  have f0 := ok.f0
  by_cases hto : W.to ≠ -1 ∧ W.to ≤ t
  · rw [if_neg (by simp; omega)]
    refine .inr ⟨rfl, fun u a b => ?_⟩
    rw [holdsB_after hto.1 (by omega), holdsB_after hto.1 (by omega)]
  by_cases hte : W.to ≠ -1 ∧ W.to ≤ e - 1
  · have h1 := h W.to (by omega) hte.2 (by omega)
    rw [holdsB_after hte.1 (Int.le_refl _)] at h1
    rw [← h1, Bool.and_false, if_neg (by decide)]
    refine .inr ⟨rfl, fun u a b => ?_⟩
    by_cases g : u ≤ e - 1
    · exact h u a g b
    · rw [holdsB_after hte.1 (by omega), holdsB_after hte.1 (by omega)]
  by_cases hm : 268435456 < e
  · have hto1 : W.to = -1 := by omega
    rw [if_neg (by rw [hto1]; simp; omega)]
    exact .inr ⟨rfl, fun u a b => h u a (by unfold maxT at b; omega) b⟩
  have he' : t + 21600 < e := by omega
  have hc := const_of (H := holdsB W z) (t := t + 1) (r := e) (fun u a b => h u (by omega) (by omega) (by omega))
  have hp : ∀ u, t + 1 ≤ u → u < t + 1 + 20160 → patB W z u = holdsB W z (t + 1) := fun u a b => by
    rw [← hc u a (by omega)]
    exact (holdsB_in hW hz (by omega) (by omega) (by omega) (by omega)).symm
  have hall := pat_calm (by omega) hp
  have hin : ∀ u, t + 1 ≤ u → u ≤ 268435456 → (W.to = -1 ∨ u < W.to) → holdsB W z u = holdsB W z (t + 1) := fun u a b c => by
    rw [holdsB_in hW hz (by omega) b (by omega) c]; exact hall u
  have h1 := h (t + 1) (by omega) (by omega) (by omega)
  rw [show t + 1 - 1 = t by omega] at h1
  by_cases hto1 : W.to = -1
  · rw [if_neg (by rw [hto1]; simp; omega)]
    refine .inr ⟨rfl, fun u a b => ?_⟩
    unfold maxT at b
    by_cases g : u = t + 1
    · rw [g, h1, show t + 1 - 1 = t by omega]
    · rw [hin u (by omega) b (.inl hto1), hin (u - 1) (by omega) (by omega) (.inl hto1)]
  · have hl := hin (W.to - 1) (by omega) (by omega) (.inr (by omega))
    have hte0 := holdsB_after (z := z) hto1 (Int.le_refl W.to)
    have hs : ∀ u, t < u → u < W.to → holdsB W z u = holdsB W z (u - 1) := fun u a b => by
      by_cases g : u = t + 1
      · rw [g, h1, show t + 1 - 1 = t by omega]
      · rw [hin u (by omega) (by omega) (.inr b), hin (u - 1) (by omega) (by omega) (.inr (by omega))]
    rw [hl]
    cases hh : holdsB W z (t + 1) with
    | true =>
      rw [if_pos (by simp; omega)]
      refine .inl ⟨by omega, by unfold maxT; omega, ?_, hs⟩
      rw [hte0, hl, hh]; decide
    | false =>
      rw [if_neg (by simp)]
      refine .inr ⟨rfl, fun u a b => ?_⟩
      rcases Int.lt_trichotomy u W.to with c | c | c
      · exact hs u a c
      · rw [c, hte0, hl, hh]
      · rw [holdsB_after hto1 (by omega), holdsB_after hto1 (by omega)]

/-- the spans of a window from t on, up to b: what both programs collect; none: more than 512 -/
noncomputable def toF (H : Int → Bool) (b t : Int) : Int := if nextF H t < 0 ∨ b < nextF H t then b else nextF H t
theorem toF_rng {H : Int → Bool} {b t : Int} (h0 : -1 ≤ t) (h : t < b) : t < toF H b t ∧ toF H b t ≤ b := by
  have := nextF_rng H h0
  unfold toF; split <;> omega
noncomputable def goS (H : Int → Bool) (b : Int) : Nat → Int → List (Int × Int) → Option (List (Int × Int))
  | 0, _, l => some l
  | n + 1, t, l => if t < b then (if H t then (if l.length = 512 then none else goS H b n (toF H b t) (l ++ [(t, toF H b t)])) else goS H b n (toF H b t) l) else some l
theorem goS_more {H : Int → Bool} {b : Int} : ∀ (n m : Nat) (t : Int) (l : List (Int × Int)), -1 ≤ t → b - t ≤ n → n ≤ m → goS H b m t l = goS H b n t l := by
  intro n
  induction n with
  | zero =>
    intro m t l h0 h1 h2
    cases m with
    | zero => rfl
    | succ m => exact if_neg (by omega)
  | succ n ih =>
    intro m t l h0 h1 h2
    obtain ⟨m, rfl⟩ : ∃ k, m = k + 1 := ⟨m - 1, by omega⟩
    rw [goS, goS]
    by_cases ht : t < b
    · have hr := toF_rng (H := H) h0 ht
      rw [if_pos ht, if_pos ht, ih m _ _ (by omega) (by omega) (by omega), ih m _ _ (by omega) (by omega) (by omega)]
    · rw [if_neg ht, if_neg ht]
/-- what is still to come -/
noncomputable def restS (H : Int → Bool) (b t : Int) (l : List (Int × Int)) : Option (List (Int × Int)) := goS H b (b - t).toNat t l
theorem restS_end {H : Int → Bool} {b t : Int} {l : List (Int × Int)} (h : b ≤ t) : restS H b t l = some l := by
  unfold restS
  rw [show (b - t).toNat = 0 by omega]; rfl
theorem restS_step {H : Int → Bool} {b t : Int} {l : List (Int × Int)} (h0 : -1 ≤ t) (h : t < b) :
    restS H b t l = if H t then (if l.length = 512 then none else restS H b (toF H b t) (l ++ [(t, toF H b t)])) else restS H b (toF H b t) l := by
  have hr := toF_rng (H := H) h0 h
  unfold restS
  obtain ⟨n, hn⟩ : ∃ n, (b - t).toNat = n + 1 := ⟨(b - t).toNat - 1, by omega⟩
  rw [hn, goS, if_pos h, goS_more (b - toF H b t).toNat n _ _ (by omega) (by omega) (by omega), goS_more (b - toF H b t).toNat n _ _ (by omega) (by omega) (by omega)]
/-- behind a step the window has turned -/
theorem toF_turn {H : Int → Bool} {b t : Int} (h0 : -1 ≤ t) (hb : toF H b t < b) : H (toF H b t) = !H t := by
  have hs := nextF_spec H h0
  unfold toF at *
  split at hb
  · omega
  · rename_i hn
    rw [if_neg hn]
    rcases hs with ⟨a, c, d, e⟩ | ⟨a, _⟩
    · have := const_of e (nextF H t - 1) (by omega) (by omega)
      rw [this] at d
      cases h1 : H (nextF H t) <;> cases h2 : H t <;> simp_all
    · omega

end Go.Proofs.YtlpjniejbblcnaaDoor
