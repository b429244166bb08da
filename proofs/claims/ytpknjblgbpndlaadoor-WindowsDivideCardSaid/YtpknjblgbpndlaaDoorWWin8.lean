/-
  Walks: the next change of a window.
-/
import Derived.Test.YtpknjblgbpndlaaDoorWWin7
import Derived.Deep.DeepCutAuto
namespace Go.Proofs.YtpknjblgbpndlaaDoor
open Go.RowKit Go.Lib Go.Maps
attribute [local go_sem] Oper.semAt_some
set_option linter.unusedVariables false

set_option maxRecDepth 100000 in
set_option maxHeartbeats 400000 in
theorem days_any (f b : Int) (w : World) :
    Calls Tryd.prog 49 #[.agg #[.int .i64 f, .int .i64 b]] w fun e w' => e = .returned (.func (.func 66) #[] #[.pointer (some ⟨w.heap.size, 0, none⟩)]) ∧
      Below w.heap.size w w' ∧ w.heap.size < w'.heap.size ∧ w'.cell? ⟨w.heap.size, 0, none⟩ = some (.int .i64 f) ∧ w'.cell? ⟨w.heap.size, 1, none⟩ = some (.int .i64 b) := by
  go_enter Tryd.func49, Tryd.ntmps49
  go_wp2
  go_ret
  exact ⟨rfl, below_alloc (Below.refl _ _) _, by simp, by go_simp, by go_simp⟩

theorem calm_all {W : WinR} {z : ZoneR} (hW : winB W = true) (hz : zoneB z = true) (he : W.st = W.en) (hd : W.dy = 0 ∨ W.dy = 127) {u : Int} (h0 : W.fr ≤ u) (h1 : u < endT W) : NextSpec (holdsB W z) u (if holdsB W z u && decide (0 ≤ W.to) then W.to else -1) := by
  have ok := winB_iff.1 hW
  have ht := ok.t
  have f0 := ok.f0
  refine next_none hW hz h0 h1 fun v a b _ => ?_
  unfold endT at h1 b
  rw [holdsB_in hW hz (by omega) (by split at b <;> omega) (by omega) (by split at b <;> omega), holdsB_in hW hz (by omega) (by split at h1 <;> omega) (by omega) (by split at h1 <;> omega), pat_all hW z he hd, pat_all hW z he hd]

/-- no edge of these days is a change -/
def NoHitAt (H : Int → Bool) (u e : Int) (v : Int) : Prop := ¬ (u < v ∧ v < e ∧ H v ≠ H u)
def NoHit (H : Int → Bool) (u e a : Int) (L : List Int) (pre : List Nat) : Prop := ∀ k ∈ pre, ∀ m ∈ L, NoHitAt H u e (dayAt a k + m)
def Found (H : Int → Bool) (u e a : Int) (L : List Int) (pre : List Nat) (r : Int) : Prop :=
  ∃ (p0 : List Nat) (k j : Nat) (hj : j < L.length), pre = p0 ++ [k] ∧ NoHit H u e a L p0 ∧ (∀ i (hi : i < j), NoHitAt H u e (dayAt a k + L[i])) ∧ r = dayAt a k + L[j] ∧ u < r ∧ r < e ∧ H r ≠ H u
theorem nohit_all {W : WinR} {z : ZoneR} {L : List Int} (hL : EdgesOk W z L) {u e a : Int} {n : Nat} (ha : a = u + 1 - (u + 1) % 1440) (hu : 0 ≤ u) (hn : n ≤ 190000) (hcov : ∀ k : Nat, a + 1440 * (k : Int) < e → k < n)
    (h : NoHit (holdsB W z) u e a L (List.range n)) : ∀ v, u < v → v < e → edgeP W z (v % 1440) → holdsB W z v = holdsB W z u := by
  intro v h1 h2 h3
  apply Classical.byContradiction
  intro hne
  have hk := hcov ((v - a) / 1440).toNat (by omega)
  refine h _ (List.mem_range.2 hk) _ (hL.mem _ h3) ?_
  rw [dayAt_eq (by omega)]
  have e1 : a + 1440 * ((((v - a) / 1440).toNat : Nat) : Int) + v % 1440 = v := by omega
  rw [e1]
  exact ⟨h1, h2, hne⟩
theorem found_next {W : WinR} {z : ZoneR} {L : List Int} (hL : EdgesOk W z L) {u e a : Int} {n k0 : Nat} (ha : a = u + 1 - (u + 1) % 1440) (hu : 0 ≤ u) (hn : k0 ≤ n) (hn2 : n ≤ 190000) {r : Int} (h : Found (holdsB W z) u e a L (List.range k0) r) :
    u < r ∧ r < e ∧ holdsB W z r ≠ holdsB W z u ∧ ∀ v, u < v → v < r → edgeP W z (v % 1440) → holdsB W z v = holdsB W z u := by
  obtain ⟨p0, k, j, hj, hp, h1, h2, rfl, h4, h5, h6⟩ := h
  refine ⟨h4, h5, h6, fun v v1 v2 v3 => ?_⟩
  have hk0 : k0 = p0.length + 1 := by have := congrArg List.length hp; simpa using this
  rw [hk0, List.range_succ] at hp
  obtain ⟨hp0, hk⟩ := List.append_inj hp (by simp)
  simp at hk
  apply Classical.byContradiction
  intro hne
  have hm := hL.rng _ (List.getElem_mem hj)
  have hd : dayAt a k = a + 1440 * (k : Int) := dayAt_eq (by omega)
  rw [hd] at v2 h5
  have e1 : a + 1440 * ((((v - a) / 1440).toNat : Nat) : Int) + v % 1440 = v := by omega
  have hle : ((v - a) / 1440).toNat ≤ k := by omega
  rcases Nat.lt_or_eq_of_le hle with g | g
  · refine h1 ((v - a) / 1440).toNat (by rw [← hp0]; exact List.mem_range.2 (by omega)) _ (hL.mem _ v3) ?_
    rw [dayAt_eq (by omega), e1]
    exact ⟨v1, by omega, hne⟩
  · obtain ⟨i, hi, he⟩ := List.mem_iff_getElem.1 (hL.mem _ v3)
    have hij : i < j := by
      apply Classical.byContradiction
      intro hn
      rcases Nat.lt_or_eq_of_le (Nat.le_of_not_lt hn) with x | x
      · have := List.pairwise_iff_getElem.1 hL.asc j i hj hi x
        rw [g] at e1; omega
      · subst x; rw [g] at e1; omega
    refine h2 i hij ?_
    rw [hd, he]
    rw [g] at e1
    rw [e1]
    exact ⟨v1, by omega, hne⟩

theorem days_stops (n : Nat) (hn : 1 ≤ n) (Bn : Nat) (f b a : Int) (ha : f - f % 1440 = a) (hf0 : 0 ≤ f) (hf1 : f ≤ 268435457) (hb0 : -1 ≤ b) (hb1 : b ≤ 268435457) (w : World) (hBn : Bn < w.heap.size)
    (c0 : w.cell? ⟨Bn, 0, none⟩ = some (.int .i64 f)) (c1 : w.cell? ⟨Bn, 1, none⟩ = some (.int .i64 b)) :
    SeqStopsK Fence.wide n Tryd.prog 66 #[.pointer (some ⟨Bn, 0, none⟩)] (fun k : Nat => #[.int .i64 (dayAt a k)]) (Below w.heap.size) (fun xs => xs = List.range (cntD a b)) (fun pre => ∃ k, k ≤ cntD a b ∧ pre = List.range k) (cntD a b) w :=
  fun l J Jx W hW hJ hJx hY h0 => days1_in n hn l Bn w.heap.size f b a ha hf0 hf1 hb0 hb1 J Jx hY W hBn ((hW.cell (p := ⟨Bn, 0, none⟩) hBn).trans c0) ((hW.cell (p := ⟨Bn, 1, none⟩) hBn).trans c1) h0

/-- a window, a zone, a time, a result and an end in memory -/
structure NextMem (w : World) (W : WinR) (z : ZoneR) (t e : Int) (wx : World) : Prop where
  sz : w.heap.size + 1 + 1 + 1 + 1 < wx.heap.size
  bw : Below w.heap.size w wx
  c0 : wx.cell? ⟨w.heap.size, 0, none⟩ = some (.int .i64 W.dy)
  c1 : wx.cell? ⟨w.heap.size, 1, none⟩ = some (.int .i64 W.st)
  c2 : wx.cell? ⟨w.heap.size, 2, none⟩ = some (.int .i64 W.en)
  c3 : wx.cell? ⟨w.heap.size, 3, none⟩ = some (.int .i64 W.fr)
  c4 : wx.cell? ⟨w.heap.size, 4, none⟩ = some (.int .i64 W.to)
  z0 : wx.cell? ⟨w.heap.size + 1, 0, none⟩ = some (.int .i64 z.off)
  z1 : wx.cell? ⟨w.heap.size + 1, 1, none⟩ = some (.bool z.sum)
  ct : wx.cell? ⟨w.heap.size + 1 + 1, 0, none⟩ = some (.int .i64 t)
  ft : wx.frozen? ⟨w.heap.size + 1 + 1, 0, none⟩ = false
  cr : wx.cell? ⟨w.heap.size + 1 + 1 + 1, 0, none⟩ = some (.int .i64 0)
  fr : wx.frozen? ⟨w.heap.size + 1 + 1 + 1, 0, none⟩ = false
  ce : wx.cell? ⟨w.heap.size + 1 + 1 + 1 + 1, 0, none⟩ = some (.int .i64 e)

theorem NextMem.below {w : World} {W : WinR} {z : ZoneR} {t e : Int} {wx wy : World} (h : NextMem w W z t e wx) (hb : Below wx.heap.size wx wy) : NextMem w W z t e wy := by
  obtain ⟨sz, bw, c0, c1, c2, c3, c4, z0, z1, ct, ft, cr, fr, ce⟩ := h
  refine ⟨Nat.lt_of_lt_of_le sz hb.size, below_step bw hb, ?_, ?_, ?_, ?_, ?_, ?_, ?_, ?_, ?_, ?_, ?_, ?_⟩
  all_goals first
    | (rw [(bcell hb).1 _ _ (by omega)]; assumption)
    | (rw [(bcell hb).2 _ _ (by omega)]; assumption)
theorem NextMem.setT {w : World} {W : WinR} {z : ZoneR} {t e u : Int} {wx : World} (h : NextMem w W z t e wx) : NextMem w W z u e (wx.setCell ⟨w.heap.size + 1 + 1, 0, none⟩ (.int .i64 u)) := by
  obtain ⟨sz, bw, c0, c1, c2, c3, c4, z0, z1, ct, ft, cr, fr, ce⟩ := h
  have far := fun (b o : Nat) (hb : b ≠ w.heap.size + 1 + 1) => World.cell?_setCell_other wx ⟨w.heap.size + 1 + 1, 0, none⟩ ⟨b, o, none⟩ (.int .i64 u) (by intro x; injection x; omega)
  refine ⟨by simpa [World.setCell] using sz, below_set bw (by simp; omega) _, ?_, ?_, ?_, ?_, ?_, ?_, ?_, ?_, ?_, ?_, ?_, ?_⟩
  all_goals first
    | (rw [far _ _ (by omega)]; assumption)
    | (rw [World.frozen?_setCell]; assumption)
    | (rw [World.cell?_setCell_same _ _ _ ct])

end Go.Proofs.YtpknjblgbpndlaaDoor
