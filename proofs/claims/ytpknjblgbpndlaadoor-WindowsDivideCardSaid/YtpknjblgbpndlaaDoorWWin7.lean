/-
  Walks: the days of a span, an iterator.
-/
import Derived.Test.YtpknjblgbpndlaaDoorWWin6
import Derived.Test.YtpknjblgbpndlaaDoorRound
import Derived.Shelf.Abstract
import Derived.Shelf.RegionOpen
import Derived.OwnWalkIn
import Derived.TacticsInMore
import Derived.LoopNIn
import Derived.LoopIn
namespace Go.Proofs.YtpknjblgbpndlaaDoor
open Go.RowKit Go.Lib Go.Maps
attribute [local go_sem] Oper.semAt_some
set_option linter.unusedVariables false

/-- the day number k from a on; how many begin before b -/
def dayAt (a : Int) (k : Nat) : Int := a + 1440 * ((min k 200000 : Nat) : Int)
def cntD (a b : Int) : Nat := ((b - a + 1439) / 1440).toNat
theorem cntD_lt {a b : Int} {k : Nat} : k < cntD a b ↔ a + 1440 * (k : Int) < b := by unfold cntD; omega
theorem dayAt_eq {a : Int} {k : Nat} (h : k ≤ 200000) : dayAt a k = a + 1440 * (k : Int) := by unfold dayAt; rw [Nat.min_eq_left h]
theorem cntD_le {a b : Int} (h0 : 0 ≤ a) (h1 : b ≤ 268435457) : cntD a b ≤ 190000 := by unfold cntD; omega

set_option maxRecDepth 100000 in
set_option maxHeartbeats 1600000 in
theorem days1_in (n : Nat) (hn : 1 ≤ n) (l Bn n₀ : Nat) (f b a : Int) (ha : f - f % 1440 = a) (hf0 : 0 ≤ f) (hf1 : f ≤ 268435457) (hb0 : -1 ≤ b) (hb1 : b ≤ 268435457) (J Jx : List Nat → World → Prop)
    (hY : ∀ pre x W, J pre W → pre.length < cntD a b → YieldAt Fence.wide (n - 1) Tryd.prog l #[.int .i64 (dayAt a x)] W fun e W' =>
      (e = .returned (.bool true) ∧ J (pre ++ [x]) W' ∧ Below n₀ W W') ∨ (e = .returned (.bool false) ∧ Jx (pre ++ [x]) W'))
    (W : World) (hBn : Bn < n₀) (c0 : W.cell? ⟨Bn, 0, none⟩ = some (.int .i64 f)) (c1 : W.cell? ⟨Bn, 1, none⟩ = some (.int .i64 b)) (h0 : J [] W) :
    CallsIn Fence.wide n Tryd.prog 66 #[.func (.yield l) #[] #[], .pointer (some ⟨Bn, 0, none⟩)] W fun e W' => (∃ v, e = .returned v) ∧
      ((∃ ys, ys = List.range (cntD a b) ∧ J ys W') ∨ (∃ pre, (∃ k, k ≤ cntD a b ∧ pre = List.range k) ∧ Jx pre W')) := by
  have hcl := cntD_le (a := a) (b := b) (by omega) hb1
  have HCL := Lib.hid (fun (k : Nat) => cntD_lt (a := a) (b := b) (k := k))
  refine callsIn_of_wp Tryd.func66 rfl trivial ?_ rfl
  simp only [Tryd.ntmps66, List.size_toArray, List.length_cons, List.length_nil, Nat.reduceAdd, Nat.reduceSub, Array.replicate_succ, Array.replicate_zero, List.push_toArray, List.append_toArray, List.nil_append, List.cons_append]
  have hs1 : 0 ≤ a := by omega
  have hs2 : a ≤ 268435457 := by omega
  have HA := Lib.hid ha
  clear ha
  gi_wp2
  gi_loopw [3] (fun p wr => ∃ k : Nat, k ≤ cntD a b ∧ p = .int .i64 (a + 1440 * (k : Int)) ∧ Below n₀ W wr ∧ J (List.range k) wr) (fun p _ => cntD a b - ((intOf p - a) / 1440).toNat)
  case atStart =>
    exact ⟨0, by omega, by rw [← HA.out]; simp, Below.refl _ _, h0⟩
  case round =>
    obtain ⟨k, hk, rfl, hbw, hJs⟩ := hrel
    have hc0 := (hbw.cell (p := ⟨Bn, 0, none⟩) hBn).trans c0
    have hc1 := (hbw.cell (p := ⟨Bn, 1, none⟩) hBn).trans c1
    have hkl := HCL.out k
    by_cases hlt : k < cntD a b
    · have hlt2 := hkl.1 hlt
      have hy0 := hY (List.range k) k wr hJs (by simpa using hlt)
      rw [dayAt_eq (by omega)] at hy0
      obtain ⟨fn, tmps, assign, body, hy, hR⟩ := hy0
      clear hkl hY
      have HM : Hid (((a + 1440 * (k : Int)) - a) / 1440 = (k : Int)) := by unfold Hid; omega
      have HM2 : Hid (((a + 1440 * (k : Int) + 1440) - a) / 1440 = (k : Int) + 1) := by unfold Hid; omega
      gi_wp2
      refine hR.mono ?_
      rintro e W3 (⟨rfl, hJ3, hk3⟩ | ⟨rfl, hJx3⟩)
      · gi_wp2
        go_roundw
        case rel => exact ⟨k + 1, by omega, by go_num, hbw.trans hk3, by rw [List.range_succ]; exact hJ3⟩
        case measure => simp [intOf]; rw [HM.out, HM2.out]; omega
      · gi_wp2
        refine bodyPost_ret (results_none rfl _ _ _) rfl ?_
        exact ⟨⟨_, rfl⟩, .inr ⟨List.range (k + 1), ⟨k + 1, by omega, rfl⟩, by rw [List.range_succ]; exact hJx3⟩⟩
    · have hge : ¬ (a + 1440 * (k : Int) < b) := fun h => hlt (hkl.2 h)
      have hkk : k = cntD a b := by omega
      have HJ := Lib.hid (hkk ▸ hJs)
      clear hkl hY hkk hlt hk hJs
      gi_wp2
      go_end0
      exact ⟨⟨_, rfl⟩, .inl HJ.out⟩

end Go.Proofs.YtpknjblgbpndlaaDoor
