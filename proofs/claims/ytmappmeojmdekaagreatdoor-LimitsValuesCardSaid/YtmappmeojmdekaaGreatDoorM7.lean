/-
  Walks: Holds of package window.
  Walks: the edges of a window.
  Regions that draw their order, in a round of a range over a function: what serves outside of a round serves there. No program is named here.
  Walks: the days of a span, an iterator.
  Walks: the next change of a window.
  Walks: the next change of a window: the walk.
-/
import Derived.Test.YtmappmeojmdekaaGreatDoorM6
import Derived.Test.YtmappmeojmdekaaGreatDoorM4
import Derived.Test.YtmappmeojmdekaaGreatDoorM5
import Derived.Test.YtmappmeojmdekaaGreatDoorM3
import Derived.Outline
import Derived.RangeFuncNested
import Derived.RangeFuncBound
import Derived.RangeFuncCalls
import Derived.RangeFuncLeaves
import Derived.OrdersIn
import Derived.Shelf.Abstract
import Derived.Shelf.RegionOpen
import Derived.OwnWalkIn
import Derived.TacticsInMore
import Derived.LoopNIn
import Derived.LoopIn
import Derived.Deep.DeepCutAuto

namespace Go.Proofs.YtmappmeojmdekaaGreatDoor
open Go.RowKit Go.Lib
set_option linter.unusedVariables false

/-- a valid window holds .. -/
theorem holds_any (W : WinR) (z : ZoneR) (t : Int) (w : World) (hv : LenV w) (hW : winB W = true) :
    Calls Tryz.prog 88 #[.agg #[.int .i64 W.dy, .int .i64 W.st, .int .i64 W.en, .int .i64 W.fr, .int .i64 W.to], .agg #[.int .i64 z.off, .bool z.sum], .int .i64 t] w
      fun e w' => e = .returned (.bool (holdsB W z t)) ∧ Below w.heap.size w w' := by
  cases hi : inB W t with
  | false => exact holds_out W z t w hW hi
  | true =>
    cases hz : zoneB z with
    | false => exact holds_bad W z t w hW hi (.inl hz)
    | true =>
      cases ht : timeB t with
      | false => exact holds_bad W z t w hW hi (.inr ⟨hz, ht⟩)
      | true =>
        by_cases hle : W.st ≤ W.en
        · exact holds_in W z t w hv hW hi hz ht hle
        · exact holds_night W z t w hv hW hi hz ht (by omega)

theorem holdsB_no {W : WinR} {z : ZoneR} {t : Int} (h : winB W = false) : holdsB W z t = false := by
  unfold holdsB; rw [h]; simp

set_option maxRecDepth 100000 in
set_option maxHeartbeats 1600000 in
theorem holdsT_any (W : WinR) (z : ZoneR) (t : Int) (w : World) (hv : LenV w) :
    Calls Tryz.prog 73 #[.agg #[.int .i64 W.dy, .int .i64 W.st, .int .i64 W.en, .int .i64 W.fr, .int .i64 W.to], .agg #[.int .i64 z.off, .bool z.sum], .int .i64 t] w
      fun e w' => e = .returned (.bool (holdsB W z t)) ∧ Below w.heap.size w w' := by
  have hbw := Below.refl w.heap.size w
  have HV := Lib.hid hv
  cases hW : winB W with
  | false =>
    have HE := Lib.hid (winE_false hW)
    have HN := Lib.hid (holdsB_no (z := z) (t := t) hW)
    clear hW hv
    go_enter Tryz.func73, Tryz.ntmps73
    go_wp2_with (go_at_call 46; refine (winValid_any W _).mono ?_; rintro e w' ⟨rfl, hb⟩; obtain ⟨hc, hf⟩ := bcell hb; have hz := hb.size; (try simp only [World.size_alloc, Nat.add_one_le_iff] at hz); (try (have hz0 : w.heap.size < w'.heap.size := by omega)); (try (have hz1 : w.heap.size + 1 < w'.heap.size := by omega)); (try (have hz2 : w.heap.size < w'.heap.size := by omega)); replace hbw := below_step (w := w) (by repeat (first | exact hbw | refine below_alloc ?_ _ | refine below_drew ?_ | refine below_drewN ?_ _ | (refine below_set ?_ ?_ _; rotate_left; (first | exact Nat.le_refl _ | (simp only [World.size_alloc]; omega) | omega)))) hb; clear hb; rw [HE.out])
    go_ret
    exact ⟨ret_bool HN.out.symm, by repeat (first | exact hbw | refine below_alloc ?_ _ | refine below_drewN ?_ _)⟩
  | true =>
    have HE := Lib.hid (winE_true hW)
    have HW := Lib.hid hW
    clear hW hv
    go_enter Tryz.func73, Tryz.ntmps73
    go_wp2_with (first | (go_at_call 46; refine (winValid_any W _).mono ?_; rintro e w' ⟨rfl, hb⟩; obtain ⟨hc, hf⟩ := bcell hb; have hz := hb.size; (try simp only [World.size_alloc, Nat.add_one_le_iff] at hz); (try (have hz0 : w.heap.size < w'.heap.size := by omega)); (try (have hz1 : w.heap.size + 1 < w'.heap.size := by omega)); (try (have hz2 : w.heap.size < w'.heap.size := by omega)); replace hbw := below_step (w := w) (by repeat (first | exact hbw | refine below_alloc ?_ _ | refine below_drew ?_ | refine below_drewN ?_ _ | (refine below_set ?_ ?_ _; rotate_left; (first | exact Nat.le_refl _ | (simp only [World.size_alloc]; omega) | omega)))) hb; clear hb; rw [HE.out]) | (go_at_call 88; refine (holds_any W z t _ (HV.out.below (by repeat (first | exact hbw | refine below_alloc ?_ _ | refine below_drew ?_ | refine below_drewN ?_ _))) HW.out).mono ?_; rintro e w' ⟨rfl, hb⟩; obtain ⟨hc, hf⟩ := bcell hb; have hz := hb.size; (try simp only [World.size_alloc, Nat.add_one_le_iff] at hz); (try (have hz0 : w.heap.size < w'.heap.size := by omega)); (try (have hz1 : w.heap.size + 1 < w'.heap.size := by omega)); (try (have hz2 : w.heap.size < w'.heap.size := by omega)); replace hbw := below_step (w := w) (by repeat (first | exact hbw | refine below_alloc ?_ _ | refine below_drew ?_ | refine below_drewN ?_ _ | (refine below_set ?_ ?_ _; rotate_left; (first | exact Nat.le_refl _ | (simp only [World.size_alloc]; omega) | omega)))) hb; clear hb))
    go_ret
    exact ⟨rfl, by repeat (first | exact hbw | refine below_alloc ?_ _ | refine below_drewN ?_ _)⟩

end Go.Proofs.YtmappmeojmdekaaGreatDoor

namespace Go.Proofs.YtmappmeojmdekaaGreatDoor
open Go.RowKit Go.Lib Go.Maps
set_option linter.unusedVariables false

theorem rawK_succ {W : WinR} {z : ZoneR} {k : Nat} (h : k < 3) : rawK W z (k + 1) = rawK W z k ++ roundL z.off z.sum ((minL W)[k]'(by simpa [minL] using h)) := by
  unfold rawK
  rw [List.take_succ_eq_append_getElem (by simpa [minL] using h), List.flatMap_append]
  simp
theorem rawK_len (W : WinR) (z : ZoneR) (k : Nat) : (rawK W z k).length ≤ 6 := by
  unfold rawK minL
  match k with
  | 0 => simp
  | 1 => cases hs : z.sum <;> simp [roundL_eq]
  | 2 => cases hs : z.sum <;> simp [roundL_eq]
  | k + 3 => cases hs : z.sum <;> simp [roundL_eq]

set_option maxRecDepth 100000 in
set_option maxHeartbeats 6400000 in
theorem edges_any (W : WinR) (z : ZoneR) (w : World) (hW : winB W = true) (hz : zoneB z = true) :
    Calls Tryz.prog 153 #[.agg #[.int .i64 W.dy, .int .i64 W.st, .int .i64 W.en, .int .i64 W.fr, .int .i64 W.to], .agg #[.int .i64 z.off, .bool z.sum]] w
      fun e w' => ∃ v, e = .returned v ∧ IsSl w' 1 v ((edgesL W z).map encZ) ∧ Below w.heap.size w w' := by
  obtain ⟨d0, d1, s0, s1, e0, e1, f0, f1, ht2⟩ := winB_iff.1 hW
  obtain ⟨z0, z1⟩ := zoneB_iff.1 hz
  clear hW hz ht2
  have HR := Lib.hid (fun (k : Nat) (h : k < 3) => rawK_succ (W := W) (z := z) h)
  have HRL := Lib.hid (rawK_len W z)
  have HEL : Hid (∀ s, (edgesR W ⟨z.off, s⟩).length ≤ 7) := fun s => by have := rawK_len W ⟨z.off, s⟩ 3; cases s <;> simp [edgesR] <;> omega
  obtain ⟨zo, zs⟩ := z
  simp only at *
  obtain ⟨i1, hi, hz0, hz1, hz2⟩ := info_parts intInfo
  obtain ⟨W0, hW0, hb0, hg0, hg1, hx0, hy0⟩ := box2 w #[.int .i64 W.dy, .int .i64 W.st, .int .i64 W.en, .int .i64 W.fr, .int .i64 W.to] 66 #[.int .i64 zo, .bool zs] 27
  have x0 : ∀ w, (Instr.index 187 (.agg #[.int .i64 0, .int .i64 W.st, .int .i64 W.en]) (.int .i64 0)).run Tryz.prog w = .ok (.int .i64 0) w := fun _ => by kernel_rfl
  have x1 : ∀ w, (Instr.index 187 (.agg #[.int .i64 0, .int .i64 W.st, .int .i64 W.en]) (.int .i64 1)).run Tryz.prog w = .ok (.int .i64 W.st) w := fun _ => by kernel_rfl
  have x2 : ∀ w, (Instr.index 187 (.agg #[.int .i64 0, .int .i64 W.st, .int .i64 W.en]) (.int .i64 2)).run Tryz.prog w = .ok (.int .i64 W.en) w := fun _ => by kernel_rfl
  go_enter Tryz.func153, Tryz.ntmps153
  go_wp2_with fail
  rw [← hW0]
  clear hW0
  go_loopw [5, 14] (fun v i wr => ∃ k : Nat, k ≤ 3 ∧ i = .int .i64 k ∧ Below W0.heap.size W0 wr ∧ wr.ownsRow W0.heap.size 3 1 v (rawK W ⟨zo, zs⟩ k).length ((rawK W ⟨zo, zs⟩ k).flatMap encZ)) (fun _ i _ => 3 - (intOf i).toNat)
  case atStart => exact ⟨0, by omega, rfl, Below.refl _ _, World.ownsRow_nil _ _ _ _⟩
  case round =>
    obtain ⟨k, hk, rfl, hbw, hown⟩ := hrel
    obtain ⟨hc, hf⟩ := bcell hbw
    have hlen := HRL.out k
    by_cases hlt : k < 3
    · have HS := Lib.hid (HR.out k hlt)
      obtain ⟨k', hk'⟩ : ∃ k', k' = k + 1 := ⟨_, rfl⟩
      rw [← hk'] at HS
      have hk3 : k' ≤ 3 := by omega
      have HK := Lib.hid hk'
      clear hk'
      have hkc : k = 0 ∨ k = 1 ∨ k = 2 := by omega
      obtain ⟨t0, t0'⟩ := rem_bd (a := zo) (b := 1440) (by omega)
      obtain ⟨t1, t1'⟩ := rem_bd (a := W.st - zo) (b := 1440) (by omega)
      obtain ⟨t2, t2'⟩ := rem_bd (a := W.en - zo) (b := 1440) (by omega)
      cases zs
      · rcases hkc with rfl | rfl | rfl
        all_goals
          go_wp2_with (at_builtin; refine wpList_append_row _ _ rfl (.tmp 22) (.tmp 26) _ rfl W0.heap.size 3 i1 _ 1 8 Tryz.underlying57 hi hz0 hz1 hz2 rfl (by decide) _ _ _ rfl hown _ rfl rfl (by intro u hu; simp at hu; rcases hu with rfl; rfl) (by omega) (by omega) hbw.size ?_; intro v' w2 hown2 hgrow hblk; have hb2 := below_grown hbw hown (Nat.le_refl _) hgrow; clear hc hf hgrow hblk; obtain ⟨hc, hf⟩ := bcell hb2)
          rw [show ∀ x : Value, #[x].toList = [x] from fun _ => rfl] at hown2
          go_roundw
          case measure => simp [intOf]
          case rel => exact ⟨k', hk3, by rw [HK.out]; rfl, hb2, by rw [HS.out, List.length_append, List.flatMap_append]; simpa [roundL, encZ, minL] using hown2⟩
      · rcases hkc with rfl | rfl | rfl
        all_goals
          go_wp2_with (first | (at_builtin; refine wpList_append_row _ _ rfl (.tmp 22) (.tmp 26) _ rfl W0.heap.size 3 i1 _ 1 8 Tryz.underlying57 hi hz0 hz1 hz2 rfl (by decide) _ _ _ rfl hown _ rfl rfl (by intro u hu; simp at hu; rcases hu with rfl; rfl) (by omega) (by omega) hbw.size ?_; intro v' w2 hown2 hgrow hblk; have hb2 := below_grown hbw hown (Nat.le_refl _) hgrow; clear hc hf hgrow hblk; obtain ⟨hc, hf⟩ := bcell hb2) | (at_builtin; refine wpList_append_row _ _ rfl (.tmp 30) (.tmp 35) _ rfl W0.heap.size 3 i1 _ 1 8 Tryz.underlying57 hi hz0 hz1 hz2 rfl (by decide) _ _ _ rfl hown2 _ rfl rfl (by intro u hu; simp at hu; rcases hu with rfl; rfl) (by omega) (by omega) hb2.size ?_; intro v3 w3 hown3 hgrow hblk; have hb3 := below_grown hb2 hown2 (Nat.le_refl _) hgrow; clear hc hf hgrow hblk; obtain ⟨hc, hf⟩ := bcell hb3))
          rw [show ∀ x : Value, #[x].toList = [x] from fun _ => rfl] at hown3
          go_roundw
          case measure => simp [intOf]
          case rel => exact ⟨k', hk3, by rw [HK.out]; rfl, hb3, by rw [HS.out, List.length_append, List.flatMap_append]; simpa [roundL, encZ, minL] using hown3⟩
    · obtain rfl : k = 3 := by omega
      clear hk hlt HR x0 x1 x2
      have HL : Hid (∀ s, (edgesR W ⟨zo, s⟩).length ≤ 7) := HEL
      cases zs
      · have hE : edgesR W ⟨zo, false⟩ = rawK W ⟨zo, false⟩ 3 := by simp [edgesR]
        rw [← hE] at hown hlen
        have hpos : 0 < (edgesR W ⟨zo, false⟩).length := by rw [hE]; simp [rawK, minL, roundL]
        obtain ⟨g, cap, rfl, hg1, hg2, hcap, hcap2, hcl⟩ := own_split hown hpos
        clear hcl hE
        go_wp2_with (first | (go_at_call 75; refine (sort_own hbw hown (by omega)).mono ?_; rintro e w2 ⟨rfl, hown2, hb2⟩) | (go_at_call 76; refine (compact_own hb2 hown2 (by omega)).mono ?_; rintro e w3 ⟨rfl, hown3, hb3⟩))
        go_ret
        exact ⟨_, rfl, IsSl.of_own encZ_len hown3 rfl, below_step hb0 hb3⟩
      · have hE : Hid (edgesR W ⟨zo, true⟩ = rawK W ⟨zo, true⟩ 3 ++ [60]) := by simp [Hid, edgesR]
        have hEl : Hid ((edgesR W ⟨zo, true⟩).length = (rawK W ⟨zo, true⟩ 3).length + 1) := by rw [Hid, hE.out]; simp
        go_wp2_with (first | (at_builtin; refine wpList_append_row _ _ rfl (.tmp 40) (.tmp 41) _ rfl W0.heap.size 3 i1 _ 1 8 Tryz.underlying57 hi hz0 hz1 hz2 rfl (by decide) _ _ _ rfl hown _ rfl rfl (by intro u hu; simp at hu; rcases hu with rfl; rfl) (by omega) (by omega) hbw.size ?_; intro v1 w1 hown1 hgrow hblk; have hb1 := below_grown hbw hown (Nat.le_refl _) hgrow; clear hc hf hgrow hblk; obtain ⟨hc, hf⟩ := bcell hb1; rw [show (rawK W ⟨zo, true⟩ 3).flatMap encZ ++ #[Value.int .i64 60].toList = (edgesR W ⟨zo, true⟩).flatMap encZ by rw [hE.out, List.flatMap_append]; rfl] at hown1; obtain ⟨g, cap, rfl, hg1, hg2, hcap, hcap2, hcl⟩ := own_split hown1 (by omega); clear hcl) | (go_at_call 75; refine (sort_own hb1 hown1 (by omega)).mono ?_; rintro e w2 ⟨rfl, hown2, hb2⟩) | (go_at_call 76; refine (compact_own hb2 hown2 (by omega)).mono ?_; rintro e w3 ⟨rfl, hown3, hb3⟩))
        go_ret
        exact ⟨_, rfl, IsSl.of_own encZ_len hown3 rfl, below_step hb0 hb3⟩

end Go.Proofs.YtmappmeojmdekaaGreatDoor

namespace Go.Proofs.YtmappmeojmdekaaGreatDoor
open Go.RowKit
set_option linter.unusedVariables false

section
variable {P : Program} {l n : Nat}
theorem rowsIn_round {row : String} {args : Array Value} {w : World} {R : Value → World → Prop} (h : Rows P row args w R) : RowsIn (Fence.wide.inRound l) n P row args w R := fun c cs _ =>
  let ⟨v, w', r, s⟩ := h c cs
  ⟨v, w', r, (show StepsIn (Machine.fenced P Fence.wide) P _ _ from stepsIn_wide.2 s)⟩
theorem operIn_round {o : Oper} {a : Act} {w : World} {K : Act → World → Prop} {Q : Exit → Act → World → Prop} (hd : ∀ c, o.op ≠ .defer c) (h : o.wp P a w K Q) : o.wpIn (Fence.wide.inRound l) n P a w K Q := by
  unfold Oper.wp at h
  unfold Oper.wpIn
  refine ⟨fun _ _ => trivial, ?_⟩
  rw [show o.semAt (Fence.wide.inRound l).round a.eval = execOp a.eval o from Oper.semAt_some l _ o hd]
  generalize (execOp a.eval o).run P w = r at *
  cases r with
  | ok x w' =>
    cases x <;> simp only [Oper.upon, Oper.uponIn] at h ⊢ <;>
      first
        | exact h
        | exact ⟨fun c => by simp [Fence.wide] at c, callsIn_wide.2 h⟩
        | exact ⟨fun c => by simp [Fence.wide] at c, rowsIn_round h⟩
  | halt x w' => cases x <;> simp only [Oper.upon, Oper.uponIn] at h ⊢ <;> exact h
theorem anyIn_round {md : Region.Mode} {ops : Array Oper} {Q : Exit → Act → World → Prop} (hd : ∀ (j : Nat) o, ops[j]? = some o → ∀ c, o.op ≠ .defer c) (hq : ¬ LetsOut Q) :
    ∀ (fuel : Nat) (listed : Array Bool) (a : Act) (w : World), wpAny P md ops Q fuel listed a w → wpAnyIn (Fence.wide.inRound l) n P md ops Q fuel listed a w := by
  intro fuel
  induction fuel with
  | zero => exact fun listed a w h => h
  | succ fuel ih =>
    intro listed a w h
    refine ⟨h.1, fun i hi => ?_⟩
    have h2 := h.2 i hi
    unfold wpOp at h2
    unfold wpOpIn
    split
    · rename_i hn
      simp only [hn] at h2
      exact ih _ _ _ h2
    · rename_i o ho
      simp only [ho] at h2
      split
      · rename_i hw
        simp only [hw, if_true] at h2
        rcases h2 with h2 | h2
        · exact Oper.wpIn_mono (fun a w => ih _ a w) (operIn_round (hd i o ho) h2)
        · exact absurd h2.2 hq
      · rename_i hw
        simp only [hw] at h2
        exact ⟨fun _ _ => trivial, ih _ _ _ h2⟩
def noDefer (l : List Oper) : Bool := l.all fun o => match o.op with | .defer _ => false | _ => true
theorem noDefer_spec {ops : List Oper} (h : noDefer ops = true) : ∀ (j : Nat) o, ops.toArray[j]? = some o → ∀ c, o.op ≠ .defer c := fun j o ho c e => by
  have hm : o ∈ ops := List.mem_of_getElem? (by simpa using ho)
  have := List.all_eq_true.1 h o hm
  rw [e] at this
  cases this
/-- as wp_region_kept, in a round -/
theorem wpIn_region_kept {id : Nat} {Q : Exit → Act → World → Prop} {a : Act} (W : World) {w : World} {ops : List Oper} (hq : ¬ LetsOut Q) (hd : noDefer ops = true) (hm : P.follows .mixedOrders = true) (hB : Region.lexB .any ops.toArray = true) (hK : Below W.heap.size W w)
    (h : wpQuiet P ops.toArray (fun w' => ∃ x : KeptOf W, w' = after x) (fun a' => ∀ w', (∃ x : KeptOf W, w' = after x) → Q .normal a' w') ops a) : (Code.region id ops.toArray true).wpIn (Fence.wide.inRound l) n P Q a w := by
  have hC : ∃ x : KeptOf W, { w with drawn := w.drawn + 1 } = after x := ⟨⟨_, (Kept.of hK).drew⟩, rfl⟩
  simp only [Region.lexB, Bool.and_eq_true] at hB
  refine wpIn_region_any hm (anyIn_round (noDefer_spec hd) hq _ _ _ _ (wpAny_of_quiet (Q := fun a' => ∀ w', (∃ x : KeptOf W, w' = after x) → Q .normal a' w') (fun _ w' hw' h => h w' hw') _ _ _ _ hC ?_))
  have := wpAnyQ_lex (C := fun w' => ∃ x : KeptOf W, w' = after x) (md := .any) hB.1 ops.toArray.toList 0 (Array.replicate ops.toArray.size false) a (by simp) (by simpa using hB.2) (by simpa using h)
  simpa using this
end

end Go.Proofs.YtmappmeojmdekaaGreatDoor

namespace Go.Proofs.YtmappmeojmdekaaGreatDoor
open Go.RowKit Go.Lib Go.Maps
attribute [local go_sem] Oper.semAt_some
set_option linter.unusedVariables false

/-- the day number k from a on; how many begin before b -/
def dayAt (a : Int) (k : Nat) : Int := a + 1440 * ((min k 200000 : Nat) : Int)
def cntD (a b : Int) : Nat := ((b - a + 1439) / 1440).toNat
theorem cntD_lt {a b : Int} {k : Nat} : k < cntD a b ↔ a + 1440 * (k : Int) < b := by unfold cntD; omega
theorem dayAt_eq {a : Int} {k : Nat} (h : k ≤ 200000) : dayAt a k = a + 1440 * (k : Int) := by unfold dayAt; rw [Nat.min_eq_left h]
theorem cntD_le {a b : Int} (h0 : 0 ≤ a) (h1 : b ≤ 268435457) : cntD a b ≤ 190000 := by unfold cntD; omega

set_option maxRecDepth 100000 in
set_option maxHeartbeats 1600000 in
theorem days1_in (n : Nat) (hn : 1 ≤ n) (l Bn n₀ : Nat) (f b a : Int) (ha : f - f % 1440 = a) (hf0 : 0 ≤ f) (hf1 : f ≤ 268435457) (hb0 : -1 ≤ b) (hb1 : b ≤ 268435457) (J Jx : List Nat → World → Prop)
    (hY : ∀ pre x W, J pre W → pre.length < cntD a b → YieldAt Fence.wide (n - 1) Tryz.prog l #[.int .i64 (dayAt a x)] W fun e W' =>
      (e = .returned (.bool true) ∧ J (pre ++ [x]) W' ∧ Below n₀ W W') ∨ (e = .returned (.bool false) ∧ Jx (pre ++ [x]) W'))
    (W : World) (hBn : Bn < n₀) (c0 : W.cell? ⟨Bn, 0, none⟩ = some (.int .i64 f)) (c1 : W.cell? ⟨Bn, 1, none⟩ = some (.int .i64 b)) (h0 : J [] W) :
    CallsIn Fence.wide n Tryz.prog 158 #[.func (.yield l) #[] #[], .pointer (some ⟨Bn, 0, none⟩)] W fun e W' => (∃ v, e = .returned v) ∧
      ((∃ ys, ys = List.range (cntD a b) ∧ J ys W') ∨ (∃ pre, (∃ k, k ≤ cntD a b ∧ pre = List.range k) ∧ Jx pre W')) := by
  have hcl := cntD_le (a := a) (b := b) (by omega) hb1
  have HCL := Lib.hid (fun (k : Nat) => cntD_lt (a := a) (b := b) (k := k))
  refine callsIn_of_wp Tryz.func158 rfl trivial ?_ rfl
  simp only [Tryz.ntmps158, List.size_toArray, List.length_cons, List.length_nil, Nat.reduceAdd, Nat.reduceSub, Array.replicate_succ, Array.replicate_zero, List.push_toArray, List.append_toArray, List.nil_append, List.cons_append]
  have hs1 : 0 ≤ a := by omega
  have hs2 : a ≤ 268435457 := by omega
  have HA := Lib.hid ha
  clear ha
  gi_wp2
  gi_loopw [3] (fun p wr => ∃ k : Nat, k ≤ cntD a b ∧ p = .int .i64 (a + 1440 * (k : Int)) ∧ Below n₀ W wr ∧ J (List.range k) wr) (fun p _ => cntD a b - ((intOf p - a) / 1440).toNat)
  case atStart =>
    exact ⟨0, by omega, by rw [← HA.out]; simp, Below.refl _ _, h0⟩
  case round =>
    obtain ⟨k, hk, rfl, hbw, hJs⟩ := hrel
    have hc0 := (hbw.cell (p := ⟨Bn, 0, none⟩) hBn).trans c0
    have hc1 := (hbw.cell (p := ⟨Bn, 1, none⟩) hBn).trans c1
    have hkl := HCL.out k
    by_cases hlt : k < cntD a b
    · have hlt2 := hkl.1 hlt
      have hy0 := hY (List.range k) k wr hJs (by simpa using hlt)
      rw [dayAt_eq (by omega)] at hy0
      obtain ⟨fn, tmps, assign, body, hy, hR⟩ := hy0
      clear hkl hY
      have HM : Hid (((a + 1440 * (k : Int)) - a) / 1440 = (k : Int)) := by unfold Hid; omega
      have HM2 : Hid (((a + 1440 * (k : Int) + 1440) - a) / 1440 = (k : Int) + 1) := by unfold Hid; omega
      gi_wp2
      refine hR.mono ?_
      rintro e W3 (⟨rfl, hJ3, hk3⟩ | ⟨rfl, hJx3⟩)
      · gi_wp2
        go_roundw
        case rel => exact ⟨k + 1, by omega, by go_num, hbw.trans hk3, by rw [List.range_succ]; exact hJ3⟩
        case measure => simp [intOf]; rw [HM.out, HM2.out]; omega
      · gi_wp2
        refine bodyPost_ret (results_none rfl _ _ _) rfl ?_
        exact ⟨⟨_, rfl⟩, .inr ⟨List.range (k + 1), ⟨k + 1, by omega, rfl⟩, by rw [List.range_succ]; exact hJx3⟩⟩
    · have hge : ¬ (a + 1440 * (k : Int) < b) := fun h => hlt (hkl.2 h)
      have hkk : k = cntD a b := by omega
      have HJ := Lib.hid (hkk ▸ hJs)
      clear hkl hY hkk hlt hk hJs
      gi_wp2
      go_end0
      exact ⟨⟨_, rfl⟩, .inl HJ.out⟩

end Go.Proofs.YtmappmeojmdekaaGreatDoor

namespace Go.Proofs.YtmappmeojmdekaaGreatDoor
open Go.RowKit Go.Lib Go.Maps
attribute [local go_sem] Oper.semAt_some
set_option linter.unusedVariables false

set_option maxRecDepth 100000 in
set_option maxHeartbeats 400000 in
theorem days_any (f b : Int) (w : World) :
    Calls Tryz.prog 154 #[.agg #[.int .i64 f, .int .i64 b]] w fun e w' => e = .returned (.func (.func 158) #[] #[.pointer (some ⟨w.heap.size, 0, none⟩)]) ∧
      Below w.heap.size w w' ∧ w.heap.size < w'.heap.size ∧ w'.cell? ⟨w.heap.size, 0, none⟩ = some (.int .i64 f) ∧ w'.cell? ⟨w.heap.size, 1, none⟩ = some (.int .i64 b) := by
  go_enter Tryz.func154, Tryz.ntmps154
  go_wp2
  go_ret
  exact ⟨rfl, below_alloc (Below.refl _ _) _, by simp, by go_simp, by go_simp⟩

theorem calm_all {W : WinR} {z : ZoneR} (hW : winB W = true) (hz : zoneB z = true) (he : W.st = W.en) (hd : W.dy = 0 ∨ W.dy = 127) {u : Int} (h0 : W.fr ≤ u) (h1 : u < endT W) : NextSpec (holdsB W z) u (if holdsB W z u && decide (0 ≤ W.to) then W.to else -1) := by
  have ok := winB_iff.1 hW
  have ht := ok.t
  have f0 := ok.f0
  refine next_none hW hz h0 h1 fun v a b _ => ?_
  unfold endT at h1 b
  rw [holdsB_in hW hz (by omega) (by split at b <;> omega) (by omega) (by split at b <;> omega), holdsB_in hW hz (by omega) (by split at h1 <;> omega) (by omega) (by split at h1 <;> omega), pat_all hW z he hd, pat_all hW z he hd]

/-- no edge of these days is a change -/
def NoHitAt (H : Int → Bool) (u e : Int) (v : Int) : Prop := ¬ (u < v ∧ v < e ∧ H v ≠ H u)
def NoHit (H : Int → Bool) (u e a : Int) (L : List Int) (pre : List Nat) : Prop := ∀ k ∈ pre, ∀ m ∈ L, NoHitAt H u e (dayAt a k + m)
def Found (H : Int → Bool) (u e a : Int) (L : List Int) (pre : List Nat) (r : Int) : Prop :=
  ∃ (p0 : List Nat) (k j : Nat) (hj : j < L.length), pre = p0 ++ [k] ∧ NoHit H u e a L p0 ∧ (∀ i (hi : i < j), NoHitAt H u e (dayAt a k + L[i])) ∧ r = dayAt a k + L[j] ∧ u < r ∧ r < e ∧ H r ≠ H u
theorem nohit_all {W : WinR} {z : ZoneR} {L : List Int} (hL : EdgesOk W z L) {u e a : Int} {n : Nat} (ha : a = u + 1 - (u + 1) % 1440) (hu : 0 ≤ u) (hn : n ≤ 190000) (hcov : ∀ k : Nat, a + 1440 * (k : Int) < e → k < n)
    (h : NoHit (holdsB W z) u e a L (List.range n)) : ∀ v, u < v → v < e → edgeP W z (v % 1440) → holdsB W z v = holdsB W z u := by
  intro v h1 h2 h3
  apply Classical.byContradiction
  intro hne
  have hk := hcov ((v - a) / 1440).toNat (by omega)
  refine h _ (List.mem_range.2 hk) _ (hL.mem _ h3) ?_
  rw [dayAt_eq (by omega)]
  have e1 : a + 1440 * ((((v - a) / 1440).toNat : Nat) : Int) + v % 1440 = v := by omega
  rw [e1]
  exact ⟨h1, h2, hne⟩
theorem found_next {W : WinR} {z : ZoneR} {L : List Int} (hL : EdgesOk W z L) {u e a : Int} {n k0 : Nat} (ha : a = u + 1 - (u + 1) % 1440) (hu : 0 ≤ u) (hn : k0 ≤ n) (hn2 : n ≤ 190000) {r : Int} (h : Found (holdsB W z) u e a L (List.range k0) r) :
    u < r ∧ r < e ∧ holdsB W z r ≠ holdsB W z u ∧ ∀ v, u < v → v < r → edgeP W z (v % 1440) → holdsB W z v = holdsB W z u := by
  obtain ⟨p0, k, j, hj, hp, h1, h2, rfl, h4, h5, h6⟩ := h
  refine ⟨h4, h5, h6, fun v v1 v2 v3 => ?_⟩
  have hk0 : k0 = p0.length + 1 := by have := congrArg List.length hp; simpa using this
  rw [hk0, List.range_succ] at hp
  obtain ⟨hp0, hk⟩ := List.append_inj hp (by simp)
  simp at hk
  apply Classical.byContradiction
  intro hne
  have hm := hL.rng _ (List.getElem_mem hj)
  have hd : dayAt a k = a + 1440 * (k : Int) := dayAt_eq (by omega)
  rw [hd] at v2 h5
  have e1 : a + 1440 * ((((v - a) / 1440).toNat : Nat) : Int) + v % 1440 = v := by omega
  have hle : ((v - a) / 1440).toNat ≤ k := by omega
  rcases Nat.lt_or_eq_of_le hle with g | g
  · refine h1 ((v - a) / 1440).toNat (by rw [← hp0]; exact List.mem_range.2 (by omega)) _ (hL.mem _ v3) ?_
    rw [dayAt_eq (by omega), e1]
    exact ⟨v1, by omega, hne⟩
  · obtain ⟨i, hi, he⟩ := List.mem_iff_getElem.1 (hL.mem _ v3)
    have hij : i < j := by
      apply Classical.byContradiction
      intro hn
      rcases Nat.lt_or_eq_of_le (Nat.le_of_not_lt hn) with x | x
      · have := List.pairwise_iff_getElem.1 hL.asc j i hj hi x
        rw [g] at e1; omega
      · subst x; rw [g] at e1; omega
    refine h2 i hij ?_
    rw [hd, he]
    rw [g] at e1
    rw [e1]
    exact ⟨v1, by omega, hne⟩

theorem days_stops (n : Nat) (hn : 1 ≤ n) (Bn : Nat) (f b a : Int) (ha : f - f % 1440 = a) (hf0 : 0 ≤ f) (hf1 : f ≤ 268435457) (hb0 : -1 ≤ b) (hb1 : b ≤ 268435457) (w : World) (hBn : Bn < w.heap.size)
    (c0 : w.cell? ⟨Bn, 0, none⟩ = some (.int .i64 f)) (c1 : w.cell? ⟨Bn, 1, none⟩ = some (.int .i64 b)) :
    SeqStopsK Fence.wide n Tryz.prog 158 #[.pointer (some ⟨Bn, 0, none⟩)] (fun k : Nat => #[.int .i64 (dayAt a k)]) (Below w.heap.size) (fun xs => xs = List.range (cntD a b)) (fun pre => ∃ k, k ≤ cntD a b ∧ pre = List.range k) (cntD a b) w :=
  fun l J Jx W hW hJ hJx hY h0 => days1_in n hn l Bn w.heap.size f b a ha hf0 hf1 hb0 hb1 J Jx hY W hBn ((hW.cell (p := ⟨Bn, 0, none⟩) hBn).trans c0) ((hW.cell (p := ⟨Bn, 1, none⟩) hBn).trans c1) h0

/-- a window, a zone, a time, a result and an end in memory -/
structure NextMem (w : World) (W : WinR) (z : ZoneR) (t e : Int) (wx : World) : Prop where
  sz : w.heap.size + 1 + 1 + 1 + 1 < wx.heap.size
  bw : Below w.heap.size w wx
  c0 : wx.cell? ⟨w.heap.size, 0, none⟩ = some (.int .i64 W.dy)
  c1 : wx.cell? ⟨w.heap.size, 1, none⟩ = some (.int .i64 W.st)
  c2 : wx.cell? ⟨w.heap.size, 2, none⟩ = some (.int .i64 W.en)
  c3 : wx.cell? ⟨w.heap.size, 3, none⟩ = some (.int .i64 W.fr)
  c4 : wx.cell? ⟨w.heap.size, 4, none⟩ = some (.int .i64 W.to)
  z0 : wx.cell? ⟨w.heap.size + 1, 0, none⟩ = some (.int .i64 z.off)
  z1 : wx.cell? ⟨w.heap.size + 1, 1, none⟩ = some (.bool z.sum)
  ct : wx.cell? ⟨w.heap.size + 1 + 1, 0, none⟩ = some (.int .i64 t)
  ft : wx.frozen? ⟨w.heap.size + 1 + 1, 0, none⟩ = false
  cr : wx.cell? ⟨w.heap.size + 1 + 1 + 1, 0, none⟩ = some (.int .i64 0)
  fr : wx.frozen? ⟨w.heap.size + 1 + 1 + 1, 0, none⟩ = false
  ce : wx.cell? ⟨w.heap.size + 1 + 1 + 1 + 1, 0, none⟩ = some (.int .i64 e)

theorem NextMem.below {w : World} {W : WinR} {z : ZoneR} {t e : Int} {wx wy : World} (h : NextMem w W z t e wx) (hb : Below wx.heap.size wx wy) : NextMem w W z t e wy := by
  obtain ⟨sz, bw, c0, c1, c2, c3, c4, z0, z1, ct, ft, cr, fr, ce⟩ := h
  refine ⟨Nat.lt_of_lt_of_le sz hb.size, below_step bw hb, ?_, ?_, ?_, ?_, ?_, ?_, ?_, ?_, ?_, ?_, ?_, ?_⟩
  all_goals first
    | (rw [(bcell hb).1 _ _ (by omega)]; assumption)
    | (rw [(bcell hb).2 _ _ (by omega)]; assumption)
theorem NextMem.setT {w : World} {W : WinR} {z : ZoneR} {t e u : Int} {wx : World} (h : NextMem w W z t e wx) : NextMem w W z u e (wx.setCell ⟨w.heap.size + 1 + 1, 0, none⟩ (.int .i64 u)) := by
  obtain ⟨sz, bw, c0, c1, c2, c3, c4, z0, z1, ct, ft, cr, fr, ce⟩ := h
  have far := fun (b o : Nat) (hb : b ≠ w.heap.size + 1 + 1) => World.cell?_setCell_other wx ⟨w.heap.size + 1 + 1, 0, none⟩ ⟨b, o, none⟩ (.int .i64 u) (by intro x; injection x; omega)
  refine ⟨by simpa [World.setCell] using sz, below_set bw (by simp; omega) _, ?_, ?_, ?_, ?_, ?_, ?_, ?_, ?_, ?_, ?_, ?_, ?_⟩
  all_goals first
    | (rw [far _ _ (by omega)]; assumption)
    | (rw [World.frozen?_setCell]; assumption)
    | (rw [World.cell?_setCell_same _ _ _ ct])

end Go.Proofs.YtmappmeojmdekaaGreatDoor

namespace Go.Proofs.YtmappmeojmdekaaGreatDoor
open Go.RowKit Go.Lib Go.Maps
attribute [local go_sem] Oper.semAt_some
attribute [local go_sem] after_cell
set_option linter.unusedVariables false

theorem edgesL_len (W : WinR) (z : ZoneR) : (edgesL W z).length ≤ 7 := by
  have h1 := compact_len ((edgesR W z).mergeSort fun x y => decide (x ≤ y))
  rw [List.length_mergeSort] at h1
  have h2 := rawK_len W z 3
  have h3 : (edgesR W z).length ≤ (rawK W z 3).length + 1 := by unfold edgesR; rw [List.length_append]; split <;> simp
  unfold edgesL
  omega
theorem keeps_of_below {W W' : World} (h : Below W.heap.size W W') : KeepsOthers W W' := ⟨h.size, fun k o hk _ => (h.block k (Array.getElem?_eq_some_iff.1 hk).1).trans hk⟩
theorem finish_next {w W' : World} {D g : Nat} {V N : Int} {tmps : Array Value} (h6 : tmps[6]?.getD undef = .pointer (some ⟨g, 0, none⟩)) (hcell : W'.cell? ⟨g, 0, none⟩ = some (.int .i64 V))
    (hK : W'.heap[D]? = some (.deferred (some []))) (hD : w.heap.size ≤ D) (hB : Below w.heap.size w W') (hV : V = N) :
    bodyPostM Fence.wide 6 Tryz.prog Tryz.f140 (fun e w' => e = .returned (.int .i64 N) ∧ Below w.heap.size w w') .ret { tmps := tmps, defers := [{ target := .collected D, args := #[] }] } W' := by
  refine ⟨by simp, .inl ⟨_, _, rfl, run_takeDeferred hK, ?_⟩⟩
  have hc2 : (W'.putObj D (.deferred none)).cell? ⟨g, 0, none⟩ = some (.int .i64 V) := cell_kept hcell (grownBy_putObj' _ D (.deferred none)) (fun r e => by cases e; exact ⟨_, hK, rfl⟩)
  refine ⟨.int .i64 V, ?_, ret_int hV, hB.trans (belowK_b (w := w) (Nat.le_refl _) W' D _ _ hD hK rfl rfl)⟩
  have e1 : Tryz.f140.results = #[.cell 6 3] := rfl
  simp only [results, e1]
  simp [go_sem, h6, hc2]

set_option maxRecDepth 100000 in
set_option maxHeartbeats 6400000 in
theorem next_any (W : WinR) (z : ZoneR) (t : Int) (w : World) (hv : LenV w) (hW : winB W = true) (hz : zoneB z = true) (h0 : 0 ≤ t) (h1 : t ≤ 268435456) :
    Calls Tryz.prog 140 #[.agg #[.int .i64 W.dy, .int .i64 W.st, .int .i64 W.en, .int .i64 W.fr, .int .i64 W.to], .agg #[.int .i64 z.off, .bool z.sum], .int .i64 t] w
      fun e w' => e = .returned (.int .i64 (nextF (holdsB W z) t)) ∧ Below w.heap.size w w' := by
  have HE : Hid (endT W = if 0 ≤ W.to then W.to else 268435457) := rfl
  refine (callsIn_wide (n := 6)).1 ?_
  refine callsIn_of_wp_marks Tryz.func140 rfl trivial ?_ rfl
  simp only [Tryz.ntmps140, List.size_toArray, List.length_cons, List.length_nil, Nat.reduceAdd, Nat.reduceSub, Array.replicate_succ, Array.replicate_zero, List.push_toArray, List.append_toArray, List.nil_append, List.cons_append]
  refine wpIn_wide.2 ?_
  go_upto_if 16 with fail
  go_cut [] from 17 to 18 (fun wx => NextMem w W z t (endT W) wx)
  case first =>
    by_cases hto : 0 ≤ W.to
    · have he : Hid (endT W = W.to) := by rw [Hid, HE.out, if_pos hto]
      go_wp2_with fail
      go_meet
      rw [he.out]
      refine ⟨by simp, ?_, ?_, ?_, ?_, ?_, ?_, ?_, ?_, ?_, ?_, ?_, ?_, ?_⟩
      · repeat (first | exact Below.refl _ _ | refine below_set ?_ (by simp; omega) _ | refine below_alloc ?_ _ | refine below_drewN ?_ _)
      all_goals go_simp
    · have he : Hid (endT W = 268435457) := by rw [Hid, HE.out, if_neg hto]
      go_wp2_with fail
      go_meet
      rw [he.out]
      refine ⟨by simp, ?_, ?_, ?_, ?_, ?_, ?_, ?_, ?_, ?_, ?_, ?_, ?_, ?_⟩
      · repeat (first | exact Below.refl _ _ | refine below_set ?_ (by simp; omega) _ | refine below_alloc ?_ _ | refine below_drewN ?_ _)
      all_goals go_simp
  case rest =>
    obtain ⟨sz, bw, c0, c1, c2, c3, c4, z0, z1, ct, ft, cr, fr, ce⟩ := hcut
    have s0 : w.heap.size < wc.heap.size := by omega
    have s1 : w.heap.size + 1 < wc.heap.size := by omega
    have s2 : w.heap.size + 1 + 1 < wc.heap.size := by omega
    have s3 : w.heap.size + 1 + 1 + 1 < wc.heap.size := by omega
    go_upto_if 22 with fail
    go_cut [] from 22 to 32 (fun wx => NextMem w W z (if t < W.fr then W.fr else t) (endT W) wx ∧ (t < W.fr → holdsB W z W.fr = false))
    case first =>
      by_cases hlt : t < W.fr
      · have HT : Hid ((if t < W.fr then W.fr else t) = W.fr) := if_pos hlt
        have HM := Lib.hid (show NextMem w W z t (endT W) wc from ⟨sz, bw, c0, c1, c2, c3, c4, z0, z1, ct, ft, cr, fr, ce⟩)
        cases hh : holdsB W z W.fr with
        | false =>
          have HH := Lib.hid hh
          clear hh
          go_wp2_with (go_at_call 88; refine (holds_any W z W.fr _ (hv.below bw) hW).mono ?_; rintro e w1 ⟨rfl, hb1⟩; rw [HH.out]; obtain ⟨hc, hf⟩ := bcell hb1; have hz1 := hb1.size)
          go_meet
          exact ⟨by rw [HT.out]; exact (HM.out.below hb1).setT, fun _ => HH.out⟩
        | true =>
          have HH := Lib.hid hh
          clear hh
          go_wp2_with (go_at_call 88; refine (holds_any W z W.fr _ (hv.below bw) hW).mono ?_; rintro e w1 ⟨rfl, hb1⟩; rw [HH.out]; obtain ⟨hc, hf⟩ := bcell hb1; have hz1 := hb1.size)
          refine ⟨.int .i64 W.fr, by simp [results, Tryz.results140, go_sem, *], ret_int (nextF_of (next_early hW hlt HH.out)).symm, ?_⟩
          repeat (first | exact below_step bw hb1 | refine below_set ?_ (by simp; omega) _)
      · have HT : Hid ((if t < W.fr then W.fr else t) = t) := if_neg hlt
        have HM := Lib.hid (show NextMem w W z t (endT W) wc from ⟨sz, bw, c0, c1, c2, c3, c4, z0, z1, ct, ft, cr, fr, ce⟩)
        go_wp2_with fail
        go_meet
        exact ⟨by rw [HT.out]; exact HM.out, fun h => absurd h (by omega)⟩
    case rest =>
      obtain ⟨hM, hNF⟩ := hcut
      clear sz bw c0 c1 c2 c3 c4 z0 z1 ct ft cr fr ce s0 s1 s2 s3
      have ok := winB_iff.1 hW
      have hf0 := ok.f0
      have hf1 := ok.f1
      have ht1 : W.fr ≤ (if t < W.fr then W.fr else t) := by split <;> omega
      have ht2 : (if t < W.fr then W.fr else t) ≤ 268435456 := by split <;> omega
      have HN : Hid (∀ r, NextSpec (holdsB W z) (if t < W.fr then W.fr else t) r → nextF (holdsB W z) t = r) := fun r h => by
        by_cases hlt : t < W.fr
        · rw [if_pos hlt] at h
          exact nextF_of (next_from hlt (hNF hlt) h)
        · rw [if_neg hlt] at h
          exact nextF_of h
      clear hNF
      generalize (if t < W.fr then W.fr else t) = u at *
      have heb : endT W ≤ 268435457 ∧ 0 ≤ endT W := by
        have := ok.t
        unfold endT; split <;> omega
      obtain ⟨sz, bw, c0, c1, c2, c3, c4, z0, z1, ct, ft, cr, fr, ce⟩ := hM
      have s0 : w.heap.size < wc.heap.size := by omega
      have s1 : w.heap.size + 1 < wc.heap.size := by omega
      have s2 : w.heap.size + 1 + 1 < wc.heap.size := by omega
      have s3 : w.heap.size + 1 + 1 + 1 < wc.heap.size := by omega
      by_cases hlate : endT W ≤ u
      · have HX := Lib.hid (HN.out _ (next_late hW hlate ht2))
        clear ok
        go_wp2_with fail
        refine ⟨.int .i64 (-1), by simp [results, Tryz.results140, go_sem, *], ret_int HX.out.symm, ?_⟩
        repeat (first | exact bw | refine below_set ?_ (by simp; omega) _)
      · have HM := Lib.hid (show NextMem w W z u (endT W) wc from ⟨sz, bw, c0, c1, c2, c3, c4, z0, z1, ct, ft, cr, fr, ce⟩)
        have hel : u < endT W := by omega
        clear ok hlate
        go_wp2_with fail
        refine (holds_any W z u _ (hv.below bw) hW).mono ?_
        rintro e w1 ⟨rfl, hb1⟩
        clear sz bw c0 c1 c2 c3 c4 z0 z1 ct ft cr fr ce s0 s1 s2 s3
        have HM1 := Lib.hid (HM.out.below hb1)
        obtain ⟨sz, bw, c0, c1, c2, c3, c4, z0, z1, ct, ft, cr, fr, ce⟩ := HM1.out
        clear hb1 HM
        have s0 : w.heap.size < w1.heap.size := by omega
        have s1 : w.heap.size + 1 < w1.heap.size := by omega
        have s2 : w.heap.size + 1 + 1 < w1.heap.size := by omega
        have s3 : w.heap.size + 1 + 1 + 1 < w1.heap.size := by omega
        by_cases hall : W.st = W.en ∧ (W.dy = 0 ∨ W.dy = 127)
        · obtain ⟨he, hd⟩ := hall
          have HX := Lib.hid (HN.out _ (calm_all hW hz he hd ht1 hel))
          have e1 : (W.st != W.en) = false := by simp [he]
          have e2 : ((W.dy != 0) = false) ∨ ((W.dy != 0) = true ∧ (W.dy != 127) = false) := by
            rcases hd with h | h
            · exact .inl (by simp [h])
            · exact .inr ⟨by simp [h], by simp [h]⟩
          clear he hd HN
          generalize holdsB W z u = on at *
          have hto : decide (0 ≤ W.to) = true ∨ decide (0 ≤ W.to) = false := by cases decide (0 ≤ W.to) <;> simp
          rcases e2 with e2 | ⟨e2, e3⟩
          all_goals cases on
          all_goals rcases hto with hto | hto
          all_goals
            go_wp2_with fail
            first
              | refine ⟨.int .i64 W.to, by simp [results, Tryz.results140, go_sem, *], ret_int (by rw [HX.out, hto]; rfl), ?_⟩
              | refine ⟨.int .i64 (-1), by simp [results, Tryz.results140, go_sem, *], ret_int (by rw [HX.out, hto]; rfl), ?_⟩
            repeat (first | exact bw | refine below_set ?_ (by simp; omega) _ | refine below_alloc ?_ _)
        · have e0 : ((W.st != W.en) = true) ∨ ((W.st != W.en) = false ∧ (W.dy != 0) = true ∧ (W.dy != 127) = true) := by
            by_cases he : W.st = W.en
            · exact .inr ⟨by simp [he], by simp; omega, by simp; omega⟩
            · exact .inl (by simp [he])
          clear hall
          have HON : ∃ on, Hid (holdsB W z u = on) := ⟨_, rfl⟩
          obtain ⟨on, HON⟩ := HON
          rw [HON.out]
          go_upto_region 11 with fail
          go_cut [53] from 39 to 53 (fun s wx => s = .bool true ∧ wx = w1.alloc (.cells #[.bool on] 4))
          case first =>
            rcases e0 with e0 | ⟨e0, e1, e2⟩
            all_goals
              go_wp2_with fail
              go_meet
              exact ⟨rfl, rfl⟩
          case rest =>
          obtain ⟨rfl, rfl⟩ := hcut
          go_wp2_with fail
          refine (edges_any W z _ hW hz).mono ?_
          rintro e w2 ⟨v2, rfl, hv2, hb2⟩
          obtain ⟨A2, c2', rfl, hl2, hm2, hs2⟩ := hv2
          rw [List.length_map] at hl2 ⊢
          obtain ⟨hc, hf⟩ := bcell hb2
          have hz2 := hb2.size
          simp only [World.size_alloc, Nat.add_one_le_iff] at hz2
          have r0 : w.heap.size < w2.heap.size := by omega
          have r1 : w.heap.size + 1 < w2.heap.size := by omega
          have r2 : w.heap.size + 1 + 1 < w2.heap.size := by omega
          have r3 : w.heap.size + 1 + 1 + 1 < w2.heap.size := by omega
          have r4 : w.heap.size + 1 + 1 + 1 + 1 < w2.heap.size := by omega
          have q0 : w.heap.size < w1.heap.size + 1 := by omega
          have q1 : w.heap.size + 1 < w1.heap.size + 1 := by omega
          have q2 : w.heap.size + 1 + 1 < w1.heap.size + 1 := by omega
          have q3 : w.heap.size + 1 + 1 + 1 < w1.heap.size + 1 := by omega
          have q4 : w.heap.size + 1 + 1 + 1 + 1 < w1.heap.size + 1 := by omega
          go_wp2_with fail
          refine (days_any _ _ _).mono ?_
          rintro e w3 ⟨rfl, hb3, hg3, d0, d1⟩
          rw [World.size_alloc] at hg3 d0 d1
          have hb13 : Below w1.heap.size w1 w3 := below_step (below_alloc (below_step (below_alloc (Below.refl _ _) _) hb2) _) hb3
          have hbo : Below (w1.alloc (.cells #[.bool on] 4)).heap.size (w1.alloc (.cells #[.bool on] 4)) w3 := below_step (below_alloc hb2 _) hb3
          have hon : w3.cell? ⟨w1.heap.size, 0, none⟩ = some (.bool on) := (hbo.cell (p := ⟨w1.heap.size, 0, none⟩) (by simp)).trans (by simp)
          have hsl : w3.cell? ⟨w2.heap.size, 0, none⟩ = some (.slice A2 (edgesL W z).length c2') := (hb3.cell (p := ⟨w2.heap.size, 0, none⟩) (by simp)).trans (by simp)
          have HSL := Lib.hid (hs2.below (below_alloc (Below.refl _ _) _ |>.trans (hb3.mono (by simp))))
          have HM3 := Lib.hid (HM1.out.below hb13)
          have hL := edges_ok W z
          have hb3w : Below w.heap.size w w3 := HM3.out.bw
          have g0 : w.heap.size < w3.heap.size := by have := hb13.size; omega
          have g1 : w.heap.size + 1 < w3.heap.size := by have := hb13.size; omega
          have g2 : w.heap.size + 1 + 1 < w3.heap.size := by have := hb13.size; omega
          have g3 : w.heap.size + 1 + 1 + 1 < w3.heap.size := by have := hb13.size; omega
          have g4 : w.heap.size + 1 + 1 + 1 + 1 < w3.heap.size := by have := hb13.size; omega
          have g5 : w1.heap.size < w3.heap.size := by have := hbo.size; simp at this; omega
          have g6 : w2.heap.size < w3.heap.size := by have := hb3.size; simp at this; omega
          clear sz bw c0 c1 c2 c3 c4 z0 z1 ct ft cr fr ce s0 s1 s2 s3 r0 r1 r2 r3 r4 q0 q1 q2 q3 q4 hc hf hz2 hb2 hb3 hbo hs2 HM1
          obtain ⟨sz, bw, c0, c1, c2, c3, c4, z0, z1, ct, ft, cr, fr, ce⟩ := HM3.out
          clear sz bw
          go_wp2_with fail
          refine (wpIn_wide (n := 6)).1 ?_
          refine wpIn_rangeFunc_ownF (F := Fence.wide) rfl (by omega) (gf := 158) (lb := #[.pointer (some ⟨w2.heap.size + 1, 0, none⟩)]) rfl trivial (enters_of Tryz.func158 (by kernel_rfl) rfl)
            (days_stops 5 (by omega) _ (u + 1) (endT W) (u + 1 - (u + 1) % 1440) rfl (by omega) (by omega) (by omega) (by omega) w3 hg3 d0 d1) belowK_t (belowK_b (Nat.le_refl _)) (Below.refl _ _) (fun _ => rfl)
            (fun pre W' => NoHit (holdsB W z) u (endT W) (u + 1 - (u + 1) % 1440) (edgesL W z) pre ∧ Below w3.heap.size w3 W')
            (fun c pre W' => (c = .ret ∧ (∃ r, W'.cell? ⟨w.heap.size + 1 + 1 + 1, 0, none⟩ = some (.int .i64 r) ∧ Found (holdsB W z) u (endT W) (u + 1 - (u + 1) % 1440) (edgesL W z) pre r)) ∧ Below w.heap.size w W')
            (OwnFrom.and (ownFrom_pure _ _) (ownFrom_below (Nat.le_refl _) (Nat.le_refl _)))
            (fun c => OwnFrom.and (fun s A B row ⟨h1, r, h2, h3⟩ hg hr => ⟨h1, r, cell_kept h2 hg (fun r e => (hr r e).2), h3⟩) (ownFrom_below (Nat.le_refl _) hb3w.size))
            ⟨fun k hk => by simp at hk, Below.refl _ _⟩ ?a1 ?assign ?body ?done ?stop
          case assign =>
            intro l x W' K hK
            gi_wp2
            exact hK
          case body =>
            rintro l pre x W' ⟨hN, hB⟩ hlen
            have HNO := Lib.hid hN
            obtain ⟨hc, hf⟩ := bcell hB
            have HSW := Lib.hid (HSL.out.below hB)
            have hbw' : Below w.heap.size w W' := hb3w.trans (hB.mono hb3w.size)
            have HVW := Lib.hid (hv.below hbw')
            have hBz := hB.size
            have k0 : w.heap.size < W'.heap.size := by omega
            have k1 : w.heap.size + 1 < W'.heap.size := by omega
            have k2 : w.heap.size + 1 + 1 < W'.heap.size := by omega
            have k3 : w.heap.size + 1 + 1 + 1 < W'.heap.size := by omega
            have k4 : w.heap.size + 1 + 1 + 1 + 1 < W'.heap.size := by omega
            have k5 : w1.heap.size < W'.heap.size := by omega
            have k6 : w2.heap.size < W'.heap.size := by omega
            clear hN d0 d1 hlen
            generalize hA : dayAt (u + 1 - (u + 1) % 1440) x = dx at *
            have hdx0 : 0 ≤ dx ∧ dx ≤ 600000000 := by rw [← hA]; unfold dayAt; omega
            have HA := Lib.hid hA
            clear hA
            gi_wp2
            gi_loopw [65] (fun i wr => ∃ j : Nat, j ≤ (edgesL W z).length ∧ i = .int .i64 j ∧ Below W'.heap.size W' wr ∧ Hid (∀ i (hi : i < j) (hl : i < (edgesL W z).length), NoHitAt (holdsB W z) u (endT W) (dx + (edgesL W z)[i]))) (fun i _ => (edgesL W z).length - (intOf i).toNat)
            case atStart => exact ⟨0, by omega, rfl, Below.refl _ _, fun i hi => by omega⟩
            case round =>
              obtain ⟨j, hj, rfl, hbr, HJ⟩ := hrel
              by_cases hlt : j < (edgesL W z).length
              · have hji : (j : Int) < ((edgesL W z).length : Int) := by omega
                have hj9 : (j : Int) ≤ 7 := by have := edgesL_len W z; omega
                obtain ⟨hcr, hfr⟩ := bcell hbr
                obtain ⟨b, off, rfl, hbb, hcell⟩ := int_at (HSW.out.below hbr) hlt
                have hm := hL.rng _ (List.getElem_mem hlt)
                have HJ2 : Hid (NoHitAt (holdsB W z) u (endT W) (dx + (edgesL W z)[j]) → ∀ i (hi : i < j + 1) (hl : i < (edgesL W z).length), NoHitAt (holdsB W z) u (endT W) (dx + (edgesL W z)[i])) := fun h i hi hl => by
                  by_cases e : i = j
                  · subst e; exact h
                  · exact HJ.out i (by omega) hl
                have HFO : Hid (u < dx + (edgesL W z)[j] → dx + (edgesL W z)[j] < endT W → holdsB W z (dx + (edgesL W z)[j]) ≠ holdsB W z u → Found (holdsB W z) u (endT W) (u + 1 - (u + 1) % 1440) (edgesL W z) (pre ++ [x]) (dx + (edgesL W z)[j])) := fun h1 h2 h3 =>
                  ⟨pre, x, j, hlt, rfl, HNO.out, fun i hi => by rw [HA.out]; exact HJ.out i hi (by omega), by rw [HA.out], h1, h2, h3⟩
                generalize hM : (edgesL W z)[j] = m at *
                have wv : IntKind.i64.wrap (dx + m) = dx + m := IntWalk.i64_in _ (by omega)
                by_cases h1 : u < dx + m
                · by_cases h2 : dx + m < endT W
                  · by_cases h3 : holdsB W z (dx + m) = on
                    · have HJ3 := Lib.hid (HJ2.out (fun h => h.2.2 (by rw [HON.out]; exact h3)))
                      have HC3 := Lib.hid (fun (w : World) (hv : LenV w) => h3 ▸ holds_any W z (dx + m) w hv hW)
                      clear h3
                      cases on
                      all_goals
                        gi_wp2
                        refine wpIn_region_kept W' (by rintro ⟨a9, w9, h9⟩; exact h9) (by kernel_rfl) (by kernel_rfl) (by kernel_rfl) (by assumption) ?_; (repeat (go_big_quiet_step (((go_at_call 88; exact kept_call (HC3.out _ (HVW.out.below (after_kept _).2))))))); refine wpQuiet_nil ?_; intro _ hw'; obtain ⟨x9, hw''⟩ := hw'; subst hw''; have hk9 := after_kept x9; generalize after x9 = w9 at *; obtain ⟨hc9, hf9⟩ := bcell hk9.2
                        gi_wp2
                        go_roundw
                        case measure => simp [intOf]; omega
                        case rel => exact ⟨j + 1, by omega, by go_num, hk9.2, HJ3.out⟩
                    · have HF := Lib.hid (HFO.out h1 h2 (by rw [HON.out]; exact h3))
                      have h4 : holdsB W z (dx + m) = !on := by cases hh : holdsB W z (dx + m) <;> cases on <;> simp_all
                      have HC3 := Lib.hid (fun (w : World) (hv : LenV w) => h4 ▸ holds_any W z (dx + m) w hv hW)
                      clear h3 h4
                      cases on
                      all_goals
                        gi_wp2
                        refine wpIn_region_kept W' (by rintro ⟨a9, w9, h9⟩; exact h9) (by kernel_rfl) (by kernel_rfl) (by kernel_rfl) (by assumption) ?_; (repeat (go_big_quiet_step (((go_at_call 88; exact kept_call (HC3.out _ (HVW.out.below (after_kept _).2))))))); refine wpQuiet_nil ?_; intro _ hw'; obtain ⟨x9, hw''⟩ := hw'; subst hw''; have hk9 := after_kept x9; generalize after x9 = w9 at *; obtain ⟨hc9, hf9⟩ := bcell hk9.2
                        gi_wp2
                        exact ⟨(keeps_of_below hk9.2).trans (KeepsOthers.setCell _ _ _), ⟨rfl, _, World.cell?_setCell_same' _ _ _ (by rw [hc9 _ _ k3, hc _ _ g3, cr]; rfl), HF.out⟩, below_set (below_step hbw' hk9.2) (by simp; omega) _⟩
                  · have e2 : decide (dx + m < endT W) = false := by simpa using h2
                    have HJ3 := Lib.hid (HJ2.out (fun h => h2 h.2.1))
                    clear h2
                    gi_wp2
                    refine wpIn_region_kept W' (by rintro ⟨a9, w9, h9⟩; exact h9) (by kernel_rfl) (by kernel_rfl) (by kernel_rfl) (by assumption) ?_; (repeat (go_big_quiet_step (((go_at_call 88; exact kept_call (holds_any W z _ _ (HVW.out.below (after_kept _).2) hW)))))); refine wpQuiet_nil ?_; intro _ hw'; obtain ⟨x9, hw''⟩ := hw'; subst hw''; have hk9 := after_kept x9; generalize after x9 = w9 at *; obtain ⟨hc9, hf9⟩ := bcell hk9.2
                    gi_wp2
                    go_roundw
                    case measure => simp [intOf]; omega
                    case rel => exact ⟨j + 1, by omega, by go_num, hk9.2, HJ3.out⟩
                · have e1 : decide (u < dx + m) = false := by simpa using h1
                  have HJ3 := Lib.hid (HJ2.out (fun h => h1 h.1))
                  clear h1
                  gi_wp2
                  refine wpIn_region_kept W' (by rintro ⟨a9, w9, h9⟩; exact h9) (by kernel_rfl) (by kernel_rfl) (by kernel_rfl) (by assumption) ?_; (repeat (go_big_quiet_step (((go_at_call 88; exact kept_call (holds_any W z _ _ (HVW.out.below (after_kept _).2) hW)))))); refine wpQuiet_nil ?_; intro _ hw'; obtain ⟨x9, hw''⟩ := hw'; subst hw''; have hk9 := after_kept x9; generalize after x9 = w9 at *; obtain ⟨hc9, hf9⟩ := bcell hk9.2
                  gi_wp2
                  go_roundw
                  case measure => simp [intOf]; omega
                  case rel => exact ⟨j + 1, by omega, by go_num, hk9.2, HJ3.out⟩
              · have hjl : j = (edgesL W z).length := by omega
                have HNS : Hid (NoHit (holdsB W z) u (endT W) (u + 1 - (u + 1) % 1440) (edgesL W z) (pre ++ [x])) := fun k hk mm hmm => by
                  rcases List.mem_append.1 hk with hk | hk
                  · exact HNO.out k hk mm hmm
                  · obtain rfl : k = x := by simpa using hk
                    obtain ⟨i, hi, rfl⟩ := List.mem_iff_getElem.1 hmm
                    rw [HA.out]
                    exact HJ.out i (by omega) hi
                have hge : ¬ ((j : Int) < ((edgesL W z).length : Int)) := by omega
                clear hjl
                gi_wp2
                exact ⟨keeps_of_below hbr, hbr.mono hBz, HNS.out, hB.trans (hbr.mono hBz)⟩
          case done =>
            rintro D xs W' hD rfl ⟨hN, hB⟩ hK
            have hx0 := HN.out _ (next_none hW hz ht1 hel (nohit_all hL rfl (by omega) (cntD_le (by omega) heb.1) (fun k h => cntD_lt.2 h) hN))
            rw [HON.out] at hx0
            have HX := Lib.hid hx0
            clear hx0
            obtain ⟨hc, hf⟩ := bcell hB
            have hto : decide (0 ≤ W.to) = true ∨ decide (0 ≤ W.to) = false := by cases decide (0 ≤ W.to) <;> simp
            have hcs : ∀ V : Int, (W'.setCell ⟨w.heap.size + 1 + 1 + 1, 0, none⟩ (.int .i64 V)).cell? ⟨w.heap.size + 1 + 1 + 1, 0, none⟩ = some (.int .i64 V) := fun V => World.cell?_setCell_same' _ _ _ (by rw [hc _ _ g3, cr]; rfl)
            have HCS := Lib.hid hcs
            clear hcs
            have hbw' : Below w.heap.size w W' := hb3w.trans (hB.mono hb3w.size)
            cases on
            all_goals rcases hto with hto | hto
            all_goals
              go_wp2_with fail
              exact finish_next rfl (HCS.out _) ((KeepsOthers.setCell _ _ _).same D _ hK rfl) (by omega) (below_set hbw' (by simp; omega) _) (by rw [HX.out, hto]; rfl)
          case stop =>
            rintro D c pre W' hD ⟨k0, hk0, rfl⟩ ⟨⟨rfl, r, hr, hfd⟩, hB⟩ hK
            obtain ⟨f1, f2, f3, f4⟩ := found_next hL rfl (by omega) hk0 (cntD_le (by omega) heb.1) hfd
            have HX := Lib.hid (HN.out _ (next_found hW hz ht1 f1 f2 f3 f4))
            gi_wp2
            exact finish_next rfl hr hK (by omega) hB HX.out.symm

end Go.Proofs.YtmappmeojmdekaaGreatDoor
