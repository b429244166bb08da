/-
  Walks: the edges of a window.
-/
import Derived.Test.YtpknjblgbpndlaaDoorWWin4
import Derived.Test.YtpknjblgbpndlaaDoorPWin3
import Derived.Test.YtpknjblgbpndlaaDoorWSort
import Derived.Test.YtpknjblgbpndlaaDoorBox
import Derived.Outline
namespace Go.Proofs.YtpknjblgbpndlaaDoor
open Go.RowKit Go.Lib Go.Maps
set_option linter.unusedVariables false

theorem rawK_succ {W : WinR} {z : ZoneR} {k : Nat} (h : k < 3) : rawK W z (k + 1) = rawK W z k ++ roundL z.off z.sum ((minL W)[k]'(by simpa [minL] using h)) := by
  unfold rawK
  rw [List.take_succ_eq_append_getElem (by simpa [minL] using h), List.flatMap_append]
  simp
theorem rawK_len (W : WinR) (z : ZoneR) (k : Nat) : (rawK W z k).length ≤ 6 := by
  unfold rawK minL
  match k with
  | 0 => simp
  | 1 => cases hs : z.sum <;> simp [roundL_eq]
  | 2 => cases hs : z.sum <;> simp [roundL_eq]
  | k + 3 => cases hs : z.sum <;> simp [roundL_eq]

set_option maxRecDepth 100000 in
set_option maxHeartbeats 6400000 in
theorem edges_any (W : WinR) (z : ZoneR) (w : World) (hW : winB W = true) (hz : zoneB z = true) :
    Calls Tryd.prog 48 #[.agg #[.int .i64 W.dy, .int .i64 W.st, .int .i64 W.en, .int .i64 W.fr, .int .i64 W.to], .agg #[.int .i64 z.off, .bool z.sum]] w
      fun e w' => ∃ v, e = .returned v ∧ IsSl w' 1 v ((edgesL W z).map encZ) ∧ Below w.heap.size w w' := by
  obtain ⟨d0, d1, s0, s1, e0, e1, f0, f1, ht2⟩ := winB_iff.1 hW
  obtain ⟨z0, z1⟩ := zoneB_iff.1 hz
  clear hW hz ht2
  have HR := Lib.hid (fun (k : Nat) (h : k < 3) => rawK_succ (W := W) (z := z) h)
  have HRL := Lib.hid (rawK_len W z)
  have HEL : Hid (∀ s, (edgesR W ⟨z.off, s⟩).length ≤ 7) := fun s => by have := rawK_len W ⟨z.off, s⟩ 3; cases s <;> simp [edgesR] <;> omega
  obtain ⟨zo, zs⟩ := z
  simp only at *
  obtain ⟨i1, hi, hz0, hz1, hz2⟩ := info_parts intInfo
  obtain ⟨W0, hW0, hb0, hg0, hg1, hx0, hy0⟩ := box2 w #[.int .i64 W.dy, .int .i64 W.st, .int .i64 W.en, .int .i64 W.fr, .int .i64 W.to] 24 #[.int .i64 zo, .bool zs] 26
  have x0 : ∀ w, (Instr.index 103 (.agg #[.int .i64 0, .int .i64 W.st, .int .i64 W.en]) (.int .i64 0)).run Tryd.prog w = .ok (.int .i64 0) w := fun _ => by kernel_rfl
  have x1 : ∀ w, (Instr.index 103 (.agg #[.int .i64 0, .int .i64 W.st, .int .i64 W.en]) (.int .i64 1)).run Tryd.prog w = .ok (.int .i64 W.st) w := fun _ => by kernel_rfl
  have x2 : ∀ w, (Instr.index 103 (.agg #[.int .i64 0, .int .i64 W.st, .int .i64 W.en]) (.int .i64 2)).run Tryd.prog w = .ok (.int .i64 W.en) w := fun _ => by kernel_rfl
  go_enter Tryd.func48, Tryd.ntmps48
  go_wp2_with fail
  rw [← hW0]
  clear hW0
  go_loopw [5, 14] (fun v i wr => ∃ k : Nat, k ≤ 3 ∧ i = .int .i64 k ∧ Below W0.heap.size W0 wr ∧ wr.ownsRow W0.heap.size 3 1 v (rawK W ⟨zo, zs⟩ k).length ((rawK W ⟨zo, zs⟩ k).flatMap encZ)) (fun _ i _ => 3 - (intOf i).toNat)
  case atStart => exact ⟨0, by omega, rfl, Below.refl _ _, World.ownsRow_nil _ _ _ _⟩
  case round =>
    obtain ⟨k, hk, rfl, hbw, hown⟩ := hrel
    obtain ⟨hc, hf⟩ := bcell hbw
    have hlen := HRL.out k
    by_cases hlt : k < 3
    · have HS := Lib.hid (HR.out k hlt)
      obtain ⟨k', hk'⟩ : ∃ k', k' = k + 1 := ⟨_, rfl⟩
      rw [← hk'] at HS
      have hk3 : k' ≤ 3 := by omega
      have HK := Lib.hid hk'
      clear hk'
      have hkc : k = 0 ∨ k = 1 ∨ k = 2 := by omega
      obtain ⟨t0, t0'⟩ := rem_bd (a := zo) (b := 1440) (by omega)
      obtain ⟨t1, t1'⟩ := rem_bd (a := W.st - zo) (b := 1440) (by omega)
      obtain ⟨t2, t2'⟩ := rem_bd (a := W.en - zo) (b := 1440) (by omega)
      cases zs
      · rcases hkc with rfl | rfl | rfl
        all_goals
          go_wp2_with (at_builtin; refine wpList_append_row _ _ rfl (.tmp 22) (.tmp 26) _ rfl W0.heap.size 3 i1 _ 1 8 Tryd.underlying80 hi hz0 hz1 hz2 rfl (by decide) _ _ _ rfl hown _ rfl rfl (by intro u hu; simp at hu; rcases hu with rfl; rfl) (by omega) (by omega) hbw.size ?_; intro v' w2 hown2 hgrow hblk; have hb2 := below_grown hbw hown (Nat.le_refl _) hgrow; clear hc hf hgrow hblk; obtain ⟨hc, hf⟩ := bcell hb2)
          rw [show ∀ x : Value, #[x].toList = [x] from fun _ => rfl] at hown2
          go_roundw
          case measure => simp [intOf]
          case rel => exact ⟨k', hk3, by rw [HK.out]; rfl, hb2, by rw [HS.out, List.length_append, List.flatMap_append]; simpa [roundL, encZ, minL] using hown2⟩
      · rcases hkc with rfl | rfl | rfl
        all_goals
          go_wp2_with (first | (at_builtin; refine wpList_append_row _ _ rfl (.tmp 22) (.tmp 26) _ rfl W0.heap.size 3 i1 _ 1 8 Tryd.underlying80 hi hz0 hz1 hz2 rfl (by decide) _ _ _ rfl hown _ rfl rfl (by intro u hu; simp at hu; rcases hu with rfl; rfl) (by omega) (by omega) hbw.size ?_; intro v' w2 hown2 hgrow hblk; have hb2 := below_grown hbw hown (Nat.le_refl _) hgrow; clear hc hf hgrow hblk; obtain ⟨hc, hf⟩ := bcell hb2) | (at_builtin; refine wpList_append_row _ _ rfl (.tmp 30) (.tmp 35) _ rfl W0.heap.size 3 i1 _ 1 8 Tryd.underlying80 hi hz0 hz1 hz2 rfl (by decide) _ _ _ rfl hown2 _ rfl rfl (by intro u hu; simp at hu; rcases hu with rfl; rfl) (by omega) (by omega) hb2.size ?_; intro v3 w3 hown3 hgrow hblk; have hb3 := below_grown hb2 hown2 (Nat.le_refl _) hgrow; clear hc hf hgrow hblk; obtain ⟨hc, hf⟩ := bcell hb3))
          rw [show ∀ x : Value, #[x].toList = [x] from fun _ => rfl] at hown3
          go_roundw
          case measure => simp [intOf]
          case rel => exact ⟨k', hk3, by rw [HK.out]; rfl, hb3, by rw [HS.out, List.length_append, List.flatMap_append]; simpa [roundL, encZ, minL] using hown3⟩
    · obtain rfl : k = 3 := by omega
      clear hk hlt HR x0 x1 x2
      have HL : Hid (∀ s, (edgesR W ⟨zo, s⟩).length ≤ 7) := HEL
      cases zs
      · have hE : edgesR W ⟨zo, false⟩ = rawK W ⟨zo, false⟩ 3 := by simp [edgesR]
        rw [← hE] at hown hlen
        have hpos : 0 < (edgesR W ⟨zo, false⟩).length := by rw [hE]; simp [rawK, minL, roundL]
        obtain ⟨g, cap, rfl, hg1, hg2, hcap, hcap2, hcl⟩ := own_split hown hpos
        clear hcl hE
        go_wp2_with (first | (go_at_call 64; refine (sort_own hbw hown (by omega)).mono ?_; rintro e w2 ⟨rfl, hown2, hb2⟩) | (go_at_call 65; refine (compact_own hb2 hown2 (by omega)).mono ?_; rintro e w3 ⟨rfl, hown3, hb3⟩))
        go_ret
        exact ⟨_, rfl, IsSl.of_own encZ_len hown3 rfl, below_step hb0 hb3⟩
      · have hE : Hid (edgesR W ⟨zo, true⟩ = rawK W ⟨zo, true⟩ 3 ++ [60]) := by simp [Hid, edgesR]
        have hEl : Hid ((edgesR W ⟨zo, true⟩).length = (rawK W ⟨zo, true⟩ 3).length + 1) := by rw [Hid, hE.out]; simp
        go_wp2_with (first | (at_builtin; refine wpList_append_row _ _ rfl (.tmp 40) (.tmp 41) _ rfl W0.heap.size 3 i1 _ 1 8 Tryd.underlying80 hi hz0 hz1 hz2 rfl (by decide) _ _ _ rfl hown _ rfl rfl (by intro u hu; simp at hu; rcases hu with rfl; rfl) (by omega) (by omega) hbw.size ?_; intro v1 w1 hown1 hgrow hblk; have hb1 := below_grown hbw hown (Nat.le_refl _) hgrow; clear hc hf hgrow hblk; obtain ⟨hc, hf⟩ := bcell hb1; rw [show (rawK W ⟨zo, true⟩ 3).flatMap encZ ++ #[Value.int .i64 60].toList = (edgesR W ⟨zo, true⟩).flatMap encZ by rw [hE.out, List.flatMap_append]; rfl] at hown1; obtain ⟨g, cap, rfl, hg1, hg2, hcap, hcap2, hcl⟩ := own_split hown1 (by omega); clear hcl) | (go_at_call 64; refine (sort_own hb1 hown1 (by omega)).mono ?_; rintro e w2 ⟨rfl, hown2, hb2⟩) | (go_at_call 65; refine (compact_own hb2 hown2 (by omega)).mono ?_; rintro e w3 ⟨rfl, hown3, hb3⟩))
        go_ret
        exact ⟨_, rfl, IsSl.of_own encZ_len hown3 rfl, below_step hb0 hb3⟩

end Go.Proofs.YtpknjblgbpndlaaDoor
