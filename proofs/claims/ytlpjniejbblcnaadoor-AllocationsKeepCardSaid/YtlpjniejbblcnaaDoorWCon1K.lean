/-
  Walks: least and At of package contract.
-/
import Derived.Test.YtlpjniejbblcnaaDoorPConM
import Derived.Test.YtlpjniejbblcnaaDoorM1
import Derived.Test.YtlpjniejbblcnaaDoorM3
import Derived.Test.YtlpjniejbblcnaaDoorWWin4
namespace Go.Proofs.YtlpjniejbblcnaaDoor
open Go.RowKit Go.Lib Go.Maps
set_option linter.unusedVariables false

theorem encZ_one (n : Int) : ∀ u ∈ encZ n, u.oneCell' = true := by intro u hu; simp [encZ] at hu; subst hu; rfl
/-- a slice literal of ints -/
theorem ints_at (w : World) (T : TypeId) (l : List Int) (cs : Array Value) (h : cs.toList = l.map (Value.int .i64)) : SlAt (w.alloc (.cells cs T)) 1 (some ⟨w.heap.size, 0, none⟩) (l.map encZ) := by
  intro k row hk
  rw [List.getElem?_map] at hk
  cases hx : l[k]? with
  | none => rw [hx] at hk; simp at hk
  | some x =>
    rw [hx] at hk
    simp at hk
    subst hk
    refine ⟨w.heap.size, 0, rfl, by simp, fun j u hu => ?_⟩
    cases j with
    | zero =>
      simp [encZ] at hu
      subst hu
      have := World.cell?_alloc_mark w cs T (0, 0) k
      rw [show 0 + k * 1 + 0 = k by omega, this, ← Array.getElem?_toList, h, List.getElem?_map, hx]
      rfl
    | succ j => simp [encZ] at hu
theorem minVK {n x m : Int} (h : m = min n x) : Value.int .i64 (if x < n then x else n) = .int .i64 m := by rw [h, show (if x < n then x else n) = min n x by omega]
theorem old_allocC {w : World} {b : Nat} (h : b < w.heap.size) (o : Obj) (j : Nat) : (w.alloc o).cell? ⟨b, j, none⟩ = w.cell? ⟨b, j, none⟩ := World.cell?_of_block (a := ⟨b, j, none⟩) (Below.heap_alloc _ _ _ h)

set_option maxRecDepth 100000 in
theorem least_any (l : List Int) (v : Value) (w : World) (hL : IsSl w 1 v (l.map encZ)) : Calls Tryd.prog 70 #[v] w fun e w' => e = .returned (.int .i64 (leastF l)) ∧ w = w' := by
  obtain ⟨A, c, rfl, hlc, hcm, hsl⟩ := hL
  rw [List.length_map] at hlc
  unfold maxLen at hcm
  simp only [List.length_map]
  go_enter Tryd.func70, Tryd.ntmps70
  go_wp2_with fail
  go_loopw [3, 8] (fun n i wr => ∃ k : Nat, k ≤ l.length ∧ n = .int .i64 (leastF (l.take k)) ∧ i = .int .i64 k ∧ wr = w) (fun _ i _ => l.length - (intOf i).toNat)
  case atStart => exact ⟨0, by omega, rfl, rfl, rfl⟩
  case round =>
    obtain ⟨k, hk, rfl, rfl, rfl⟩ := hrel
    by_cases hlt : k < l.length
    · have hki : (k : Int) < (l.length : Int) := by omega
      obtain ⟨b, off, rfl, hb, c0⟩ := int_at hsl hlt
      have H := Lib.hid (leastF_take hlt)
      generalize l[k] = x at *
      generalize leastF (l.take k) = n at *
      go_wp2_with fail
      go_roundw
      case measure => simp [intOf]; omega
      case rel => exact ⟨k + 1, by omega, by first | exact minVK H.out | rw [H.out], by go_num, trivial⟩
    · have hki : ¬ (k : Int) < (l.length : Int) := by omega
      have H : Hid (leastF l = leastF (l.take k)) := by unfold Hid; rw [List.take_of_length_le (by omega)]
      go_wp2_with fail
      go_ret
      exact ⟨ret_int H.out.symm, rfl⟩

theorem least_nil (w : World) : Calls Tryd.prog 70 #[.slice none 0 0] w fun e w' => e = .returned (.int .i64 1073741824) ∧ w = w' := least_any [] _ w (IsSl.nil _ _)
theorem leastF_two {n m : Int} (h : n ≤ 1073741824) : leastF [n, m] = min n m := by
  unfold leastF; simp only [List.foldl_cons, List.foldl_nil]; omega
theorem leastF_one {n : Int} (h : n ≤ 1073741824) : leastF [n] = n := by
  unfold leastF; simp only [List.foldl_cons, List.foldl_nil]; omega

set_option maxRecDepth 100000 in
set_option maxHeartbeats 6400000 in
theorem conAt_any (l : List ConR) (v : Value) (z : ZoneR) (f t : Int) (w : World) (hv : LenV w) (hL : IsSl w 8 v (l.map ConR.cells)) :
    Calls Tryd.prog 58 #[v, .agg #[.int .i64 z.off, .bool z.sum], .int .i64 f, .int .i64 t] w fun e w' => e = .returned (.int .i64 (cAt l z f t)) ∧ Below w.heap.size w w' := by
  obtain ⟨W0, hW0, hb0, hg0, hx0⟩ := box1 w #[.int .i64 z.off, .bool z.sum] 52
  have HV := Lib.hid (hv.below hb0)
  replace hL := hL.below hb0
  clear hv
  obtain ⟨A, c, rfl, hlc, hcm, hsl⟩ := hL
  rw [List.length_map] at hlc
  unfold maxLen at hcm
  simp only [List.length_map]
  go_enter Tryd.func58, Tryd.ntmps58
  go_wp2_with fail
  rw [← hW0]
  clear hW0
  refine (least_nil _).mono ?_
  rintro e w1 ⟨rfl, rfl⟩
  go_wp2_with fail
  go_loopw [9, 15] (fun n i wr => ∃ k : Nat, k ≤ l.length ∧ n = .int .i64 (cAt (l.take k) z f t) ∧ i = .int .i64 k ∧ Below W0.heap.size W0 wr) (fun _ i _ => l.length - (intOf i).toNat)
  case atStart => exact ⟨0, by omega, rfl, rfl, Below.refl _ _⟩
  case round =>
    obtain ⟨k, hk, rfl, rfl, hbw⟩ := hrel
    obtain ⟨hc, hf⟩ := bcell hbw
    by_cases hlt : k < l.length
    · have hki : (k : Int) < (l.length : Int) := by omega
      obtain ⟨b, off, rfl, hb, c0, c1, c2, c3, c4, c5, c6, c7⟩ := con_at (hsl.below hbw) hlt
      have hst := cAt_take hlt z f t
      have hle := cAt_le (l.take k) z f t
      have y1 := old_allocC (w := wr) (b := w.heap.size) (Nat.lt_of_lt_of_le hg0 hbw.size)
      generalize l[k] = x at *
      generalize cAt (l.take k) z f t = n at *
      by_cases hfd : x.fd = f
      · cases hh : holdsB x.w z t with
        | false =>
          have H : Hid (cAt (l.take (k + 1)) z f t = n) := by unfold Hid; rw [hst]; exact if_neg (fun h => by rw [(cOn_iff.1 h).2] at hh; cases hh)
          have HH := Lib.hid hh
          clear hst hh hle
          go_wp2_with fail
          refine (holdsT_any x.w z t _ (HV.out.below (below_alloc hbw _))).mono ?_
          rintro e w2 ⟨rfl, hb2⟩
          rw [HH.out]
          have hbw2 := below_step (below_alloc hbw _) hb2
          go_wp2_with fail
          go_roundw
          case measure => simp [intOf]; omega
          case rel => exact ⟨k + 1, by omega, by rw [H.out], by go_num, hbw2⟩
        | true =>
          have H : Hid (cAt (l.take (k + 1)) z f t = min n x.tot) := by unfold Hid; rw [hst]; exact if_pos (cOn_iff.2 ⟨hfd, hh⟩)
          have HH := Lib.hid hh
          have HL := Lib.hid (leastF_two (n := n) (m := x.tot) hle)
          clear hst hh hle
          go_wp2_with fail
          refine (holdsT_any x.w z t _ (HV.out.below (below_alloc hbw _))).mono ?_
          rintro e w2 ⟨rfl, hb2⟩
          rw [HH.out]
          have hbw2 := below_step (below_alloc hbw _) hb2
          have d7 := ((bcell hb2).1 wr.heap.size 7 (by simp)).trans (World.cell?_alloc_mark wr #[.string x.nm, .int .i64 f, .int .i64 x.w.dy, .int .i64 x.w.st, .int .i64 x.w.en, .int .i64 x.w.fr, .int .i64 x.w.to, .int .i64 x.tot] 84 (0, 0) 7)
          have hz2 : wr.heap.size < w2.heap.size := Nat.lt_of_lt_of_le (by simp) hb2.size
          go_wp2_with fail
          refine (least_any [n, x.tot] _ _ (IsSl.mk (ints_at w2 3 [n, x.tot] #[.int .i64 n, .int .i64 x.tot] rfl) rfl (Nat.le_refl _) (by simp [maxLen]))).mono ?_
          rintro e w3 ⟨rfl, rfl⟩
          rw [HL.out]
          go_wp2_with fail
          go_roundw
          case measure => simp [intOf]; omega
          case rel => exact ⟨k + 1, by omega, by rw [H.out], by go_num, below_alloc hbw2 _⟩
      · have H : Hid (cAt (l.take (k + 1)) z f t = n) := by unfold Hid; rw [hst]; exact if_neg (fun h => hfd (cOn_iff.1 h).1)
        clear hst hle
        go_wp2_with fail
        go_roundw
        case measure => simp [intOf]; omega
        case rel => exact ⟨k + 1, by omega, by rw [H.out], by go_num, below_alloc hbw _⟩
    · have hki : ¬ (k : Int) < (l.length : Int) := by omega
      have H : Hid (cAt l z f t = cAt (l.take k) z f t) := by unfold Hid; rw [List.take_of_length_le (by omega)]
      go_wp2_with fail
      go_ret
      exact ⟨ret_int H.out.symm, below_step hb0 hbw⟩

end Go.Proofs.YtlpjniejbblcnaaDoor
