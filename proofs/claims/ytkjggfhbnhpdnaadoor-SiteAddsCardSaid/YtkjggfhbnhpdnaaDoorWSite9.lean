/-
  Walks: Over of the reference; lists of caps and of numbers that are compared; sizes.
-/
import Derived.Test.YtkjggfhbnhpdnaaDoorWSite8
namespace Go.Proofs.YtkjggfhbnhpdnaaDoor
open Go.RowKit Go.Lib Go.Maps
set_option linter.unusedVariables false

set_option maxRecDepth 100000 in
set_option maxHeartbeats 6400000 in
theorem refOver_any (C L : List CapR) (cv lv : Value) (w : World) (hC : IsSl w 4 cv (C.map CapR.cells)) (hL : IsSl w 4 lv (L.map CapR.cells)) (hl1 : C.length ≤ 1000000) (hl2 : L.length ≤ 1000000) :
    Calls Tryd.prog 18 #[cv, lv] w fun e w' => ∃ v, e = .returned v ∧ IsSl w' 1 v ((overL C L).map encN) ∧ Below w.heap.size w w' := by
  obtain ⟨A, c, rfl, hlc, hcm, hsl⟩ := islen' hC
  obtain ⟨B, d, rfl, hld, hdm, hsl2⟩ := islen' hL
  obtain ⟨i1, hi, hz0, hz1, hz2⟩ := info_parts intInfo
  have HSL := Lib.hid hsl
  have HSL2 := Lib.hid hsl2
  clear hC hL hsl hsl2 hlc hcm hld hdm
  have HM := Lib.hid (overU_all C L)
  go_enter Tryd.func18, Tryd.ntmps18
  go_wp2_with fail
  go_loopw [5, 6] (fun v i wr => ∃ k : Nat, k ≤ C.length ∧ k ≤ L.length ∧ i = .int .i64 k ∧ Below w.heap.size w wr ∧ wr.ownsRow w.heap.size 3 1 v (overU C L k).length ((overU C L k).flatMap encN)) (fun _ i _ => C.length - (intOf i).toNat)
  case atStart => exact ⟨0, by omega, by omega, rfl, Below.refl _ _, World.ownsRow_nil _ _ _ _⟩
  case round =>
    obtain ⟨k, hk, hk', rfl, hbw, hown⟩ := hrel
    obtain ⟨hc, hf⟩ := bcell hbw
    have hlU := overU_len C L k
    by_cases hlt : k < C.length ∧ k < L.length
    · obtain ⟨hk1, hk2⟩ := hlt
      have hk3 : (k : Int) < (C.length : Int) := by omega
      have hk4 : (k : Int) < (L.length : Int) := by omega
      obtain ⟨b, off, rfl, hbb, c0, c1, c2, c3⟩ := cap_at HSL.out hk1
      obtain ⟨b2, off2, rfl, hbb2, d0, d1, d2, d3⟩ := cap_at HSL2.out hk2
      have HS := Lib.hid (overU_step hk1 hk2)
      have hov := overB_cases C[k] L[k]
      generalize C[k] = x at *
      generalize L[k] = y at *
      have HOV := Lib.hid hov
      clear hov
      generalize overU C L k = U at *
      go_wp2_with fail
      go_cut [7, 8] (fun s7 s8 wx => ∃ g7 g8 : Nat, s7 = .pointer (some ⟨g7, 0, none⟩) ∧ s8 = .pointer (some ⟨g8, 0, none⟩) ∧ Below wr.heap.size wr wx ∧ Blk wx g7 47 x.cells ∧ Blk wx g8 47 y.cells)
      case first =>
        have hzw := hbw.size
        have y1 := old_alloc (w := wr) (b := b) (by omega)
        have y2 := old_alloc (w := wr) (b := b2) (by omega)
        have y3 := old_alloc2 (w := wr) (b := b) (by omega)
        have y4 := old_alloc2 (w := wr) (b := b2) (by omega)
        go_region
        all_goals (go_wp2_with fail; go_meet)
        all_goals exact ⟨_, _, rfl, rfl, by repeat (first | exact Below.refl _ _ | refine below_alloc ?_ _ | refine below_drew ?_), by repeat (first | (refine Blk.new' ?_ _ _ rfl; simp; done) | refine Blk.alloc ?_ _ | refine Blk.drew ?_), by repeat (first | (refine Blk.new' ?_ _ _ rfl; simp; done) | refine Blk.alloc ?_ _ | refine Blk.drew ?_)⟩
      case rest =>
        obtain ⟨g7, g8, rfl, rfl, hbx, k7, k8⟩ := hcut
        have x7 : ∀ j, wc.cell? ⟨g7, j, none⟩ = (#[.int .i64 x.a, .int .i64 x.b, .int .i64 x.c, .int .i64 x.t] : Array Value)[j]? := k7.arr
        have x8 : ∀ j, wc.cell? ⟨g8, j, none⟩ = (#[.int .i64 y.a, .int .i64 y.b, .int .i64 y.c, .int .i64 y.t] : Array Value)[j]? := k8.arr
        have hown3 := own_below hown hbx
        have hbw3 := hbw.trans (hbx.mono hbw.size)
        clear hc hf k7 k8 c0 c1 c2 c3 d0 d1 d2 d3
        rcases HOV.out with ⟨hov, h1, h2, h3, h4⟩ | ⟨hov, hcase⟩
        · have HS2 : Hid (overU C L (k + 1) = U) := by unfold Hid; rw [HS.out, hov]; rfl
          clear hov
          go_wp2_with fail
          go_roundw
          case measure => simp [intOf]; omega
          case rel => exact ⟨k + 1, by omega, by omega, by go_num, hbw3, by rw [HS2.out]; exact hown3⟩
        · have HS2 : Hid (overU C L (k + 1) = U ++ [k]) := by unfold Hid; rw [HS.out, hov]; rfl
          clear hov
          rcases hcase with h1 | ⟨h1, h2⟩ | ⟨h1, h2, h3⟩ | ⟨h1, h2, h3, h4⟩
          all_goals
            go_wp2_with (at_builtin; refine wpList_append_row _ _ rfl (.tmp 61) (.tmp 63) _ rfl w.heap.size 3 i1 _ 1 8 Tryd.underlying29 hi hz0 hz1 hz2 rfl (by decide) _ _ _ rfl hown3 _ rfl rfl (by intro u hu; simp at hu; rcases hu with rfl; rfl) (by omega) (by omega) hbw3.size ?_; intro v' w2 hown2 hgrow hblk; have hb2 := below_grown hbw3 hown3 (Nat.le_refl _) hgrow)
            rw [snoc_encN] at hown2
            go_roundw
            case measure => simp [intOf]; omega
            case rel => exact ⟨k + 1, by omega, by omega, by go_num, hb2, by rw [HS2.out, List.length_append]; exact hown2⟩
    · have hkN : k = min C.length L.length := by omega
      rw [hkN, HM.out] at hown
      clear hkN
      obtain ⟨A2, cap, rfl⟩ := own_shape hown
      by_cases h1 : (k : Int) < (C.length : Int)
      · have h2 : ¬ (k : Int) < (L.length : Int) := by omega
        clear hlt
        go_wp2_with fail
        go_ret
        exact ⟨_, rfl, IsSl.of_own encN_len hown rfl, hbw⟩
      · clear hlt
        go_wp2_with fail
        go_ret
        exact ⟨_, rfl, IsSl.of_own encN_len hown rfl, hbw⟩

noncomputable def eqL {α : Type} (a b : List α) : Bool := @decide (a = b) (Classical.propDecidable _)
theorem eqL_t {α : Type} {a b : List α} (h : a = b) : eqL a b = true := by unfold eqL; simpa using h
theorem eqL_f {α : Type} {a b : List α} (h : ¬ a = b) : eqL a b = false := by unfold eqL; simpa using h
theorem take_step {α : Type} {a b : List α} {k : Nat} (h : a.take k = b.take k) (h1 : k < a.length) (h2 : k < b.length) (e : a[k] = b[k]) : a.take (k + 1) = b.take (k + 1) := by
  rw [List.take_succ_eq_append_getElem h1, List.take_succ_eq_append_getElem h2, h, e]
theorem take_stop {α : Type} {a b : List α} {k : Nat} (h1 : k < a.length) (h2 : k < b.length) (e : a = b) : a[k] = b[k] := by subst e; rfl
theorem take_all {α : Type} {a b : List α} {k : Nat} (h : a.take k = b.take k) (hl : a.length = b.length) (h1 : ¬ k < a.length) : a = b := by
  rw [List.take_of_length_le (by omega), List.take_of_length_le (by omega)] at h
  exact h

set_option maxRecDepth 100000 in
set_option maxHeartbeats 1600000 in
theorem ints_any (a b : List Int) (u v : Value) (w : World) (ha : a.length ≤ 1000000) (hb : b.length ≤ 1000000) (hu : IsSl w 1 u (a.map encZ)) (hv : IsSl w 1 v (b.map encZ)) :
    Calls Tryd.prog 14 #[u, v] w fun e w' => e = .returned (.bool (eqL a b)) ∧ Below w.heap.size w w' := by
  obtain ⟨A, c, rfl, hlc, hcm, hsl⟩ := islen' hu
  obtain ⟨B, d, rfl, hld, hdm, hsl2⟩ := islen' hv
  clear hu hv
  by_cases hl : a.length = b.length
  · have hne : ((a.length : Int) != (b.length : Int)) = false := by simp; omega
    have HL := Lib.hid hl
    clear hl
    go_enter Tryd.func14, Tryd.ntmps14
    go_wp2_with fail
    go_loopw [13] (fun i wr => ∃ (k : Nat), k ≤ a.length ∧ i = .int .i64 k ∧ Below w.heap.size w wr ∧ Hid (a.take k = b.take k)) (fun i _ => a.length - (intOf i).toNat)
    case atStart => exact ⟨0, by omega, rfl, Below.refl _ _, rfl⟩
    case round =>
      obtain ⟨k, hk, rfl, hbw, HT⟩ := hrel
      by_cases hlt : k < a.length
      · have hki : (k : Int) < (a.length : Int) := by omega
        have hlt2 : k < b.length := by have := HL.out; omega
        have hki2 : (k : Int) < (b.length : Int) := by omega
        obtain ⟨g, off, rfl, hb, c0⟩ := int_at (hsl.below hbw) hlt
        obtain ⟨g2, off2, rfl, hb2, d0⟩ := int_at (hsl2.below hbw) hlt2
        have HS := Lib.hid (take_step HT.out hlt hlt2)
        have HF := Lib.hid (take_stop hlt hlt2)
        generalize hx : a[k] = x at *
        generalize hy : b[k] = y at *
        clear hx hy
        cases hq : (x != y) with
        | false =>
          have HT2 := Lib.hid (HS.out (by simpa using hq))
          go_wp2_with fail
          go_quiet (fail)
          go_wp2_with fail
          go_roundw
          case measure => simp [intOf]; omega
          case rel => exact ⟨k + 1, by omega, by go_num, (by repeat (first | exact hbw | refine below_alloc ?_ _ | refine below_drew ?_ | refine below_drewN ?_ _)), HT2⟩
        | true =>
          have HE := Lib.hid (eqL_f (fun h => absurd (HF.out h) (by simpa using hq)))
          go_wp2_with fail
          go_quiet (fail)
          go_wp2_with fail
          go_ret
          exact ⟨ret_bool (by rw [HE.out]), (by repeat (first | exact hbw | refine below_alloc ?_ _ | refine below_drew ?_ | refine below_drewN ?_ _))⟩
      · have hkl : ¬ (k : Int) < (a.length : Int) := by omega
        have HE := Lib.hid (eqL_t (take_all HT.out HL.out hlt))
        go_wp2_with fail
        go_ret
        exact ⟨ret_bool (by rw [HE.out]), hbw⟩
  · have HE := Lib.hid (eqL_f (fun h : a = b => hl (by rw [h])))
    have hne : ((a.length : Int) != (b.length : Int)) = true := by simp; omega
    clear hl
    go_enter Tryd.func14, Tryd.ntmps14
    go_wp2_with fail
    go_ret
    exact ⟨ret_bool (by rw [HE.out]), Below.refl _ _⟩

def eqC (x y : CapR) : Bool := (x.a == y.a && (x.b == y.b && x.c == y.c)) && x.t == y.t
theorem eqC_iff (x y : CapR) : eqC x y = true ↔ x = y := by
  obtain ⟨a1, a2, a3, a4⟩ := x
  obtain ⟨b1, b2, b3, b4⟩ := y
  simp [eqC, and_assoc]
set_option maxRecDepth 100000 in
theorem eq_tri (a b c a' b' c' : Int) (w : World) : (Op.equalIn 9999 45 (.agg #[.int .i64 a, .int .i64 b, .int .i64 c]) (.agg #[.int .i64 a', .int .i64 b', .int .i64 c'])).run Tryd.prog w = .ok (a == a' && (b == b' && c == c')) w := by
  rw [run_equalIn_agg w 9998 _ _ _ Tryd.underlying45 Tryd.stoodInHeld45]
  simp only [Program.fieldsOf, Tryd.underlying45]
  cases h1 : (a == a') <;> cases h2 : (b == b') <;> cases h3 : (c == c') <;>
    simp [go_sem, Op.eqFields, part, run_equalIn_int _ _ _ _ _ _ _ Tryd.underlying3, h1, h2, h3]
set_option maxRecDepth 100000 in
theorem eq_cap (x y : CapR) (w : World) : (Op.equalIn 10000 47 (.agg #[.int .i64 x.a, .int .i64 x.b, .int .i64 x.c, .int .i64 x.t]) (.agg #[.int .i64 y.a, .int .i64 y.b, .int .i64 y.c, .int .i64 y.t])).run Tryd.prog w = .ok (eqC x y) w := by
  rw [run_equalIn_agg w 9999 _ _ _ Tryd.underlying47 Tryd.stoodInHeld47]
  simp only [Program.fieldsOf, Tryd.underlying47]
  cases h1 : (x.a == y.a && (x.b == y.b && x.c == y.c)) <;> cases h4 : (x.t == y.t) <;>
    simp [go_sem, Op.eqFields, part, eqC, eq_tri, run_equalIn_int _ _ _ _ _ _ _ Tryd.underlying3, h1, h4]
theorem neq_cap (x y : CapR) (w : World) : (binOp .neq 47 (.agg #[.int .i64 x.a, .int .i64 x.b, .int .i64 x.c, .int .i64 x.t]) (.agg #[.int .i64 y.a, .int .i64 y.b, .int .i64 y.c, .int .i64 y.t])).run Tryd.prog w = .ok (.bool (!eqC x y)) w := by
  rw [run_neq_struct, eq_cap]; rfl

set_option maxRecDepth 100000 in
set_option maxHeartbeats 1600000 in
theorem sameC_any (a b : List CapR) (u v : Value) (w : World) (ha : a.length ≤ 1000000) (hb : b.length ≤ 1000000) (hu : IsSl w 4 u (a.map CapR.cells)) (hv : IsSl w 4 v (b.map CapR.cells)) :
    Calls Tryd.prog 22 #[u, v] w fun e w' => e = .returned (.bool (eqL a b)) ∧ Below w.heap.size w w' := by
  obtain ⟨A, c, rfl, hlc, hcm, hsl⟩ := islen' hu
  obtain ⟨B, d, rfl, hld, hdm, hsl2⟩ := islen' hv
  clear hu hv
  by_cases hl : a.length = b.length
  · have hne : ((a.length : Int) != (b.length : Int)) = false := by simp; omega
    have HL := Lib.hid hl
    clear hl
    go_enter Tryd.func22, Tryd.ntmps22
    go_wp2_with fail
    go_loopw [13] (fun i wr => ∃ (k : Nat), k ≤ a.length ∧ i = .int .i64 k ∧ Below w.heap.size w wr ∧ Hid (a.take k = b.take k)) (fun i _ => a.length - (intOf i).toNat)
    case atStart => exact ⟨0, by omega, rfl, Below.refl _ _, rfl⟩
    case round =>
      obtain ⟨k, hk, rfl, hbw, HT⟩ := hrel
      by_cases hlt : k < a.length
      · have hki : (k : Int) < (a.length : Int) := by omega
        have hlt2 : k < b.length := by have := HL.out; omega
        have hki2 : (k : Int) < (b.length : Int) := by omega
        obtain ⟨g, off, rfl, hb, c0, c1, c2, c3⟩ := cap_at (hsl.below hbw) hlt
        obtain ⟨g2, off2, rfl, hb2, d0, d1, d2, d3⟩ := cap_at (hsl2.below hbw) hlt2
        have HS := Lib.hid (take_step HT.out hlt hlt2)
        have HF := Lib.hid (take_stop hlt hlt2)
        generalize hx : a[k] = x at *
        generalize hy : b[k] = y at *
        clear hx hy
        have hnq := neq_cap x y
        have heg := fun w => run_eqGuard_agg (P := Tryd.prog) w .neq 47 (.tmp 19) (.tmp 23) #[.int .i64 x.a, .int .i64 x.b, .int .i64 x.c, .int .i64 x.t] #[.int .i64 y.a, .int .i64 y.b, .int .i64 y.c, .int .i64 y.t] Tryd.eqGuardType47
        cases hq : eqC x y with
        | true =>
          have HT2 := Lib.hid (HS.out ((eqC_iff x y).1 hq))
          rw [hq] at hnq
          go_wp2_with fail
          go_quiet (fail)
          go_wp2_with fail
          go_roundw
          case measure => simp [intOf]; omega
          case rel => exact ⟨k + 1, by omega, by go_num, (by repeat (first | exact hbw | refine below_alloc ?_ _ | refine below_drew ?_ | refine below_drewN ?_ _)), HT2⟩
        | false =>
          have HE := Lib.hid (eqL_f (fun h => absurd ((eqC_iff x y).2 (HF.out h)) (by simp [hq])))
          rw [hq] at hnq
          go_wp2_with fail
          go_quiet (fail)
          go_wp2_with fail
          go_ret
          exact ⟨ret_bool (by rw [HE.out]), (by repeat (first | exact hbw | refine below_alloc ?_ _ | refine below_drew ?_ | refine below_drewN ?_ _))⟩
      · have hkl : ¬ (k : Int) < (a.length : Int) := by omega
        have HE := Lib.hid (eqL_t (take_all HT.out HL.out hlt))
        go_wp2_with fail
        go_ret
        exact ⟨ret_bool (by rw [HE.out]), hbw⟩
  · have HE := Lib.hid (eqL_f (fun h : a = b => hl (by rw [h])))
    have hne : ((a.length : Int) != (b.length : Int)) = true := by simp; omega
    clear hl
    go_enter Tryd.func22, Tryd.ntmps22
    go_wp2_with fail
    go_ret
    exact ⟨ret_bool (by rw [HE.out]), Below.refl _ _⟩

def smallB (f p w z c : Nat) : Bool := decide (f ≤ 40) && (decide (p ≤ 40) && (decide (w ≤ 40) && (decide (z ≤ 41) && decide (c ≤ 41))))
theorem small_t {f p w z c : Nat} (h : smallB f p w z c = true) : f ≤ 40 ∧ p ≤ 40 ∧ w ≤ 40 ∧ z ≤ 41 ∧ c ≤ 41 := by unfold smallB at h; simpa using h

set_option maxRecDepth 100000 in
set_option maxHeartbeats 1600000 in
theorem small_any (s : ByteArray) (A B C D E : Option Addr) (f f' p p' c c' q q' z z' : Nat) (w : World) (hm : f ≤ maxLen ∧ p ≤ maxLen ∧ c ≤ maxLen ∧ q ≤ maxLen ∧ z ≤ maxLen) :
    Calls Tryd.prog 10 #[.agg #[.string s, .slice A f f', .slice B p p', .slice C c c', .slice D q q', .slice E z z']] w fun e w' => e = .returned (.bool (smallB f p q z c)) ∧ Below w.heap.size w w' := by
  unfold maxLen at hm
  obtain ⟨m1, m2, m3, m4, m5⟩ := hm
  by_cases h1 : f ≤ 40
  · by_cases h2 : p ≤ 40
    · by_cases h3 : q ≤ 40
      · by_cases h4 : z ≤ 41
        · by_cases h5 : c ≤ 41
          all_goals
            have HE : Hid (smallB f p q z c = decide (c ≤ 41)) := by unfold Hid smallB; simp [h1, h2, h3, h4]
            go_enter Tryd.func10, Tryd.ntmps10
            go_wp2_with fail
            go_ret
            exact ⟨ret_bool (by rw [HE.out]; simp [h5]; omega), below_alloc (Below.refl _ _) _⟩
        · have HE : Hid (smallB f p q z c = false) := by unfold Hid smallB; simp [h4]
          go_enter Tryd.func10, Tryd.ntmps10
          go_wp2_with fail
          go_ret
          exact ⟨ret_bool (by rw [HE.out]), below_alloc (Below.refl _ _) _⟩
      · have HE : Hid (smallB f p q z c = false) := by unfold Hid smallB; simp [h3]
        go_enter Tryd.func10, Tryd.ntmps10
        go_wp2_with fail
        go_ret
        exact ⟨ret_bool (by rw [HE.out]), below_alloc (Below.refl _ _) _⟩
    · have HE : Hid (smallB f p q z c = false) := by unfold Hid smallB; simp [h2]
      go_enter Tryd.func10, Tryd.ntmps10
      go_wp2_with fail
      go_ret
      exact ⟨ret_bool (by rw [HE.out]), below_alloc (Below.refl _ _) _⟩
  · have HE : Hid (smallB f p q z c = false) := by unfold Hid smallB; simp [h1]
    go_enter Tryd.func10, Tryd.ntmps10
    go_wp2_with fail
    go_ret
    exact ⟨ret_bool (by rw [HE.out]), below_alloc (Below.refl _ _) _⟩

end Go.Proofs.YtkjggfhbnhpdnaaDoor
