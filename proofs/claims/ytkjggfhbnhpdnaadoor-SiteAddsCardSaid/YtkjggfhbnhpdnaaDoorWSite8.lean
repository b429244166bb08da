/-
  Walks: the feeders that carry more than they may; lists that are compared.
-/
import Derived.Test.YtkjggfhbnhpdnaaDoorWSite7
import Derived.Test.YtkjggfhbnhpdnaaDoorBlk
import Derived.Deep.DeepCutAuto
namespace Go.Proofs.YtkjggfhbnhpdnaaDoor
open Go.RowKit Go.Lib Go.Maps
set_option linter.unusedVariables false

theorem CapR.cells_len (c : CapR) : c.cells.length = 4 := rfl
theorem cap_at {w : World} {A : Option Addr} {l : List CapR} (h : SlAt w 4 A (l.map CapR.cells)) {k : Nat} (hk : k < l.length) :
    ∃ b off, A = some ⟨b, off, none⟩ ∧ b < w.heap.size ∧ w.cell? ⟨b, off + k * 4, none⟩ = some (.int .i64 l[k].a) ∧ w.cell? ⟨b, off + k * 4 + 1, none⟩ = some (.int .i64 l[k].b) ∧ w.cell? ⟨b, off + k * 4 + 2, none⟩ = some (.int .i64 l[k].c) ∧
      w.cell? ⟨b, off + k * 4 + 3, none⟩ = some (.int .i64 l[k].t) := by
  obtain ⟨b, off, e, hb, hc⟩ := h k l[k].cells (by rw [List.getElem?_map, List.getElem?_eq_getElem hk]; rfl)
  exact ⟨b, off, e, hb, hc 0 _ rfl, hc 1 _ rfl, hc 2 _ rfl, hc 3 _ rfl⟩
theorem int_at {w : World} {A : Option Addr} {l : List Int} (h : SlAt w 1 A (l.map encZ)) {k : Nat} (hk : k < l.length) :
    ∃ b off, A = some ⟨b, off, none⟩ ∧ b < w.heap.size ∧ w.cell? ⟨b, off + k, none⟩ = some (.int .i64 l[k]) := by
  obtain ⟨b, off, e, hb, hc⟩ := h k (encZ l[k]) (by rw [List.getElem?_map, List.getElem?_eq_getElem hk]; rfl)
  refine ⟨b, off, e, hb, ?_⟩
  have := hc 0 _ rfl
  simpa using this

theorem old_alloc {w : World} {b : Nat} (h : b < w.heap.size) (o : Obj) (j : Nat) : (w.alloc o).cell? ⟨b, j, none⟩ = w.cell? ⟨b, j, none⟩ := World.cell?_of_block (a := ⟨b, j, none⟩) (Below.heap_alloc _ _ _ h)
theorem old_alloc2 {w : World} {b : Nat} (h : b < w.heap.size) (o o' : Obj) (j : Nat) : ((w.alloc o).alloc o').cell? ⟨b, j, none⟩ = w.cell? ⟨b, j, none⟩ := (old_alloc (by simp; omega) o' j).trans (old_alloc h o j)

def overP (C L : List CapR) (i : Nat) : Bool := match C[i]?, L[i]? with
  | some x, some y => overB x y
  | _, _ => false
def overU (C L : List CapR) (k : Nat) : List Nat := (List.range k).filter (overP C L)
theorem overU_all (C L : List CapR) : overU C L (min C.length L.length) = overL C L := rfl
theorem overU_step {C L : List CapR} {k : Nat} (h1 : k < C.length) (h2 : k < L.length) : overU C L (k + 1) = if overB C[k] L[k] then overU C L k ++ [k] else overU C L k := by
  unfold overU
  rw [List.range_succ, List.filter_append]
  have e : overP C L k = overB C[k] L[k] := by unfold overP; rw [List.getElem?_eq_getElem h1, List.getElem?_eq_getElem h2]
  by_cases h : overB C[k] L[k] = true
  · simp [e, h]
  · simp [e, h]
theorem overU_len (C L : List CapR) (k : Nat) : (overU C L k).length ≤ k := by
  unfold overU
  exact Nat.le_trans (List.length_filter_le _ _) (by simp)
theorem overB_cases (x y : CapR) : (overB x y = false ∧ ¬ x.a < y.a ∧ ¬ x.b < y.b ∧ ¬ x.c < y.c ∧ ¬ x.t < y.t) ∨ (overB x y = true ∧ (x.a < y.a ∨ (¬ x.a < y.a ∧ x.b < y.b) ∨ (¬ x.a < y.a ∧ ¬ x.b < y.b ∧ x.c < y.c) ∨ (¬ x.a < y.a ∧ ¬ x.b < y.b ∧ ¬ x.c < y.c ∧ x.t < y.t))) := by
  unfold overB
  by_cases h1 : x.a < y.a <;> by_cases h2 : x.b < y.b <;> by_cases h3 : x.c < y.c <;> by_cases h4 : x.t < y.t <;> simp [h1, h2, h3, h4]

set_option maxRecDepth 100000 in
set_option maxHeartbeats 6400000 in
theorem over_any (C L : List CapR) (cv lv : Value) (w : World) (hC : IsSl w 4 cv (C.map CapR.cells)) (hL : IsSl w 4 lv (L.map CapR.cells)) (hl1 : C.length ≤ 1000000) (hl2 : L.length ≤ 1000000) :
    Calls Tryd.prog 17 #[cv, lv] w fun e w' => ∃ v, e = .returned v ∧ IsSl w' 1 v ((overL C L).map encN) ∧ Below w.heap.size w w' := by
  obtain ⟨A, c, rfl, hlc, hcm, hsl⟩ := islen' hC
  obtain ⟨B, d, rfl, hld, hdm, hsl2⟩ := islen' hL
  obtain ⟨i1, hi, hz0, hz1, hz2⟩ := info_parts intInfo
  have HSL := Lib.hid hsl
  have HSL2 := Lib.hid hsl2
  clear hC hL hsl hsl2 hlc hcm hld hdm
  have HM := Lib.hid (overU_all C L)
  obtain ⟨N, hN, HMN, hm1, hm2⟩ : ∃ N : Nat, min (C.length : Int) (L.length : Int) = (N : Int) ∧ Hid (overU C L N = overL C L) ∧ N ≤ C.length ∧ N ≤ L.length := ⟨min C.length L.length, by omega, HM.out, by omega, by omega⟩
  clear HM
  go_enter Tryd.func17, Tryd.ntmps17
  go_wp2_with fail
  go_loopw [5, 14] (fun v i wr => ∃ k : Nat, k ≤ N ∧ i = .int .i64 k ∧ Below w.heap.size w wr ∧ wr.ownsRow w.heap.size 3 1 v (overU C L k).length ((overU C L k).flatMap encN)) (fun _ i _ => N - (intOf i).toNat)
  case atStart => exact ⟨0, by omega, rfl, Below.refl _ _, World.ownsRow_nil _ _ _ _⟩
  case round =>
    obtain ⟨k, hk, rfl, hbw, hown⟩ := hrel
    obtain ⟨hc, hf⟩ := bcell hbw
    have hlU := overU_len C L k
    by_cases hlt : k < N
    · have hki : (k : Int) < (N : Int) := by omega
      have hk1 : k < C.length := by omega
      have hk2 : k < L.length := by omega
      have hk3 : (k : Int) < (C.length : Int) := by omega
      have hk4 : (k : Int) < (L.length : Int) := by omega
      obtain ⟨b, off, rfl, hbb, c0, c1, c2, c3⟩ := cap_at HSL.out hk1
      obtain ⟨b2, off2, rfl, hbb2, d0, d1, d2, d3⟩ := cap_at HSL2.out hk2
      have HS := Lib.hid (overU_step hk1 hk2)
      have hov := overB_cases C[k] L[k]
      generalize C[k] = x at *
      generalize L[k] = y at *
      have HOV := Lib.hid hov
      clear hov
      generalize overU C L k = U at *
      go_wp2_with fail
      go_cut [7, 8] (fun s7 s8 wx => ∃ g7 g8 : Nat, s7 = .pointer (some ⟨g7, 0, none⟩) ∧ s8 = .pointer (some ⟨g8, 0, none⟩) ∧ Below wr.heap.size wr wx ∧ Blk wx g7 47 x.cells ∧ Blk wx g8 47 y.cells)
      case first =>
        have hzw := hbw.size
        have y1 := old_alloc (w := wr) (b := b) (by omega)
        have y2 := old_alloc (w := wr) (b := b2) (by omega)
        have y3 := old_alloc2 (w := wr) (b := b) (by omega)
        have y4 := old_alloc2 (w := wr) (b := b2) (by omega)
        go_region
        all_goals (go_wp2_with fail; go_meet)
        all_goals exact ⟨_, _, rfl, rfl, by repeat (first | exact Below.refl _ _ | refine below_alloc ?_ _ | refine below_drew ?_), by repeat (first | (refine Blk.new' ?_ _ _ rfl; simp; done) | refine Blk.alloc ?_ _ | refine Blk.drew ?_), by repeat (first | (refine Blk.new' ?_ _ _ rfl; simp; done) | refine Blk.alloc ?_ _ | refine Blk.drew ?_)⟩
      case rest =>
        obtain ⟨g7, g8, rfl, rfl, hbx, k7, k8⟩ := hcut
        have x7 : ∀ j, wc.cell? ⟨g7, j, none⟩ = (#[.int .i64 x.a, .int .i64 x.b, .int .i64 x.c, .int .i64 x.t] : Array Value)[j]? := k7.arr
        have x8 : ∀ j, wc.cell? ⟨g8, j, none⟩ = (#[.int .i64 y.a, .int .i64 y.b, .int .i64 y.c, .int .i64 y.t] : Array Value)[j]? := k8.arr
        have hown3 := own_below hown hbx
        have hbw3 := hbw.trans (hbx.mono hbw.size)
        clear hc hf k7 k8 c0 c1 c2 c3 d0 d1 d2 d3
        rcases HOV.out with ⟨hov, h1, h2, h3, h4⟩ | ⟨hov, hcase⟩
        · have HS2 : Hid (overU C L (k + 1) = U) := by unfold Hid; rw [HS.out, hov]; rfl
          clear hov
          go_wp2_with fail
          go_roundw
          case measure => simp [intOf]; omega
          case rel => exact ⟨k + 1, by omega, by go_num, hbw3, by rw [HS2.out]; exact hown3⟩
        · have HS2 : Hid (overU C L (k + 1) = U ++ [k]) := by unfold Hid; rw [HS.out, hov]; rfl
          clear hov
          rcases hcase with h1 | ⟨h1, h2⟩ | ⟨h1, h2, h3⟩ | ⟨h1, h2, h3, h4⟩
          all_goals
            go_wp2_with (at_builtin; refine wpList_append_row _ _ rfl (.tmp 57) (.tmp 59) _ rfl w.heap.size 3 i1 _ 1 8 Tryd.underlying29 hi hz0 hz1 hz2 rfl (by decide) _ _ _ rfl hown3 _ rfl rfl (by intro u hu; simp at hu; rcases hu with rfl; rfl) (by omega) (by omega) hbw3.size ?_; intro v' w2 hown2 hgrow hblk; have hb2 := below_grown hbw3 hown3 (Nat.le_refl _) hgrow)
            rw [snoc_encN] at hown2
            go_roundw
            case measure => simp [intOf]; omega
            case rel => exact ⟨k + 1, by omega, by go_num, hb2, by rw [HS2.out, List.length_append]; exact hown2⟩
    · have hkN : k = N := by omega
      subst hkN
      rw [HMN.out] at hown
      have hki : ¬ (k : Int) < (k : Int) := by omega
      obtain ⟨A2, cap, rfl⟩ := own_shape hown
      go_wp2_with fail
      go_ret
      exact ⟨_, rfl, IsSl.of_own encN_len hown rfl, hbw⟩

end Go.Proofs.YtkjggfhbnhpdnaaDoor
