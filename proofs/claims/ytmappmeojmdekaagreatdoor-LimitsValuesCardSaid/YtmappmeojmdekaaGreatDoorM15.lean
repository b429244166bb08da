/-
  Walks: only of package limits.
  Walks: Series of package limits.
  The example of the chapter on limits, reckoned. No program is named here.
  Walks: the example of the chapter on limits; sizes.
  Arguments that came in, opened: a type of plain data laid out as a list of kinds of cells; slices read as rows. No program is named here.
-/
import Derived.Test.YtmappmeojmdekaaGreatDoorM14
import Derived.Test.YtmappmeojmdekaaGreatDoorM4
import Derived.Test.YtmappmeojmdekaaGreatDoorM1
import Derived.ProofKit
import Derived.OpenShut
import Derived.Deep.Slices

namespace Go.Proofs.YtmappmeojmdekaaGreatDoor
open Go.RowKit Go.Lib Go.Maps
attribute [local go_sem] after_cell
set_option linter.unusedVariables false

theorem curInfo : (Tryz.prog.info? 63).map (fun i => (i.zero, i.size, i.bytes)) = some (some (.agg #[.string ⟨#[]⟩, .int .i64 0, .int .i64 0, .int .i64 0, .int .i64 0, .int .i64 0, .bool false]), 7, 64) := by kernel_rfl
/-- the rules with the contracts and the grid events of one feeder -/
def RulR.own (r : RulR) (f : Int) : RulR := ⟨r.S, r.z, ownC f r.C, r.U.filter (fun c => c.fd == f)⟩
theorem own_lim (r : RulR) (f : Int) : (r.own f).lim = onlyR r.lim f := rfl
def ownU (f : Int) (l : List CurR) : List CurR := l.filter (fun c => c.fd == f)
theorem ownU_take {f : Int} {l : List CurR} {k : Nat} (h : k < l.length) : ownU f (l.take (k + 1)) = if l[k].fd = f then ownU f (l.take k) ++ [l[k]] else ownU f (l.take k) := by
  unfold ownU
  rw [List.take_succ_eq_append_getElem h, List.filter_append]
  by_cases e : l[k].fd = f
  · rw [if_pos e]; simp [e]
  · rw [if_neg e]; simp [e]
theorem ownU_len (f : Int) (l : List CurR) : (ownU f l).length ≤ l.length := List.length_filter_le _ _
theorem own_set {W : World} {B e s n : Nat} {v : Value} {xs : List Value} (h : W.ownsRow B e s v n xs) {g k : Nat} (hg : g < B) (u : Value) : (W.setCell ⟨g, k, none⟩ u).ownsRow B e s v n xs := by
  refine h.kept (row := some g) ⟨rfl, rfl, rfl, by simp [World.setCell], fun b hb hne => Below.heap_setCell W ⟨g, k, none⟩ u b (fun e => hne (by rw [e]))⟩ ?_
  cases hv : v.ownBlock with
  | none => exact .inl rfl
  | some b => exact .inr (fun e => by injection e with e; have := (h.lt b hv).1; omega)
theorem own_ne {W : World} {B e s n : Nat} {v : Value} {xs : List Value} (h : W.ownsRow B e s v n xs) {g : Nat} (hg : g < B) : v.ownBlock ≠ some g := fun e => by have := (h.lt g e).1; omega

theorem own_store {B e s n g : Nat} {v : Value} {xs : List Value} (hg : g < B) : ∀ (vs : List Value) (W : World) (k : Nat), W.ownsRow B e s v n xs → (storeRow W g k vs).ownsRow B e s v n xs
  | [], W, k, h => h
  | u :: vs, W, k, h => own_store hg vs _ (k + 1) (own_set h hg u)

/-- what only hands back -/
def OnlyPost (w : World) (r : RulR) (f : Int) (fv pv : Value) (e : Ending) (w' : World) : Prop := ∃ cv uv, e = .returned (.agg #[.string r.S.name, fv, pv, .int .i64 r.z.off, .bool r.z.sum, cv, uv]) ∧ LimIn w' (r.own f) fv pv cv uv ∧ Below w.heap.size w w'

set_option maxRecDepth 100000 in
set_option maxHeartbeats 12800000 in
theorem only_any (r : RulR) (fv pv cv uv : Value) (f : Int) (w : World) (hI : LimIn w r fv pv cv uv) (hlc : r.C.length ≤ 1000) (hlu : r.U.length ≤ 1000) :
    Calls Tryz.prog 41 #[.agg #[.string r.S.name, fv, pv, .int .i64 r.z.off, .bool r.z.sum, cv, uv], .int .i64 f] w (OnlyPost w r f fv pv) := by
  have HI := Lib.hid hI
  obtain ⟨A, B, C, D, a, b, c, d, rfl, rfl, rfl, rfl, hA⟩ := hI.ad
  have HA := Lib.hid hA
  obtain ⟨i0, hi, hz0, hz1, hz2⟩ := info_parts conInfo
  obtain ⟨i1, hj, hw0, hw1, hw2⟩ := info_parts curInfo
  obtain ⟨W3, hW3⟩ : ∃ W3, W3 = ((w.alloc (.cells #[.string r.S.name, .slice A r.S.F.length a, .slice B r.S.P.length b, .int .i64 r.z.off, .bool r.z.sum, .slice C r.C.length c, .slice D r.U.length d] 31)).alloc (.cells #[.string ⟨#[]⟩, .slice none 0 0, .slice none 0 0, .int .i64 0, .bool false, .slice none 0 0, .slice none 0 0] 31)).alloc (.cells #[.string r.S.name, .slice A r.S.F.length a, .slice B r.S.P.length b, .int .i64 r.z.off, .bool r.z.sum, .slice none 0 0, .slice none 0 0] 31) := ⟨_, rfl⟩
  have hb3 : Below w.heap.size w W3 := by rw [hW3]; exact below_alloc (below_alloc (below_alloc (Below.refl _ _) _) _) _
  have hB0 : Blk W3 w.heap.size 31 [.string r.S.name, .slice A r.S.F.length a, .slice B r.S.P.length b, .int .i64 r.z.off, .bool r.z.sum, .slice C r.C.length c, .slice D r.U.length d] := by rw [hW3]; exact ((Blk.new' rfl _ _ rfl).alloc _).alloc _
  have hB1 : Blk W3 (w.heap.size + 1) 31 [.string ⟨#[]⟩, .slice none 0 0, .slice none 0 0, .int .i64 0, .bool false, .slice none 0 0, .slice none 0 0] := by rw [hW3]; exact (Blk.new' (by simp) _ _ rfl).alloc _
  have hB2 : Blk W3 (w.heap.size + 1 + 1) 31 [.string r.S.name, .slice A r.S.F.length a, .slice B r.S.P.length b, .int .i64 r.z.off, .bool r.z.sum, .slice none 0 0, .slice none 0 0] := by rw [hW3]; exact Blk.new' (by simp) _ _ rfl
  have hz3 : W3.heap.size = w.heap.size + 3 := by rw [hW3]; simp
  clear hA hI
  go_enter Tryz.func41, Tryz.ntmps41
  go_wp2_with fail
  rw [← hW3]
  clear hW3
  go_loopw [18] (fun i wr => ∃ (k : Nat) (y : Value), k ≤ r.C.length ∧ i = .int .i64 k ∧ Below w.heap.size w wr ∧ w.heap.size + 3 ≤ wr.heap.size ∧ Blk wr w.heap.size 31 [.string r.S.name, .slice A r.S.F.length a, .slice B r.S.P.length b, .int .i64 r.z.off, .bool r.z.sum, .slice C r.C.length c, .slice D r.U.length d] ∧
    Blk wr (w.heap.size + 1) 31 [.string ⟨#[]⟩, .slice none 0 0, .slice none 0 0, .int .i64 0, .bool false, .slice none 0 0, .slice none 0 0] ∧
    Blk wr (w.heap.size + 1 + 1) 31 [.string r.S.name, .slice A r.S.F.length a, .slice B r.S.P.length b, .int .i64 r.z.off, .bool r.z.sum, y, .slice none 0 0] ∧
    wr.ownsRow (w.heap.size + 3) 68 8 y (ownC f (r.C.take k)).length ((ownC f (r.C.take k)).flatMap ConR.cells)) (fun i _ => r.C.length - (intOf i).toNat)
  case atStart => exact ⟨0, _, by omega, rfl, hb3, by omega, hB0, hB1, hB2, World.ownsRow_nil _ _ _ _⟩
  case round =>
    obtain ⟨k, y, hk, rfl, hbw, hsz, hB0, hB1, hB2, hy⟩ := hrel
    obtain ⟨A6, cap6, rfl⟩ := own_shape hy
    have s0 := hB0.lt
    have s1 := hB1.lt
    have s2 := hB2.lt
    have x0 : ∀ j, wr.cell? ⟨w.heap.size, j, none⟩ = _ := fun j => hB0.arr j
    have x2 : ∀ j, wr.cell? ⟨w.heap.size + 1 + 1, j, none⟩ = _ := fun j => hB2.arr j
    by_cases hlt : k < r.C.length
    · have hki : (k : Int) < (r.C.length : Int) := by omega
      obtain ⟨bb, off, rfl, hb, c0, c1, c2, c3, c4, c5, c6, c7⟩ := con_at (HA.out.below hbw).sC hlt
      have HT := Lib.hid (own_take (f := f) hlt)
      have hol := ownC_len f (r.C.take k)
      rw [List.length_take] at hol
      generalize r.C[k] = x at *
      generalize ownC f (r.C.take k) = ow at *
      by_cases hfd : x.fd = f
      · have HT2 : Hid (ownC f (r.C.take (k + 1)) = ow ++ [x]) := by unfold Hid; rw [HT.out, if_pos hfd]
        have HFD := Lib.hid hfd
        have hny := own_ne hy (show w.heap.size + 1 + 1 < w.heap.size + 3 by omega)
        have hny1 := own_ne hy (show w.heap.size + 1 < w.heap.size + 3 by omega)
        have hny0 := own_ne hy (show w.heap.size < w.heap.size + 3 by omega)
        go_wp2_with (at_builtin; refine wpList_append_row _ _ rfl (.tmp 27) (.tmp 29) _ rfl (w.heap.size + 3) 68 i0 _ 8 72 Tryz.underlying28 hi hz0 hz1 hz2 rfl (by decide) _ _ _ rfl (hy.alloc _) _ (by rw [World.size_alloc]; rfl) rfl (by intro u hu; simp at hu; rcases hu with rfl | rfl | rfl | rfl | rfl | rfl | rfl | rfl <;> rfl) (by omega) (by omega) (by rw [World.size_alloc]; omega) ?_; intro v' w2 hown hgrow hblk; obtain ⟨A7, cap7, rfl⟩ := own_shape hown; have hb2 := below_grown (below_alloc hbw _) (hy.alloc _) (by omega) hgrow; have hD2 := (hB2.alloc _).grow hgrow hny; have hD1 := (hB1.alloc _).grow hgrow hny1; have hD0 := (hB0.alloc _).grow hgrow hny0; have k2 : ∀ j, w2.cell? ⟨w.heap.size + 1 + 1, j, none⟩ = _ := (fun j => hD2.arr j); have fr2 := (fun j => hD2.free j); have sz2 := hD2.lt; have szw : w.heap.size + 3 ≤ w2.heap.size := Nat.le_trans hsz (Nat.le_trans (by simp) hgrow.size))
        go_roundw
        case measure => simp [intOf]; omega
        case rel => exact ⟨k + 1, _, by omega, by go_num, below_set hb2 (by show w.heap.size ≤ w.heap.size + 1 + 1; omega) _, by simpa [World.setCell] using szw, hD0.other (by omega) _, hD1.other (by omega) _, hD2.set 5 _, own_set (by rw [HT2.out, List.length_append, List.flatMap_append]; rw [← HFD.out] at hown; exact hown) (by omega) _⟩
      · have HT2 : Hid (ownC f (r.C.take (k + 1)) = ow) := by unfold Hid; rw [HT.out, if_neg hfd]
        go_wp2_with fail
        go_roundw
        case measure => simp [intOf]; omega
        case rel => exact ⟨k + 1, _, by omega, by go_num, below_alloc hbw _, by rw [World.size_alloc]; omega, hB0.alloc _, hB1.alloc _, hB2.alloc _, by rw [HT2.out]; exact hy.alloc _⟩
    · have hki : ¬ (k : Int) < (r.C.length : Int) := by omega
      rw [List.take_of_length_le (by omega)] at hy
      rw [List.take_of_length_le (by omega)] at hB2
      have hap0 := Apart.nil (Value.slice A6 (ownC f r.C).length cap6)
      have hyc := hy
      clear hy x2
      go_wp2_with fail
      clear hk hlt hki
      generalize wr = wm at *
      go_loopw [36] (fun i wx => ∃ (k : Nat) (y : Value), k ≤ r.U.length ∧ i = .int .i64 k ∧ Below w.heap.size w wx ∧ w.heap.size + 3 ≤ wx.heap.size ∧ Blk wx w.heap.size 31 [.string r.S.name, .slice A r.S.F.length a, .slice B r.S.P.length b, .int .i64 r.z.off, .bool r.z.sum, .slice C r.C.length c, .slice D r.U.length d] ∧
        Blk wx (w.heap.size + 1) 31 [.string ⟨#[]⟩, .slice none 0 0, .slice none 0 0, .int .i64 0, .bool false, .slice none 0 0, .slice none 0 0] ∧
        Blk wx (w.heap.size + 1 + 1) 31 [.string r.S.name, .slice A r.S.F.length a, .slice B r.S.P.length b, .int .i64 r.z.off, .bool r.z.sum, .slice A6 (ownC f r.C).length cap6, y] ∧
        wx.ownsRow (w.heap.size + 3) 63 7 y (ownU f (r.U.take k)).length ((ownU f (r.U.take k)).flatMap CurR.cells) ∧ wx.ownsRow (w.heap.size + 3) 68 8 (.slice A6 (ownC f r.C).length cap6) (ownC f r.C).length ((ownC f r.C).flatMap ConR.cells) ∧ Apart y (.slice A6 (ownC f r.C).length cap6)) (fun i _ => r.U.length - (intOf i).toNat)
      case atStart => exact ⟨0, _, by omega, rfl, hbw, hsz, hB0, hB1, hB2, World.ownsRow_nil _ _ _ _, hyc, hap0⟩
      case round =>
        clear hbw hsz hB0 hB1 hB2 hyc hap0 s0 s1 s2 x0
        obtain ⟨k, y, hk, rfl, hbw, hsz, hB0, hB1, hB2, hy, hyc, hap⟩ := hrel
        obtain ⟨A9, cap9, rfl⟩ := own_shape hy
        have s0 := hB0.lt
        have s1 := hB1.lt
        have s2 := hB2.lt
        have x0 : ∀ j, wr.cell? ⟨w.heap.size, j, none⟩ = _ := fun j => hB0.arr j
        have x2 : ∀ j, wr.cell? ⟨w.heap.size + 1 + 1, j, none⟩ = _ := fun j => hB2.arr j
        by_cases hlt : k < r.U.length
        · have hki : (k : Int) < (r.U.length : Int) := by omega
          obtain ⟨bb, off, rfl, hb, c0, c1, c2, c3, c4, c5, c6⟩ := cur_at (HA.out.below hbw).sU hlt
          have HT := Lib.hid (ownU_take (f := f) hlt)
          have hol := ownU_len f (r.U.take k)
          rw [List.length_take] at hol
          generalize r.U[k] = x at *
          generalize ownU f (r.U.take k) = ow at *
          by_cases hfd : x.fd = f
          · have HT2 : Hid (ownU f (r.U.take (k + 1)) = ow ++ [x]) := by unfold Hid; rw [HT.out, if_pos hfd]
            have HFD := Lib.hid hfd
            have hny := own_ne hy (show w.heap.size + 1 + 1 < w.heap.size + 3 by omega)
            have hny1 := own_ne hy (show w.heap.size + 1 < w.heap.size + 3 by omega)
            have hny0 := own_ne hy (show w.heap.size < w.heap.size + 3 by omega)
            go_wp2_with (at_builtin; refine wpList_append_row _ _ rfl (.tmp 45) (.tmp 47) _ rfl (w.heap.size + 3) 63 i1 _ 7 64 Tryz.underlying29 hj hw0 hw1 hw2 rfl (by decide) _ _ _ rfl (hy.alloc _) _ (by rw [World.size_alloc]; rfl) rfl (by intro u hu; simp at hu; rcases hu with rfl | rfl | rfl | rfl | rfl | rfl | rfl <;> rfl) (by omega) (by omega) (by rw [World.size_alloc]; omega) ?_; intro v' w2 hown hgrow hblk; have hkc := row_kept (hy.alloc _) (hyc.alloc _) hap hgrow hblk; obtain ⟨A7, cap7, rfl⟩ := own_shape hown; have hb2 := below_grown (below_alloc hbw _) (hy.alloc _) (by omega) hgrow; have hD2 := (hB2.alloc _).grow hgrow hny; have hD1 := (hB1.alloc _).grow hgrow hny1; have hD0 := (hB0.alloc _).grow hgrow hny0; have k2 : ∀ j, w2.cell? ⟨w.heap.size + 1 + 1, j, none⟩ = _ := (fun j => hD2.arr j); have fr2 := (fun j => hD2.free j); have sz2 := hD2.lt; have szw : w.heap.size + 3 ≤ w2.heap.size := Nat.le_trans hsz (Nat.le_trans (by simp) hgrow.size))
            go_roundw
            case measure => simp [intOf]; omega
            case rel => exact ⟨k + 1, _, by omega, by go_num, below_set hb2 (by show w.heap.size ≤ w.heap.size + 1 + 1; omega) _, by simpa [World.setCell] using szw, hD0.other (by omega) _, hD1.other (by omega) _, hD2.set 6 _, own_set (by rw [HT2.out, List.length_append, List.flatMap_append]; rw [← HFD.out] at hown; exact hown) (by omega) _, own_set hkc.1 (by omega) _, hkc.2⟩
          · have HT2 : Hid (ownU f (r.U.take (k + 1)) = ow) := by unfold Hid; rw [HT.out, if_neg hfd]
            go_wp2_with fail
            go_roundw
            case measure => simp [intOf]; omega
            case rel => exact ⟨k + 1, _, by omega, by go_num, below_alloc hbw _, by rw [World.size_alloc]; omega, hB0.alloc _, hB1.alloc _, hB2.alloc _, by rw [HT2.out]; exact hy.alloc _, hyc.alloc _, hap⟩
        · have hki : ¬ (k : Int) < (r.U.length : Int) := by omega
          rw [List.take_of_length_le (by omega)] at hy hB2
          have f1 := fun j => hB1.free j
          have x1 : ∀ j, wr.cell? ⟨w.heap.size + 1, j, none⟩ = _ := fun j => hB1.arr j
          have x2' : ∀ j, wr.cell? ⟨w.heap.size + 1 + 1, j, none⟩ = _ := fun j => hB2.arr j
          clear x2
          go_wp2_with fail
          obtain ⟨w2, hw2, hx2, hb2⟩ := rowN x1 [.string r.S.name, .slice A r.S.F.length a, .slice B r.S.P.length b, .int .i64 r.z.off, .bool r.z.sum, .slice A6 (ownC f r.C).length cap6, .slice A9 (ownU f r.U).length cap9] rfl
          rw [show ((((((wr.setCell ⟨w.heap.size + 1, 0, none⟩ (.string r.S.name)).setCell ⟨w.heap.size + 1, 1, none⟩ (.slice A r.S.F.length a)).setCell ⟨w.heap.size + 1, 2, none⟩ (.slice B r.S.P.length b)).setCell ⟨w.heap.size + 1, 3, none⟩ (.int .i64 r.z.off)).setCell ⟨w.heap.size + 1, 4, none⟩ (.bool r.z.sum)).setCell ⟨w.heap.size + 1, 5, none⟩ (.slice A6 (ownC f r.C).length cap6)).setCell ⟨w.heap.size + 1, 6, none⟩ (.slice A9 (ownU f r.U).length cap9) = w2 from hw2.symm]
          have hbw2 := hb2 w.heap.size w (by omega) hbw
          have hy2 : w2.ownsRow (w.heap.size + 3) 63 7 (.slice A9 (ownU f r.U).length cap9) (ownU f r.U).length ((ownU f r.U).flatMap CurR.cells) := by rw [hw2]; exact own_store (by omega) _ _ _ hy
          have hyc2 : w2.ownsRow (w.heap.size + 3) 68 8 (.slice A6 (ownC f r.C).length cap6) (ownC f r.C).length ((ownC f r.C).flatMap ConR.cells) := by rw [hw2]; exact own_store (by omega) _ _ _ hyc
          have hLI : LimIn w2 (r.own f) (.slice A r.S.F.length a) (.slice B r.S.P.length b) (.slice A6 (ownC f r.C).length cap6) (.slice A9 (ownU f r.U).length cap9) :=
            ⟨(HI.out.below hbw2).hF, (HI.out.below hbw2).hP, IsSl.of_own ConR.cells_len hyc2 rfl, IsSl.of_own CurR.cells_len hy2 rfl, HI.out.hn, HI.out.fF, HI.out.fP, ownC_fits HI.out.fC, fun c hc => HI.out.fU c (List.mem_filter.1 hc).1⟩
          have d0 := hx2 0 (by simp)
          have d1 := hx2 1 (by simp)
          have d2 := hx2 2 (by simp)
          have d3 := hx2 3 (by simp)
          have d4 := hx2 4 (by simp)
          have d5 := hx2 5 (by simp)
          have d6 := hx2 6 (by simp)
          exact bodyPost_ret (v := .agg #[.string r.S.name, .slice A r.S.F.length a, .slice B r.S.P.length b, .int .i64 r.z.off, .bool r.z.sum, .slice A6 (ownC f r.C).length cap6, .slice A9 (ownU f r.U).length cap9]) (by simp [results, Tryz.results41, go_sem, d0, d1, d2, d3, d4, d5, d6]) rfl ⟨_, _, rfl, hLI, hbw2⟩

end Go.Proofs.YtmappmeojmdekaaGreatDoor

namespace Go.Proofs.YtmappmeojmdekaaGreatDoor
open Go.RowKit Go.Lib Go.Maps
attribute [local go_sem] after_cell
set_option linter.unusedVariables false

/-- the error of Series, and the steps -/
noncomputable def lserE (r : RulR) (f a b : Int) : Int :=
  if limE r ≠ 0 then limE r else if f < 0 ∨ (r.S.F.length : Int) ≤ f then 8 else if a < 0 ∨ b < a ∨ 268435456 < b then 2 else if (restR (capF r.lim f) b a []).isSome = true then 0 else 3
noncomputable def lserL (r : RulR) (f a b : Int) : List (Int × Int) := if lserE r f a b = 0 then (restR (capF r.lim f) b a []).getD [] else []
structure LserIs (r : RulR) (f a b c : Int) (L : List (Int × Int)) : Prop where
  e : lserE r f a b = c
  l : lserL r f a b = L
theorem lser_of {r : RulR} {f a b c : Int} (h : lserE r f a b = c) (hc : c ≠ 0) : LserIs r f a b c [] := ⟨h, if_neg (by rw [h]; exact hc)⟩
theorem lser_bad {r : RulR} {f a b : Int} (h : limE r ≠ 0) : LserIs r f a b (limE r) [] := lser_of (if_pos h) h
theorem lser_none {r : RulR} {f a b : Int} (h : limE r = 0) (g : f < 0 ∨ (r.S.F.length : Int) ≤ f) : LserIs r f a b 8 [] :=
  lser_of (by unfold lserE; rw [if_neg (by rw [h]; decide), if_pos g]) (by decide)
theorem lser_range {r : RulR} {f a b : Int} (h : limE r = 0) (g : ¬ (f < 0 ∨ (r.S.F.length : Int) ≤ f)) (k : a < 0 ∨ b < a ∨ 268435456 < b) : LserIs r f a b 2 [] :=
  lser_of (by unfold lserE; rw [if_neg (by rw [h]; decide), if_neg g, if_pos k]) (by decide)
theorem lser_full {r : RulR} {f a b : Int} (h : limE r = 0) (g : ¬ (f < 0 ∨ (r.S.F.length : Int) ≤ f)) (k : ¬ (a < 0 ∨ b < a ∨ 268435456 < b)) (hr : restR (capF r.lim f) b a [] = none) : LserIs r f a b 3 [] :=
  lser_of (by unfold lserE; rw [if_neg (by rw [h]; decide), if_neg g, if_neg k, hr]; rfl) (by decide)
theorem lser_some {r : RulR} {f a b : Int} {L : List (Int × Int)} (h : limE r = 0) (g : ¬ (f < 0 ∨ (r.S.F.length : Int) ≤ f)) (k : ¬ (a < 0 ∨ b < a ∨ 268435456 < b)) (hr : restR (capF r.lim f) b a [] = some L) : LserIs r f a b 0 L := by
  have e : lserE r f a b = 0 := by unfold lserE; rw [if_neg (by rw [h]; decide), if_neg g, if_neg k, hr]; rfl
  exact ⟨e, by unfold lserL; rw [if_pos e, hr]; rfl⟩
/-- what Series hands back -/
def LserPost (w : World) (r : RulR) (f a b : Int) (e : Ending) (w' : World) : Prop := ∃ v, e = .returned (.tuple #[v, .int .i64 (lserE r f a b)]) ∧ IsSl w' 2 v ((lserL r f a b).map encP) ∧ Below w.heap.size w w'
theorem LserPost.mk {w : World} {r : RulR} {f a b c : Int} {L : List (Int × Int)} {v : Value} {w' : World} (h : LserIs r f a b c L) (hs : IsSl w' 2 v (L.map encP)) (hb : Below w.heap.size w w') : LserPost w r f a b (.returned (.tuple #[v, .int .i64 c])) w' :=
  ⟨v, by rw [h.e], by rw [h.l]; exact hs, hb⟩

set_option maxRecDepth 100000 in
set_option maxHeartbeats 12800000 in
theorem limSeries_any (r : RulR) (fv pv cv uv : Value) (f a0 b0 : Int) (w : World) (hv : LenV w) (hI : LimIn w r fv pv cv uv) :
    Calls Tryz.prog 24 #[.agg #[.string r.S.name, fv, pv, .int .i64 r.z.off, .bool r.z.sum, cv, uv], .int .i64 f, .agg #[.int .i64 a0, .int .i64 b0]] w (LserPost w r f a0 b0) := by
  have HI := Lib.hid hI
  obtain ⟨A, B, C, D, a, b, c, d, rfl, rfl, rfl, rfl, hA⟩ := hI.ad
  obtain ⟨W0, hW0, hb0, hg1, hg0, hx0, hs0⟩ := box2 w #[.string r.S.name, .slice A r.S.F.length a, .slice B r.S.P.length b, .int .i64 r.z.off, .bool r.z.sum, .slice C r.C.length c, .slice D r.U.length d] 31 #[.int .i64 a0, .int .i64 b0] 46
  have HI0 := Lib.hid (HI.out.below hb0)
  have HV0 := Lib.hid (hv.below hb0)
  have hfm := Nat.le_trans hA.lF.1 hA.lF.2
  unfold maxLen at hfm
  clear hA hI hv
  go_enter Tryz.func24, Tryz.ntmps24
  go_wp2_with fail
  rw [← hW0]
  clear hW0
  refine (limValid_any r _ _ _ _ W0 HI0.out).mono ?_
  rintro e w1 ⟨rfl, hb1⟩
  have y0 : ∀ j, w1.cell? ⟨w.heap.size, j, none⟩ = _ := fun j => (hb1.cell (p := ⟨w.heap.size, j, none⟩) hg0).trans (hx0 j)
  have y1 : w.heap.size < w1.heap.size := Nat.lt_of_lt_of_le hg0 hb1.size
  have s0 : ∀ j, w1.cell? ⟨w.heap.size + 1, j, none⟩ = _ := fun j => (hb1.cell (p := ⟨w.heap.size + 1, j, none⟩) hg1).trans (hs0 j)
  have s1 : w.heap.size + 1 < w1.heap.size := Nat.lt_of_lt_of_le hg1 hb1.size
  have HI1 := Lib.hid (HI0.out.below hb1)
  have HV1 := Lib.hid (HV0.out.below hb1)
  have hb01 := below_step hb0 hb1
  clear hx0 hg0 hs0 hg1 hb1 HI0 HV0
  by_cases he : limE r = 0
  · have HE := Lib.hid he
    have HOK := Lib.hid (LimOk.of he)
    have hne : (limE r != 0) = false := by simp [he]
    clear he
    by_cases hf : f < 0 ∨ (r.S.F.length : Int) ≤ f
    · have HN := Lib.hid (lser_none (a := a0) (b := b0) HE.out hf)
      have hcase : f < 0 ∨ (¬ f < 0 ∧ (r.S.F.length : Int) ≤ f) := by omega
      clear hf
      rcases hcase with q1 | ⟨q1, q2⟩
      all_goals
        go_wp2_with fail
        go_ret2
        exact LserPost.mk HN.out (IsSl.nil _ _) hb01
    · have HF := Lib.hid hf
      have q1 : ¬ f < 0 := by omega
      have q2 : ¬ (r.S.F.length : Int) ≤ f := by omega
      by_cases hr : a0 < 0 ∨ b0 < a0 ∨ 268435456 < b0
      · have HN := Lib.hid (lser_range HE.out HF.out hr)
        have hcase : a0 < 0 ∨ (¬ a0 < 0 ∧ b0 < a0) ∨ (¬ a0 < 0 ∧ ¬ b0 < a0 ∧ 268435456 < b0) := by omega
        clear hr hf
        rcases hcase with k1 | ⟨k1, k2⟩ | ⟨k1, k2, k3⟩
        all_goals
          go_wp2_with fail
          go_ret2
          exact LserPost.mk HN.out (IsSl.nil _ _) hb01
      · have HR := Lib.hid hr
        have k1 : ¬ a0 < 0 := by omega
        have k2 : ¬ b0 < a0 := by omega
        have k3 : ¬ 268435456 < b0 := by omega
        have HS1 := Lib.hid (fun hr' => lser_full HE.out HF.out HR.out hr')
        have HS2 := Lib.hid (fun L hr' => lser_some (L := L) HE.out HF.out HR.out hr')
        obtain ⟨q, rfl⟩ : ∃ q : Nat, f = q := ⟨f.toNat, by omega⟩
        have hq : q < r.S.F.length := by omega
        have HCAP := Lib.hid (fun t => only_cap r.lim (q : Int) t)
        have HNXT := Lib.hid (fun t => only_next r.lim (f := (q : Int)) (by omega) (by rw [lim_len]; omega) t)
        obtain ⟨i1, hj, hw0, hw1, hw2⟩ := info_parts stepInfo
        have hcn := HOK.out.ok.cn
        have hun := HOK.out.ok.un
        clear hf hr
        go_wp2_with fail
        refine (only_any r _ _ _ _ q _ HI1.out (by omega) (by omega)).mono ?_
        rintro e w2 ⟨cv', uv', rfl, hI2, hb2⟩
        have hIad := hI2.ad
        obtain ⟨A', B', C', D', a', b', c', d', hA', hB', hC', hD', _⟩ := hIad
        subst hC'; subst hD'
        clear hA' hB'
        have HOF : Hid (∀ x ∈ (r.own q).C, 0 ≤ x.fd ∧ x.fd < (r.own q).S.F.length) := fun x hx => HOK.out.ok.feeders x (List.mem_filter.1 hx).1
        have HOC : Hid (CurIn (r.own q).U) := fun x hx => HOK.out.ok.curIn x (List.mem_filter.1 hx).1
        have hol : (r.own q).C.length ≤ 100 := Nat.le_trans (ownC_len q r.C) (by omega)
        have hul : (r.own q).U.length ≤ 100 := Nat.le_trans (ownU_len q r.U) (by omega)
        have s0' : ∀ j, w2.cell? ⟨w.heap.size + 1, j, none⟩ = _ := fun j => (hb2.cell (p := ⟨w.heap.size + 1, j, none⟩) s1).trans (s0 j)
        have s1' : w.heap.size + 1 < w2.heap.size := Nat.lt_of_lt_of_le s1 hb2.size
        have hb02 := below_step hb01 hb2
        obtain ⟨W3, hW3, hb3, hg3, hx3⟩ := box1 w2 #[.string r.S.name, .slice A r.S.F.length a, .slice B r.S.P.length b, .int .i64 r.z.off, .bool r.z.sum, .slice C' (r.own q).C.length c', .slice D' (r.own q).U.length d'] 31
        have s0 : ∀ j, W3.cell? ⟨w.heap.size + 1, j, none⟩ = _ := fun j => (hb3.cell (p := ⟨w.heap.size + 1, j, none⟩) s1').trans (s0' j)
        have s1 : w.heap.size + 1 < W3.heap.size := Nat.lt_of_lt_of_le s1' hb3.size
        have HI3 := Lib.hid (hI2.below hb3)
        have HV3 := Lib.hid (HV1.out.below (below_step hb2 hb3))
        have hb03 := below_step hb02 hb3
        generalize hV : capF r.lim (q : Int) = V at *
        clear hV y0 y1 hI2 hb2 hb01 HI1 HV1
        go_wp2_with fail
        rw [← hW3]
        clear hW3 s0' s1'
        generalize w2.heap.size = gm at *
        generalize W3 = wm at *
        go_loopw [10, 11] (fun s tt wx => ∃ (acc : List (Int × Int)) (t : Int), tt = .int .i64 t ∧ (t = -1 ∨ (a0 ≤ t ∧ t ≤ 268435456)) ∧ acc.length ≤ 512 ∧ Below wm.heap.size wm wx ∧ wx.ownsRow wm.heap.size 52 2 s acc.length (acc.flatMap encP) ∧ Hid (restR V b0 a0 [] = restR V b0 t acc)) (fun _ tt _ => mesT (intOf tt))
        case atStart => exact ⟨[], a0, rfl, .inr ⟨Int.le_refl _, by omega⟩, by simp, Below.refl _ _, World.ownsRow_nil _ _ _ _, rfl⟩
        case round =>
          obtain ⟨acc, t, rfl, ht, hal, hbx, hown, HRR⟩ := hrel
          obtain ⟨A3, cap3, rfl⟩ := own_shape hown
          have z0 : ∀ j, wr.cell? ⟨w.heap.size + 1, j, none⟩ = _ := fun j => (hbx.cell (p := ⟨w.heap.size + 1, j, none⟩) s1).trans (s0 j)
          have z1 : w.heap.size + 1 < wr.heap.size := Nat.lt_of_lt_of_le s1 hbx.size
          have v0 : ∀ j, wr.cell? ⟨gm, j, none⟩ = _ := fun j => (hbx.cell (p := ⟨gm, j, none⟩) hg3).trans (hx3 j)
          have v1 : gm < wr.heap.size := Nat.lt_of_lt_of_le hg3 hbx.size
          have HIr := Lib.hid (HI3.out.below hbx)
          have HVr := Lib.hid (HV3.out.below hbx)
          by_cases hin : 0 ≤ t ∧ t < b0
          · obtain ⟨t0, tb⟩ := hin
            have t1 : t ≤ 268435456 := by omega
            have hst := restR_step (V := V) (l := acc) t0 tb
            by_cases hfull : acc.length = 512
            · have HN := Lib.hid (HS1.out (by rw [HRR.out, hst, if_pos hfull]))
              have e5 : ((acc.length : Int) == 512) = true := by simp; omega
              clear hst hfull
              go_wp2_with fail
              go_ret2
              exact LserPost.mk HN.out (IsSl.nil _ _) (below_step hb03 hbx)
            · have HR2 : Hid (restR V b0 a0 [] = restR V b0 (nxV V t) (acc ++ [(t, V t)])) := by unfold Hid; rw [HRR.out, hst, if_neg hfull]
              have hnr : nxV V t = -1 ∨ (t < nxV V t ∧ nxV V t ≤ 268435456) := nextP_rng (turnB V) t
              have e5 : ((acc.length : Int) == 512) = false := by simp; omega
              have hal2 : acc.length < 512 := by omega
              have HCA := Lib.hid (capAt_any (r.own q) _ _ _ _ q t wr HVr.out HIr.out hq HOK.out.rated)
              have HCV : Hid (capF (r.own q).lim q t = V t) := HCAP.out t
              have HNV : Hid (limA (r.own q).lim t = nxV V t) := HNXT.out t
              clear hst hfull
              go_wp2_with fail
              refine HCA.out.mono ?_
              rintro e w4 ⟨rfl, hb4⟩
              rw [HCV.out]
              have hbx4 := below_step hbx hb4
              have hown4 := own_below hown hb4
              have u0 : ∀ j, w4.cell? ⟨gm, j, none⟩ = _ := fun j => (hb4.cell (p := ⟨gm, j, none⟩) v1).trans (v0 j)
              have u1 : gm < w4.heap.size := Nat.lt_of_lt_of_le v1 hb4.size
              generalize V t = vt at *
              generalize (r.own q).S.F[q] = xf at *
              have hfld : ∀ w, (Instr.field 56 (.agg #[.int .i64 xf.a, .int .i64 xf.b, .int .i64 xf.c, .int .i64 vt]) 1).run Tryz.prog w = .ok (.int .i64 vt) w := fun _ => by kernel_rfl
              clear v0 v1 z0 z1 hown
              go_wp2_with (at_builtin; refine wpList_append_row _ _ rfl (.tmp 61) (.tmp 69) _ rfl wm.heap.size 52 i1 _ 2 16 Tryz.underlying48 hj hw0 hw1 hw2 rfl (by decide) _ _ _ rfl hown4 _ rfl rfl (by intro u hu; simp at hu; rcases hu with rfl | rfl <;> rfl) (by omega) (by omega) hbx4.size ?_; intro v' w5 hown5 hgrow hblk; have hb5 := below_grown hbx4 hown4 (Nat.le_refl _) hgrow; have p0 : ∀ j, w5.cell? ⟨gm, j, none⟩ = _ := (fun j => (hb5.cell (p := ⟨gm, j, none⟩) hg3).trans (hx3 j)); have p1 : gm < w5.heap.size := Nat.lt_of_lt_of_le hg3 hb5.size; clear u0 u1 hgrow hblk hown4)
              refine (limNext_in (r.own q) _ _ _ _ t _ (HV3.out.below hb5) (HI3.out.below hb5) HOK.out.rated HOF.out hol hul HOC.out t0 t1).mono ?_
              rintro e w6 ⟨rfl, hb6⟩
              rw [HNV.out]
              have hown6 := own_below hown5 hb6
              have hbx6 := below_step hb5 hb6
              go_wp2_with fail
              go_roundw
              case measure => exact mesT_dec t0 t1 hnr
              case rel => exact ⟨acc ++ [(t, vt)], nxV V t, rfl, by omega, by simp; omega, hbx6, by rw [List.length_append, List.flatMap_append]; exact hown6, HR2⟩
          · have HN := Lib.hid (HS2.out acc (by rw [HRR.out]; exact restR_end hin))
            have HOWN := Lib.hid (IsSl.of_own encP_len hown rfl)
            have hcase : t < 0 ∨ (0 ≤ t ∧ ¬ t < b0) := by omega
            clear hin hown
            rcases hcase with j1 | ⟨j1, j2⟩
            all_goals
              go_wp2_with fail
              go_ret2
              exact LserPost.mk HN.out HOWN.out (below_step hb03 hbx)
  · have HN := Lib.hid (lser_bad (f := f) (a := a0) (b := b0) he)
    have hne : (limE r != 0) = true := by simpa using he
    go_wp2_with fail
    go_ret2
    exact LserPost.mk HN.out (IsSl.nil _ _) hb01

end Go.Proofs.YtmappmeojmdekaaGreatDoor

namespace Go.Proofs.YtmappmeojmdekaaGreatDoor
open Go.RowKit
set_option linter.unusedVariables false

def xF : Feed := ⟨⟨#[70]⟩, -1, 10000, 0, 0⟩
def xS : SiteR := ⟨⟨#[83]⟩, [xF], []⟩
def xU : CurR := ⟨⟨#[101]⟩, 1, 0, 10, 20, 3000, false⟩
def x0R : RulR := ⟨xS, ⟨0, false⟩, [], []⟩
def x1R : RulR := ⟨xS, ⟨0, false⟩, [], [xU]⟩
theorem x0_ok : limE x0R = 0 := by decide +kernel
theorem x1_ok : limE x1R = 0 := by decide +kernel
theorem x0_cap (i : Int) (t : Int) : capF x0R.lim i t = capF x0R.lim i 0 := rfl
theorem x1_cap (t : Int) : capF x1R.lim 0 t = if 10 ≤ t ∧ t < 20 then 3000 else 10000 := by
  have e : cAt x1R.lim.C x1R.lim.z 0 t = 1073741824 := rfl
  have e2 : uAt x1R.lim.U 0 t = if 10 ≤ t ∧ t < 20 then 3000 else 1073741824 := by
    show uStep 0 t noL xU = _
    by_cases h : 10 ≤ t ∧ t < 20
    · rw [if_pos h, uStep_t (c := xU) (f := 0) (t := t) ⟨rfl, rfl, h.1, h.2⟩]; rfl
    · rw [if_neg h, uStep_f (c := xU) (f := 0) (t := t) (fun g => h ⟨g.2.2.1, g.2.2.2⟩)]; rfl
  unfold capF totF
  rw [e, e2]
  have e3 : x1R.lim.R.getD (0 : Int).toNat 0 = 10000 := by decide
  rw [e3]
  split <;> omega
theorem x0_next : limN x0R 0 = -1 := by
  rw [limN_in x0_ok (by omega) (by omega)]
  refine nextP_of (.inr ⟨rfl, fun u _ _ => ?_⟩)
  rw [difR_false]
  intro i _
  rfl
theorem x1_dif (t : Int) : difR x1R.lim t = (decide (t = 10) || decide (t = 20)) := by
  rw [Bool.eq_iff_iff, ← Bool.not_eq_false, difR_false]
  have hl : x1R.lim.R.length = 1 := rfl
  rw [hl]
  constructor
  · intro h
    apply Classical.byContradiction
    intro g
    refine h fun i hi => ?_
    obtain rfl : i = 0 := by omega
    simp at g
    have := x1_cap t
    have := x1_cap (t - 1)
    simp only [Int.natCast_zero] at *
    rw [x1_cap, x1_cap]
    split <;> split <;> omega
  · intro h g
    have := g 0 (by omega)
    simp only [Int.natCast_zero] at this
    rw [x1_cap, x1_cap] at this
    simp at h
    rcases h with rfl | rfl
    · rw [if_pos (by omega), if_neg (by omega)] at this; omega
    · rw [if_neg (by omega), if_pos (by omega)] at this; omega
theorem x1_next : limN x1R 0 = 10 := by
  rw [limN_in x1_ok (by omega) (by omega)]
  refine nextP_of (.inl ⟨by omega, by omega, by rw [x1_dif]; decide, fun u a b => ?_⟩)
  rw [x1_dif]
  simp; omega
theorem x1_turn (t : Int) : turnB (capF x1R.lim 0) t = (decide (t = 10) || decide (t = 20)) := by
  rw [← x1_dif, Bool.eq_iff_iff, ← Bool.not_eq_false, ← Bool.not_eq_false (difR _ _), turnB_false, difR_false]
  refine not_congr ⟨fun h i hi => ?_, fun h => h 0 (by decide)⟩
  have hl : x1R.lim.R.length = 1 := rfl
  obtain rfl : i = 0 := by omega
  exact h
theorem x1_nx (t : Int) : (t = 0 → nxV (capF x1R.lim 0) t = 10) ∧ (t = 10 → nxV (capF x1R.lim 0) t = 20) ∧ (t = 20 → nxV (capF x1R.lim 0) t = -1) := by
  refine ⟨?_, ?_, ?_⟩
  · rintro rfl
    refine nextP_of (.inl ⟨by omega, by omega, by rw [x1_turn]; decide, fun u a b => ?_⟩)
    rw [x1_turn]; simp; omega
  · rintro rfl
    refine nextP_of (.inl ⟨by omega, by omega, by rw [x1_turn]; decide, fun u a b => ?_⟩)
    rw [x1_turn]; simp; omega
  · rintro rfl
    refine nextP_of (.inr ⟨rfl, fun u a b => ?_⟩)
    rw [x1_turn]; simp; omega
theorem x1_series : restR (capF x1R.lim 0) 30 0 [] = some [(0, 10000), (10, 3000), (20, 10000)] := by
  rw [restR_step (by omega) (by omega), (x1_nx 0).1 rfl, if_neg (by decide), restR_step (by omega) (by omega), (x1_nx 10).2.1 rfl, if_neg (by decide), restR_step (by omega) (by omega), (x1_nx 20).2.2 rfl, if_neg (by decide), restR_end (by omega), x1_cap, x1_cap, x1_cap]
  rfl
theorem x1_path : pathA x1R 0 15 = 3000 := by
  unfold pathA
  rw [if_neg (by rw [x1_ok]; decide), show pathL x1R.S.F x1R.S.F.length 0 = [0] by decide +kernel, List.foldl_cons, List.foldl_nil, show ((0 : Nat) : Int) = 0 from rfl, x1_cap]
  rfl
theorem x1_caps : capsL x1R 15 = [⟨10000, 0, 0, 3000⟩] := by
  have : capsL x1R 15 = [capFd x1R 15 xF 0] := rfl
  rw [this]
  unfold capFd
  rw [x1_cap]
  rfl

end Go.Proofs.YtmappmeojmdekaaGreatDoor

namespace Go.Proofs.YtmappmeojmdekaaGreatDoor
open Go.RowKit Go.Lib Go.Maps
attribute [local go_sem] after_cell
set_option linter.unusedVariables false

theorem feed_len5 (f : Feed) : f.cells.length = 5 := rfl
theorem cur_len7 (c : CurR) : c.cells.length = 7 := rfl
theorem x_fits : xF.fits ∧ xU.fits := by
  refine ⟨by unfold Feed.fits xF maxLen; decide, by unfold xU maxLen; decide, I64.mk (by decide) (by decide), I64.mk (by decide) (by decide)⟩
theorem x1_lser : LserIs x1R 0 0 30 0 [(0, 10000), (10, 3000), (20, 10000)] := lser_some x1_ok (by decide) (by decide) x1_series
theorem x1_atE : atE x1R 15 = 0 := atE_ok x1_ok (timeB_t (by decide) (by decide))
theorem x1_atL : atL x1R 15 = [⟨10000, 0, 0, 3000⟩] := by rw [atL_ok x1_atE, x1_caps]

set_option maxRecDepth 100000 in
set_option maxHeartbeats 12800000 in
theorem limEx_any (w : World) (hv : LenV w) : Calls Tryz.prog 11 #[] w fun e w' => e = .returned (.bool true) ∧ Below w.heap.size w w' := by
  obtain ⟨W2, hW2⟩ : ∃ W2, W2 = (w.alloc (.cells #[.string ⟨#[70]⟩, .int .i64 (-1), .int .i64 10000, .int .i64 0, .int .i64 0] 61)).alloc (.cells #[.string ⟨#[83]⟩, .slice (some ⟨w.heap.size, 0, none⟩) 1 1, .slice none 0 0, .int .i64 0, .bool false, .slice none 0 0, .slice none 0 0] 31) := ⟨_, rfl⟩
  have hb2 : Below w.heap.size w W2 := by rw [hW2]; exact below_alloc (below_alloc (Below.refl _ _) _) _
  have hF2 : Blk W2 w.heap.size 61 ([xF].flatMap Feed.cells) := by rw [hW2]; exact (Blk.new' rfl _ _ rfl).alloc _
  have hR2 : Blk W2 (w.heap.size + 1) 31 [.string ⟨#[83]⟩, .slice (some ⟨w.heap.size, 0, none⟩) 1 1, .slice none 0 0, .int .i64 0, .bool false, .slice none 0 0, .slice none 0 0] := by rw [hW2]; exact Blk.new' (by simp) _ _ rfl
  have hLI : ∀ W, Blk W w.heap.size 61 ([xF].flatMap Feed.cells) → LimIn W x0R (.slice (some ⟨w.heap.size, 0, none⟩) 1 1) (.slice none 0 0) (.slice none 0 0) (.slice none 0 0) := fun W h =>
    ⟨Blk.isSl feed_len5 h rfl (by unfold maxLen; decide), IsSl.nil _ _, IsSl.nil _ _, IsSl.nil _ _, by unfold x0R xS maxLen; decide, by intro f hf; simp [x0R, xS] at hf; subst hf; exact x_fits.1, by intro p hp; simp [x0R, xS] at hp, by intro c hc; simp [x0R] at hc, by intro c hc; simp [x0R] at hc⟩
  have HLI := Lib.hid hLI
  have HV := Lib.hid hv
  clear hLI hv
  have s2 := hR2.lt
  have t2 := hF2.lt
  go_enter Tryz.func11, Tryz.ntmps11
  go_wp2_with fail
  rw [← hW2]
  clear hW2
  refine (limValid_any x0R _ _ _ _ W2 (HLI.out W2 hF2)).mono ?_
  rintro e w3 ⟨rfl, hb3⟩
  rw [x0_ok]
  have hF3 := hF2.below hb3 t2
  have hR3 := hR2.below hb3 s2
  have hb03 := below_step hb2 hb3
  have y3 := fun j => hR3.arr j
  have s3 := hR3.lt
  clear hF2 hR2 s2 t2 hb2 hb3
  go_wp2_with fail
  refine (limNext_any x0R _ _ _ _ 0 w3 (HV.out.below hb03) (HLI.out w3 hF3)).mono ?_
  rintro e w4 ⟨rfl, hb4⟩
  rw [x0_next]
  have hF4 := hF3.below hb4 hF3.lt
  have hR4 := hR3.below hb4 s3
  have hb04 := below_step hb03 hb4
  have y4 := fun j => hR4.arr j
  have f4 := fun j => hR4.free j
  have s4 := hR4.lt
  have t4 := hF4.lt
  clear hF3 hR3 y3 s3 hb03 hb4
  obtain ⟨W5, hW5⟩ : ∃ W5, W5 = (w4.setCell ⟨w.heap.size + 1, 6, none⟩ (.slice (some ⟨w4.heap.size, 0, none⟩) 1 1)).alloc (.cells #[.string ⟨#[101]⟩, .int .i64 1, .int .i64 0, .int .i64 10, .int .i64 20, .int .i64 3000, .bool false] 63) := ⟨_, rfl⟩
  have hb05 : Below w.heap.size w W5 := by rw [hW5]; exact below_alloc (below_set hb04 (Nat.le_succ _) _) _
  have hF5 : Blk W5 w.heap.size 61 ([xF].flatMap Feed.cells) := by rw [hW5]; exact (hF4.other (by omega) _).alloc _
  have hR5 : Blk W5 (w.heap.size + 1) 31 [.string ⟨#[83]⟩, .slice (some ⟨w.heap.size, 0, none⟩) 1 1, .slice none 0 0, .int .i64 0, .bool false, .slice none 0 0, .slice (some ⟨w4.heap.size, 0, none⟩) 1 1] := by rw [hW5]; exact (hR4.set 6 _).alloc _
  have hU5 : Blk W5 w4.heap.size 63 ([xU].flatMap CurR.cells) := by rw [hW5]; exact Blk.new' (by simp [World.setCell]) _ _ rfl
  have hL5 : LimIn W5 x1R (.slice (some ⟨w.heap.size, 0, none⟩) 1 1) (.slice none 0 0) (.slice none 0 0) (.slice (some ⟨w4.heap.size, 0, none⟩) 1 1) :=
    ⟨Blk.isSl feed_len5 hF5 rfl (by unfold maxLen; decide), IsSl.nil _ _, IsSl.nil _ _, Blk.isSl cur_len7 hU5 rfl (by unfold maxLen; decide), by unfold x1R xS maxLen; decide, by intro f hf; simp [x1R, xS] at hf; subst hf; exact x_fits.1, by intro p hp; simp [x1R, xS] at hp, by intro c hc; simp [x1R] at hc, by intro c hc; simp [x1R] at hc; subst hc; exact x_fits.2⟩
  have HL5 := Lib.hid hL5
  have y5 := fun j => hR5.arr j
  have s5 := hR5.lt
  have HV5 := Lib.hid (HV.out.below hb05)
  clear hL5 hF4 hb04 hF5 hU5
  go_wp2_with fail
  rw [← hW5]
  clear hW5 y4 f4 s4 t4 hR4
  refine (limSeries_any x1R _ _ _ _ 0 0 30 W5 HV5.out HL5.out).mono ?_
  rintro e w6 ⟨v6, rfl, hs6, hb6⟩
  rw [x1_lser.e]
  rw [x1_lser.l] at hs6
  obtain ⟨A6, c6, rfl, hl6, hm6, hsl6⟩ := islen' hs6
  have HS6 := Lib.hid hsl6
  have y6 : ∀ j, w6.cell? ⟨w.heap.size + 1, j, none⟩ = _ := fun j => (hb6.cell (p := ⟨w.heap.size + 1, j, none⟩) s5).trans (y5 j)
  have s6 : w.heap.size + 1 < w6.heap.size := Nat.lt_of_lt_of_le s5 hb6.size
  have hb06 := below_step hb05 hb6
  clear hs6 hsl6
  go_wp2_with fail
  refine (limAt_any x1R _ _ _ _ 15 w6 (HV5.out.below hb6) (HL5.out.below hb6)).mono ?_
  rintro e w7 ⟨v7, rfl, hs7, hb7⟩
  rw [x1_atE]
  rw [x1_atL] at hs7
  obtain ⟨A7, c7, rfl, hl7, hm7, hsl7⟩ := islen' hs7
  obtain ⟨g7, o7, rfl, hg7, k0, k1, k2, k3⟩ := cap_at hsl7 (k := 0) (by decide)
  obtain ⟨g6, o6, rfl, hg6, p0, p1⟩ := pair_at (HS6.out.below hb7) (k := 0) rfl
  obtain ⟨g6', o6', hA6, _, q0, q1⟩ := pair_at (HS6.out.below hb7) (k := 1) rfl
  injection hA6 with hA6
  injection hA6 with hA1 hA2 _
  subst hA1; subst hA2
  obtain ⟨g6', o6', hA6, _, r0, r1⟩ := pair_at (HS6.out.below hb7) (k := 2) rfl
  injection hA6 with hA6
  injection hA6 with hA1 hA2 _
  subst hA1; subst hA2
  simp only [Nat.zero_mul, Nat.one_mul, Nat.add_zero] at k0 k1 k2 k3 p0 p1 q0 q1 r0 r1
  have y7 : ∀ j, w7.cell? ⟨w.heap.size + 1, j, none⟩ = _ := fun j => (hb7.cell (p := ⟨w.heap.size + 1, j, none⟩) s6).trans (y6 j)
  have s7 : w.heap.size + 1 < w7.heap.size := Nat.lt_of_lt_of_le s6 hb7.size
  have hb07 := below_step hb06 hb7
  clear hs7 hsl7 y6 s6 y5 s5
  go_wp2_with fail
  refine (limNext_any x1R _ _ _ _ 0 w7 (HV5.out.below (below_step hb6 hb7)) (HL5.out.below (below_step hb6 hb7))).mono ?_
  rintro e w8 ⟨rfl, hb8⟩
  rw [x1_next]
  have y8 : ∀ j, w8.cell? ⟨w.heap.size + 1, j, none⟩ = _ := fun j => (hb8.cell (p := ⟨w.heap.size + 1, j, none⟩) s7).trans (y7 j)
  have s8 : w.heap.size + 1 < w8.heap.size := Nat.lt_of_lt_of_le s7 hb8.size
  clear y7 s7 k0 k1 k2 k3 p0 p1 q0 q1 r0 r1 hg7 hg6
  go_wp2_with fail
  refine (limPath_any x1R _ _ _ _ 0 15 w8 (HV5.out.below (below_step (below_step hb6 hb7) hb8)) (HL5.out.below (below_step (below_step hb6 hb7) hb8))).mono ?_
  rintro e w9 ⟨rfl, hb9⟩
  rw [x1_path]
  go_wp2_with fail
  go_ret
  exact ⟨rfl, below_step (below_step hb07 hb8) hb9⟩

/-- a call that answers with some bool -/
def SomeBool (w : World) (e : Ending) (w' : World) : Prop := ∃ b, e = .returned (.bool b) ∧ Below w.heap.size w w'

set_option maxRecDepth 100000 in
set_option maxHeartbeats 6400000 in
theorem limSmall_any (r : RulR) (fv pv cv uv : Value) (w : World) (hI : LimIn w r fv pv cv uv) :
    Calls Tryz.prog 10 #[.agg #[.string r.S.name, fv, pv, .int .i64 r.z.off, .bool r.z.sum, cv, uv]] w (SomeBool w) := by
  obtain ⟨A, B, C, D, a, b, c, d, rfl, rfl, rfl, rfl, hA⟩ := hI.ad
  obtain ⟨l1, l2⟩ := hA.lF
  obtain ⟨m1, m2⟩ := hA.lP
  obtain ⟨n1, n2⟩ := hA.lC
  obtain ⟨o1, o2⟩ := hA.lU
  unfold maxLen at l2 m2 n2 o2
  clear hA hI
  have hcase : ¬ (r.S.F.length : Int) ≤ 40 ∨ ((r.S.F.length : Int) ≤ 40 ∧ ¬ (r.S.P.length : Int) ≤ 40) ∨ ((r.S.F.length : Int) ≤ 40 ∧ (r.S.P.length : Int) ≤ 40 ∧ ¬ (r.C.length : Int) ≤ 20) ∨ ((r.S.F.length : Int) ≤ 40 ∧ (r.S.P.length : Int) ≤ 40 ∧ (r.C.length : Int) ≤ 20 ∧ ¬ (r.U.length : Int) ≤ 70) ∨ ((r.S.F.length : Int) ≤ 40 ∧ (r.S.P.length : Int) ≤ 40 ∧ (r.C.length : Int) ≤ 20 ∧ (r.U.length : Int) ≤ 70) := by omega
  rcases hcase with h1 | ⟨h1, h2⟩ | ⟨h1, h2, h3⟩ | ⟨h1, h2, h3, h4⟩ | ⟨h1, h2, h3, h4⟩
  all_goals
    go_enter Tryz.func10, Tryz.ntmps10
    go_wp2_with fail
    go_ret
    exact ⟨_, rfl, below_alloc (Below.refl _ _) _⟩

set_option maxRecDepth 100000 in
set_option maxHeartbeats 6400000 in
theorem limLight_any (r : RulR) (fv pv cv uv : Value) (t : Int) (w : World) (hI : LimIn w r fv pv cv uv) :
    Calls Tryz.prog 17 #[.agg #[.string r.S.name, fv, pv, .int .i64 r.z.off, .bool r.z.sum, cv, uv], .int .i64 t] w (SomeBool w) := by
  obtain ⟨A, B, C, D, a, b, c, d, rfl, rfl, rfl, rfl, hA⟩ := hI.ad
  obtain ⟨W0, hW0, hb0, hg0, hx0⟩ := box1 w #[.string r.S.name, .slice A r.S.F.length a, .slice B r.S.P.length b, .int .i64 r.z.off, .bool r.z.sum, .slice C r.C.length c, .slice D r.U.length d] 31
  have HA0 := Lib.hid (hA.below hb0)
  obtain ⟨l1, l2⟩ := hA.lF
  obtain ⟨m1, m2⟩ := hA.lP
  obtain ⟨n1, n2⟩ := hA.lC
  obtain ⟨o1, o2⟩ := hA.lU
  unfold maxLen at l2 m2 n2 o2
  clear hA hI
  by_cases hall : r.S.F.length ≤ 4 ∧ r.S.P.length ≤ 4 ∧ r.C.length ≤ 4 ∧ r.U.length ≤ 4
  · obtain ⟨h1, h2, h3, h4⟩ := hall
    have i1 : ¬ (4 : Int) < (r.S.F.length : Int) := by omega
    have i2 : ¬ (4 : Int) < (r.S.P.length : Int) := by omega
    have i3 : ¬ (4 : Int) < (r.C.length : Int) := by omega
    have i4 : ¬ (4 : Int) < (r.U.length : Int) := by omega
    go_enter Tryz.func17, Tryz.ntmps17
    go_wp2_with fail
    rw [← hW0]
    clear hW0 i1 i2 i3 i4
    go_loopw [5] (fun i wr => ∃ k : Nat, k ≤ r.C.length ∧ i = .int .i64 k ∧ Below W0.heap.size W0 wr) (fun i _ => r.C.length - (intOf i).toNat)
    case atStart => exact ⟨0, by omega, rfl, Below.refl _ _⟩
    case round =>
      obtain ⟨k, hk, rfl, hbw⟩ := hrel
      have y0 : ∀ j, wr.cell? ⟨w.heap.size, j, none⟩ = _ := fun j => (hbw.cell (p := ⟨w.heap.size, j, none⟩) hg0).trans (hx0 j)
      have y1 : w.heap.size < wr.heap.size := Nat.lt_of_lt_of_le hg0 hbw.size
      by_cases hlt : k < r.C.length
      · have hki : (k : Int) < (r.C.length : Int) := by omega
        obtain ⟨blk, off, rfl, hb, c0, c1, c2, c3, c4, c5, c6, c7⟩ := con_at (HA0.out.below hbw).sC hlt
        generalize r.C[k] = x at *
        have e3 : wr.cell? ⟨blk, off + k * 8 + 2 + 1, none⟩ = _ := c3
        have e4 : wr.cell? ⟨blk, off + k * 8 + 2 + 2, none⟩ = _ := c4
        have e5 : wr.cell? ⟨blk, off + k * 8 + 2 + 3, none⟩ = _ := c5
        have e6 : wr.cell? ⟨blk, off + k * 8 + 2 + 4, none⟩ = _ := c6
        clear c0 c1 c3 c4 c5 c6 c7
        by_cases k1 : x.w.to < 0
        · go_wp2_with fail
          go_ret
          exact ⟨_, rfl, below_step hb0 (below_alloc hbw _)⟩
        · by_cases k2 : 268435456 < x.w.to
          · go_wp2_with fail
            go_ret
            exact ⟨_, rfl, below_step hb0 (below_alloc hbw _)⟩
          · cases ht : timeB t with
            | false =>
              go_wp2_with (first | (go_at_call 22; refine (refRight_any _ _).mono ?_; rintro e w2 ⟨rfl, rfl⟩; rw [ht]))
              go_roundw
              case measure => simp [intOf]; omega
              case rel => exact ⟨k + 1, by omega, by go_num, below_alloc hbw _⟩
            | true =>
              have htr := timeB_iff.1 ht
              have hwt : IntKind.i64.wrap (t + 57600) = t + 57600 := IntWalk.i64_in _ (by omega)
              by_cases k3 : t + 57600 < x.w.to
              · go_wp2_with (first | (go_at_call 22; refine (refRight_any _ _).mono ?_; rintro e w2 ⟨rfl, rfl⟩; rw [ht]))
                go_ret
                exact ⟨_, rfl, below_step hb0 (below_alloc hbw _)⟩
              · go_wp2_with (first | (go_at_call 22; refine (refRight_any _ _).mono ?_; rintro e w2 ⟨rfl, rfl⟩; rw [ht]))
                go_roundw
                case measure => simp [intOf]; omega
                case rel => exact ⟨k + 1, by omega, by go_num, below_alloc hbw _⟩
      · have hki : ¬ (k : Int) < (r.C.length : Int) := by omega
        go_wp2_with fail
        go_ret
        exact ⟨_, rfl, below_step hb0 hbw⟩
  · have hcase : (4 : Int) < (r.S.F.length : Int) ∨ (¬ (4 : Int) < (r.S.F.length : Int) ∧ (4 : Int) < (r.S.P.length : Int)) ∨ (¬ (4 : Int) < (r.S.F.length : Int) ∧ ¬ (4 : Int) < (r.S.P.length : Int) ∧ (4 : Int) < (r.C.length : Int)) ∨ (¬ (4 : Int) < (r.S.F.length : Int) ∧ ¬ (4 : Int) < (r.S.P.length : Int) ∧ ¬ (4 : Int) < (r.C.length : Int) ∧ (4 : Int) < (r.U.length : Int)) := by omega
    clear hall
    rcases hcase with h1 | ⟨h1, h2⟩ | ⟨h1, h2, h3⟩ | ⟨h1, h2, h3, h4⟩
    all_goals
      go_enter Tryz.func17, Tryz.ntmps17
      go_wp2_with fail
      go_ret
      exact ⟨_, rfl, by rw [← hW0]; exact hb0⟩

end Go.Proofs.YtmappmeojmdekaaGreatDoor

namespace Go.Proofs.YtmappmeojmdekaaGreatDoor
open Go.RowKit
set_option linter.unusedVariables false

/-- the kind of a cell -/
inductive CellK where
  | bool
  | int (k : IntKind)
  | str
  | sl (e : List CellK)

mutual
/-- the cell v, read in w, is of this kind -/
def CellK.fits (w : World) : CellK → Value → Prop
  | .bool, v => ∃ b, v = .bool b
  | .int k, v => ∃ n, v = .int k n ∧ (Lit.int k n).wf = true
  | .str, v => ∃ s : ByteArray, v = .string s ∧ s.size ≤ maxLen
  | .sl e, v => ∃ rows : List (List Value), IsSl w e.length v rows ∧ ∀ row ∈ rows, CellK.fitsAll w e row
def CellK.fitsAll (w : World) : List CellK → List Value → Prop
  | [], vs => vs = []
  | k :: ks, vs => ∃ v r, vs = v :: r ∧ CellK.fits w k v ∧ CellK.fitsAll w ks r
end

theorem fitsAll_append {w : World} : ∀ {a b : List CellK} {xs ys : List Value}, CellK.fitsAll w a xs → CellK.fitsAll w b ys → CellK.fitsAll w (a ++ b) (xs ++ ys)
  | [], b, xs, ys, h, h2 => by unfold CellK.fitsAll at h; subst h; exact h2
  | k :: a, b, xs, ys, h, h2 => by
    unfold CellK.fitsAll at h
    obtain ⟨v, r, rfl, h0, h1⟩ := h
    rw [List.cons_append, List.cons_append]
    unfold CellK.fitsAll
    exact ⟨v, r ++ ys, rfl, h0, fitsAll_append h1 h2⟩

/-- the cells of a type of plain data -/
def flatK (P : Program) : Nat → TypeId → Option (List CellK)
  | 0, _ => none
  | n + 1, t =>
    match P.underlying t with
    | some .bool => some [.bool]
    | some (.int k) => some [.int k]
    | some .string => some [.str]
    | some (.slice e) => (flatK P n e).bind fun ks => if ks.length = P.cellsOf e ∧ 0 < ks.length then some [.sl ks] else none
    | some (.struct fs) =>
      (fs.toList.foldlM (fun acc f => if f.offset = acc.length then (flatK P n f.type).bind fun ks => if ks.length = P.cellsOf f.type then some (acc ++ ks) else none else none) []).bind fun ks => if ks.length = P.cellsOf t then some ks else none
    | _ => none

section
variable {H : Type} {enc : TypeId × Value → H} {P : Program} {w : World} {held : Bool}

theorem flat_fields {n : Nat} {cs : List Value} {m : Nat} (ih : ∀ t ks, flatK P n t = some ks → ∀ fuel cs x, DataW.trod enc P w 0 (fun _ => true) held fuel t cs = some x → CellK.fitsAll w ks cs) :
    ∀ (l : List Field) (acc r : List CellK), l.foldlM (fun acc f => if f.offset = acc.length then (flatK P n f.type).bind fun ks => if ks.length = P.cellsOf f.type then some (acc ++ ks) else none else none) acc = some r →
      (∀ f ∈ l, ∃ y, DataW.trod enc P w 0 (fun _ => true) held m f.type ((cs.drop f.offset).take (P.cellsOf f.type)) = some y) → CellK.fitsAll w acc (cs.take acc.length) → CellK.fitsAll w r (cs.take r.length)
  | [], acc, r, h, _, h0 => by simp at h; subst h; exact h0
  | f :: l, acc, r, h, hf, h0 => by
    rw [List.foldlM_cons] at h
    simp only [Option.bind_eq_bind, Option.bind_eq_some_iff] at h
    obtain ⟨acc2, h1, h2⟩ := h
    split at h1
    · rename_i ho
      rw [Option.bind_eq_some_iff] at h1
      obtain ⟨ks, hk, h1⟩ := h1
      split at h1
      · rename_i hc
        injection h1 with h1
        subst h1
        refine flat_fields ih l _ r h2 (fun g hg => hf g (by simp [hg])) ?_
        obtain ⟨y, hy⟩ := hf f (by simp)
        have hx := ih _ _ hk _ _ _ hy
        rw [ho, ← hc] at hx
        rw [List.length_append, List.take_add]
        exact fitsAll_append h0 hx
      · simp at h1
    · simp at h1

theorem cell_lt {w : World} {a : Addr} {v : Value} (h : w.cell? a = some v) : a.block < w.heap.size := by
  unfold World.cell? at h
  split at h
  · rename_i c e f hb
    exact (Array.getElem?_eq_some_iff.1 hb).1
  · simp at h

theorem flatK_trod : ∀ (n : Nat) (t : TypeId) (ks : List CellK), flatK P n t = some ks → ∀ (fuel : Nat) (cs : List Value) (x : DataW H × List MemPlace), DataW.trod enc P w 0 (fun _ => true) held fuel t cs = some x → CellK.fitsAll w ks cs
  | 0, t, ks, h, _, _, _, _ => by simp [flatK] at h
  | n + 1, t, ks, h, fuel, cs, x, hx => by
    unfold flatK at h
    split at h
    · rename_i hu
      injection h with h; subst h
      obtain ⟨b, rfl, _⟩ := DataW.trod_bool hu hx
      simp [CellK.fitsAll, CellK.fits]
    · rename_i k hu
      injection h with h; subst h
      obtain ⟨m, rfl, _, hw⟩ := DataW.trod_int hu hx
      simp [CellK.fitsAll, CellK.fits, hw]
    · rename_i hu
      injection h with h; subst h
      obtain ⟨s, rfl, _, hw⟩ := DataW.trod_string hu hx
      simp only [CellK.fitsAll, CellK.fits]
      exact ⟨_, _, rfl, ⟨s, rfl, hw⟩, rfl⟩
    · rename_i e hu
      rw [Option.bind_eq_some_iff] at h
      obtain ⟨es, he, h⟩ := h
      split at h
      · rename_i hc
        injection h with h; subst h
        simp only [CellK.fitsAll, CellK.fits]
        rcases Go.Deep.open_slice hu hx with ⟨rfl, _⟩ | ⟨a, len, cap, m, q, D, Pl, rfl, hb, hl, hcm, hm, _, hel⟩
        · exact ⟨_, _, rfl, ⟨[], IsSl.nil _ _, by simp⟩, rfl⟩
        · refine ⟨_, _, rfl, ?_, rfl⟩
          have hm' : m = cap := by rw [hm]; simp
          subst hm'
          obtain ⟨R, hR⟩ := Go.Deep.choose_lt (α := List Value) (p := fun i r => w.cells? 0 (a.add (i * P.cellsOf e)) (P.cellsOf e) = some r ∧ CellK.fitsAll w es r) (n := len) (fun i hi => by
            obtain ⟨r, h1, h2⟩ := hel i (by omega)
            exact ⟨r, h1, flatK_trod n e es he _ _ _ h2⟩)
          refine ⟨(List.range len).map R, ⟨some a, m, by simp, by simpa using hl, hcm, ?_⟩, ?_⟩
          · intro k row hk
            rw [List.getElem?_map] at hk
            have hkl : k < len := by
              rcases Nat.lt_or_ge k len with h | h
              · exact h
              · rw [List.getElem?_eq_none (by simpa using h)] at hk; simp at hk
            rw [List.getElem?_range hkl] at hk
            obtain rfl : R k = row := by simpa using hk
            have hcell : ∀ i j, i < len → j < es.length → w.cell? (a.add (i * es.length + j)) = (R i)[j]? := fun i j hi hj => by
              obtain ⟨_, _, h3⟩ := World.cells?_some (hR i hi).1
              rw [hc.1, ← Go.Deep.add_add]
              exact h3 j (by rw [← hc.1]; exact hj)
            have hlenR : ∀ i, i < len → (R i).length = es.length := fun i hi => by
              obtain ⟨_, h2, _⟩ := World.cells?_some (hR i hi).1
              rw [h2, hc.1]
            have h00 := hcell 0 0 (by omega) hc.2
            have h0s : w.cell? a = some ((R 0)[0]'(by rw [hlenR 0 (by omega)]; exact hc.2)) := by
              simp only [Nat.zero_mul, Nat.zero_add] at h00
              have ha : a.add 0 = a := by unfold Addr.add; simp
              rw [ha] at h00
              rw [h00, List.getElem?_eq_getElem]
            have hspot := World.cell?_spot h0s
            obtain ⟨b, off, spot⟩ := a
            have hspot' : spot = none := hspot
            subst hspot'
            refine ⟨b, off, rfl, cell_lt h0s, fun j u hu => ?_⟩
            have hj : j < es.length := by rw [← hlenR k hkl]; exact (List.getElem?_eq_some_iff.1 hu).1
            have h4 := hcell k j hkl hj
            rw [hu] at h4
            have ea : (⟨b, off, none⟩ : Addr).add (k * es.length + j) = ⟨b, off + k * es.length + j, none⟩ := by
              unfold Addr.add
              split
              · rename_i hz
                first | (simp; done) | (simp; omega)
              · first | (simp; done) | (simp; omega)
            rw [ea] at h4
            exact h4
          · intro row hr
            obtain ⟨i, hi, rfl⟩ := List.mem_map.1 hr
            exact (hR i (List.mem_range.1 hi)).2
      · simp at h
    · rename_i fs hu
      rw [Option.bind_eq_some_iff] at h
      obtain ⟨r, hr, h⟩ := h
      split at h
      · rename_i hc
        injection h with h; subst h
        obtain ⟨xs, q, _, _, hl, hlen, hf⟩ := DataW.trod_struct hu hx
        have hh := flat_fields (cs := cs) (m := q) (fun t ks hk fuel cs x hx => flatK_trod n t ks hk fuel cs x hx) fs.toList [] r hr (fun f hf' => by
          obtain ⟨i, hi⟩ := List.getElem?_of_mem hf'
          have hi' : fs[i]? = some f := by simpa using hi
          have hil : i < xs.length := by rw [hlen]; exact (Array.getElem?_eq_some_iff.1 hi').1
          exact ⟨xs[i], by rw [hf i f hi', List.getElem?_eq_getElem hil]⟩) (by simp [CellK.fitsAll])
        rw [hc, ← hl, List.take_of_length_le (by omega)] at hh
        exact hh
      · simp at h
    · simp at h

/-- an argument of plain data, opened -/
theorem open_arg {t : TypeId} {v : Value} {d : DataW H} {p : List MemPlace} (ks : List CellK) (hk : flatK P 9 t = some ks) (hd : DataW.Trod enc P w 0 (fun _ => true) held t v d p) : CellK.fitsAll w ks v.cells.toList := by
  obtain ⟨fuel, h⟩ := hd
  exact flatK_trod 9 t ks hk fuel _ _ h

theorem open_struct {r : Reach} {b0 : Nat} {t : TypeId} {fs : Array Field} {v : Value} {d : DataW H} {p : List MemPlace} (ks : List CellK) (hk : flatK P 9 t = some ks) (hu : P.underlying t = some (.struct fs)) (hval : Value.okWide P w r b0 t v)
    (hd : DataW.Trod enc P w 0 (fun _ => true) held t v d p) : ∃ cs, v = .agg cs ∧ CellK.fitsAll w ks cs.toList := by
  have h := open_arg ks hk hd
  unfold Value.okWide at hval
  rw [hu] at hval
  obtain ⟨cs, rfl, _⟩ := hval
  exact ⟨cs, rfl, h⟩

theorem open_sl {r : Reach} {b0 : Nat} {t e : TypeId} {v : Value} {d : DataW H} {p : List MemPlace} (ks : List CellK) (hk : flatK P 9 t = some [.sl ks]) (hu : P.underlying t = some (.slice e)) (hval : Value.okWide P w r b0 t v)
    (hd : DataW.Trod enc P w 0 (fun _ => true) held t v d p) : ∃ rows : List (List Value), IsSl w ks.length v rows ∧ ∀ row ∈ rows, CellK.fitsAll w ks row := by
  have h := open_arg _ hk hd
  unfold CellK.fitsAll at h
  obtain ⟨x, r, hx, hf, hr⟩ := h
  unfold CellK.fitsAll at hr
  subst hr
  have hv : v = x := by
    cases v with
    | agg cs =>
      unfold Value.okWide at hval
      rw [hu] at hval
      simp [Cell.okWide, Cell.ok, hu] at hval
    | _ => simp [Value.cells] at hx; exact hx
  subst hv
  unfold CellK.fits at hf
  exact hf

end

theorem agg_of {cs : Array Value} {l : List Value} (h : cs.toList = l) : Value.agg cs = Value.agg l.toArray := by rw [← h]

/-- rows that fit, as a list of structures -/
theorem rows_list {α : Type} {enc : α → List Value} {Q : α → Prop} {w : World} {ks : List CellK} (hq : ∀ row, CellK.fitsAll w ks row → ∃ x, row = enc x ∧ Q x) :
    ∀ (rows : List (List Value)), (∀ row ∈ rows, CellK.fitsAll w ks row) → ∃ l : List α, rows = l.map enc ∧ ∀ x ∈ l, Q x
  | [], _ => ⟨[], rfl, by simp⟩
  | row :: rows, h => by
    obtain ⟨x, rfl, hx⟩ := hq row (h row (by simp))
    obtain ⟨l, rfl, hl⟩ := rows_list hq rows (fun r hr => h r (by simp [hr]))
    exact ⟨x :: l, rfl, fun y hy => by rcases List.mem_cons.1 hy with rfl | hy; exact hx; exact hl y hy⟩

end Go.Proofs.YtmappmeojmdekaaGreatDoor
