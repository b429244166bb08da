/-
  Walks: a list is divided; Cancel and Expire.
-/
import Derived.Test.YtpokacnbdojncaaDoorWReserve3
import Derived.Test.YtpokacnbdojncaaDoorAp
import Derived.Test.YtpokacnbdojncaaDoorBox
namespace Go.Proofs.YtpokacnbdojncaaDoor
open Go.RowKit Go.Lib Go.Joins
set_option linter.unusedVariables false

theorem resvInfo : (Tryd.prog.info? 24).map (fun i => (i.zero, i.size, i.bytes)) = some (some (.agg #[.int .i64 0, .int .i64 0, .string ⟨#[]⟩, .string ⟨#[]⟩, .int .i64 0]), 5, 56) := by kernel_rfl

theorem filter_take {α : Type} (l : List α) (p : α → Bool) {k : Nat} (h : k < l.length) : (l.take (k + 1)).filter p = if p l[k] then (l.take k).filter p ++ [l[k]] else (l.take k).filter p := by
  rw [List.take_succ_eq_append_getElem h, List.filter_append]
  cases hp : p l[k] <;> simp [hp]
theorem filter_full {α : Type} (l : List α) (p : α → Bool) {k : Nat} (h : ¬ k < l.length) : (l.take k).filter p = l.filter p := by
  rw [List.take_of_length_le (by omega)]
theorem filter_len {α : Type} (l : List α) (p : α → Bool) (k : Nat) : ((l.take k).filter p).length ≤ k := Nat.le_trans (List.length_filter_le _ _) (List.length_take_le _ _)

set_option maxHeartbeats 1600000 in
theorem cancel_fn (r : Resv) (g : Nat) (m : Int) (w : World) (hg : g < w.heap.size) (hm : w.cell? ⟨g, 0, none⟩ = some (.int .i64 m)) :
    Calls Tryd.prog 26 #[.agg #[.int .i64 r.id, .int .i64 r.conn, .string r.token, .string r.group, .int .i64 r.expiry], .pointer (some ⟨g, 0, none⟩)] w fun e w' => e = .returned (.bool (r.id != m)) ∧ Below w.heap.size w w' := by
  have hbw := Below.refl w.heap.size w
  go_enter Tryd.func26, Tryd.ntmps26
  go_wp2_with fail
  go_ret
  exact ⟨ret_bool (by first | rfl | simp), (by repeat (first | exact hbw | refine below_alloc ?_ _ | refine below_drew ?_ | refine below_drewN ?_ _))⟩

set_option maxHeartbeats 1600000 in
theorem cancel_divide (l : List Resv) (A : Option Addr) (c : Nat) (g : Nat) (m : Int) (w : World) (hl : l.length ≤ 4096) (hsl : SlAt w 5 A (l.map Resv.cells)) (hg : g < w.heap.size) (hm : w.cell? ⟨g, 0, none⟩ = some (.int .i64 m)) :
    Calls Tryd.prog 25 #[.slice A l.length c, .func (.func 26) #[] #[.pointer (some ⟨g, 0, none⟩)]] w
      fun e w' => ∃ y n, e = .returned (.tuple #[y, n]) ∧ IsSl w' 5 y ((l.filter (fun r => (r.id != m))).map Resv.cells) ∧ IsSl w' 5 n ((l.filter (fun r => !(r.id != m))).map Resv.cells) ∧ Below w.heap.size w w' := by
  obtain ⟨i0, hi, hz0, hz1, hz2⟩ := info_parts resvInfo
  go_enter Tryd.func25, Tryd.ntmps25
  go_wp2_with fail
  go_loopw [6, 7, 12] (fun y n i wr => ∃ k : Nat, k ≤ l.length ∧ i = .int .i64 k ∧ Below w.heap.size w wr ∧
      wr.ownsRow w.heap.size 24 5 y ((l.take k).filter (fun r => (r.id != m))).length (((l.take k).filter (fun r => (r.id != m))).flatMap Resv.cells) ∧
      wr.ownsRow w.heap.size 24 5 n ((l.take k).filter (fun r => !(r.id != m))).length (((l.take k).filter (fun r => !(r.id != m))).flatMap Resv.cells) ∧ Hid (Apart y n)) (fun _ _ i _ => l.length - (intOf i).toNat)
  case atStart => exact ⟨0, by omega, rfl, Below.refl _ _, World.ownsRow_nil _ _ _ _, World.ownsRow_nil _ _ _ _, Apart.nil _⟩
  case round =>
    obtain ⟨k, hk, rfl, hbw, hy, hn, hap⟩ := hrel
    obtain ⟨hc, hf⟩ := bcell hbw
    have ly := filter_len l (fun r => (r.id != m)) k
    have ln := filter_len l (fun r => !(r.id != m)) k
    by_cases hlt : k < l.length
    · obtain ⟨b, off, rfl, hb, c0, c1, c2, c3, c4⟩ := resv_at (hsl.below hbw) hlt
      have fy := filter_take l (fun r => (r.id != m)) hlt
      have fn := filter_take l (fun r => !(r.id != m)) hlt
      generalize hLy : (l.take k).filter (fun r => (r.id != m)) = Ly at *
      generalize hLn : (l.take k).filter (fun r => !(r.id != m)) = Ln at *
      have FY := Lib.hid fy
      have FN := Lib.hid fn
      clear fy fn hLy hLn
      generalize hx : l[k] = x at *
      have HX := Lib.hid hx
      clear hx
      have hzw := hbw.size
      have hgx : g < wr.heap.size + 1 := by omega
      have hmx := ((below_alloc hbw (.cells #[.int .i64 x.id, .int .i64 x.conn, .string x.token, .string x.group, .int .i64 x.expiry] 24)).cell (p := ⟨g, 0, none⟩) hg).trans hm
      have HMX := Lib.hid hmx
      clear hmx
      go_wp2_with fail
      refine (cancel_fn x g m _ (by rw [World.size_alloc]; exact hgx) HMX.out).mono ?_
      rintro e w' ⟨rfl, hb'⟩
      have hy' := own_below (hy.alloc _) hb'
      have hn' := own_below (hn.alloc _) hb'
      obtain ⟨hc', hf'⟩ := bcell hb'
      replace hbw := below_step (w := w) (below_alloc hbw _) hb'
      have hzx := hb'.size
      rw [World.size_alloc] at hzx
      have hzy : wr.heap.size < w'.heap.size := by omega
      clear hb' hy hn
      cases hp : (x.id != m) with
      | true =>
        go_wp2_with (at_builtin; refine wpList_append_row _ _ rfl (.tmp 19) (.tmp 21) _ rfl w.heap.size 24 i0 _ 5 56 Tryd.underlying31 hi hz0 hz1 hz2 rfl (by decide) _ _ _ rfl hy' _ rfl rfl (by intro u hu; simp at hu; rcases hu with rfl | rfl | rfl | rfl | rfl <;> rfl) (by omega) (by omega) hbw.size ?_; intro v' w2 hown hgrow hblk)
        have hk2 := row_kept hy' hn' hap hgrow hblk
        have hb2 := below_grown hbw hy' (Nat.le_refl _) hgrow
        clear hy' hn' hgrow
        go_roundw
        case rel => exact ⟨k + 1, by omega, by go_num, hb2, by rw [FY.out, hp, if_pos rfl, List.length_append, List.flatMap_append]; exact hown, by rw [FN.out, hp, if_neg (by simp)]; exact hk2.1, hk2.2⟩
        case measure => simp [intOf]; omega
      | false =>
        go_wp2_with (at_builtin; refine wpList_append_row _ _ rfl (.tmp 23) (.tmp 25) _ rfl w.heap.size 24 i0 _ 5 56 Tryd.underlying31 hi hz0 hz1 hz2 rfl (by decide) _ _ _ rfl hn' _ rfl rfl (by intro u hu; simp at hu; rcases hu with rfl | rfl | rfl | rfl | rfl <;> rfl) (by omega) (by omega) hbw.size ?_; intro v' w2 hown hgrow hblk)
        have hk2 := row_kept hn' hy' hap.symm hgrow hblk
        have hb2 := below_grown hbw hn' (Nat.le_refl _) hgrow
        clear hy' hn' hgrow
        go_roundw
        case rel => exact ⟨k + 1, by omega, by go_num, hb2, by rw [FY.out, hp, if_neg (by simp)]; exact hk2.1, by rw [FN.out, hp, if_pos (by simp), List.length_append, List.flatMap_append]; exact hown, hk2.2.symm⟩
        case measure => simp [intOf]; omega
    · have fy := filter_full l (fun r => (r.id != m)) hlt
      have fn := filter_full l (fun r => !(r.id != m)) hlt
      rw [fy] at hy
      rw [fn] at hn
      clear fy fn ly ln
      go_wp2_with fail
      go_ret2
      exact ⟨_, _, rfl, IsSl.of_own Resv.cells_len hy rfl, IsSl.of_own Resv.cells_len hn rfl, hbw⟩

set_option maxHeartbeats 1600000 in
theorem expire_fn (r : Resv) (g : Nat) (m : Int) (w : World) (hg : g < w.heap.size) (hm : w.cell? ⟨g, 0, none⟩ = some (.int .i64 m)) :
    Calls Tryd.prog 27 #[.agg #[.int .i64 r.id, .int .i64 r.conn, .string r.token, .string r.group, .int .i64 r.expiry], .pointer (some ⟨g, 0, none⟩)] w fun e w' => e = .returned (.bool (decide (m < r.expiry))) ∧ Below w.heap.size w w' := by
  have hbw := Below.refl w.heap.size w
  go_enter Tryd.func27, Tryd.ntmps27
  go_wp2_with fail
  go_ret
  exact ⟨ret_bool (by first | rfl | simp), (by repeat (first | exact hbw | refine below_alloc ?_ _ | refine below_drew ?_ | refine below_drewN ?_ _))⟩

set_option maxHeartbeats 1600000 in
theorem expire_divide (l : List Resv) (A : Option Addr) (c : Nat) (g : Nat) (m : Int) (w : World) (hl : l.length ≤ 4096) (hsl : SlAt w 5 A (l.map Resv.cells)) (hg : g < w.heap.size) (hm : w.cell? ⟨g, 0, none⟩ = some (.int .i64 m)) :
    Calls Tryd.prog 25 #[.slice A l.length c, .func (.func 27) #[] #[.pointer (some ⟨g, 0, none⟩)]] w
      fun e w' => ∃ y n, e = .returned (.tuple #[y, n]) ∧ IsSl w' 5 y ((l.filter (fun r => decide (m < r.expiry))).map Resv.cells) ∧ IsSl w' 5 n ((l.filter (fun r => !decide (m < r.expiry))).map Resv.cells) ∧ Below w.heap.size w w' := by
  obtain ⟨i0, hi, hz0, hz1, hz2⟩ := info_parts resvInfo
  go_enter Tryd.func25, Tryd.ntmps25
  go_wp2_with fail
  go_loopw [6, 7, 12] (fun y n i wr => ∃ k : Nat, k ≤ l.length ∧ i = .int .i64 k ∧ Below w.heap.size w wr ∧
      wr.ownsRow w.heap.size 24 5 y ((l.take k).filter (fun r => decide (m < r.expiry))).length (((l.take k).filter (fun r => decide (m < r.expiry))).flatMap Resv.cells) ∧
      wr.ownsRow w.heap.size 24 5 n ((l.take k).filter (fun r => !decide (m < r.expiry))).length (((l.take k).filter (fun r => !decide (m < r.expiry))).flatMap Resv.cells) ∧ Hid (Apart y n)) (fun _ _ i _ => l.length - (intOf i).toNat)
  case atStart => exact ⟨0, by omega, rfl, Below.refl _ _, World.ownsRow_nil _ _ _ _, World.ownsRow_nil _ _ _ _, Apart.nil _⟩
  case round =>
    obtain ⟨k, hk, rfl, hbw, hy, hn, hap⟩ := hrel
    obtain ⟨hc, hf⟩ := bcell hbw
    have ly := filter_len l (fun r => decide (m < r.expiry)) k
    have ln := filter_len l (fun r => !decide (m < r.expiry)) k
    by_cases hlt : k < l.length
    · obtain ⟨b, off, rfl, hb, c0, c1, c2, c3, c4⟩ := resv_at (hsl.below hbw) hlt
      have fy := filter_take l (fun r => decide (m < r.expiry)) hlt
      have fn := filter_take l (fun r => !decide (m < r.expiry)) hlt
      generalize hLy : (l.take k).filter (fun r => decide (m < r.expiry)) = Ly at *
      generalize hLn : (l.take k).filter (fun r => !decide (m < r.expiry)) = Ln at *
      have FY := Lib.hid fy
      have FN := Lib.hid fn
      clear fy fn hLy hLn
      generalize hx : l[k] = x at *
      have HX := Lib.hid hx
      clear hx
      have hzw := hbw.size
      have hgx : g < wr.heap.size + 1 := by omega
      have hmx := ((below_alloc hbw (.cells #[.int .i64 x.id, .int .i64 x.conn, .string x.token, .string x.group, .int .i64 x.expiry] 24)).cell (p := ⟨g, 0, none⟩) hg).trans hm
      have HMX := Lib.hid hmx
      clear hmx
      go_wp2_with fail
      refine (expire_fn x g m _ (by rw [World.size_alloc]; exact hgx) HMX.out).mono ?_
      rintro e w' ⟨rfl, hb'⟩
      have hy' := own_below (hy.alloc _) hb'
      have hn' := own_below (hn.alloc _) hb'
      obtain ⟨hc', hf'⟩ := bcell hb'
      replace hbw := below_step (w := w) (below_alloc hbw _) hb'
      have hzx := hb'.size
      rw [World.size_alloc] at hzx
      have hzy : wr.heap.size < w'.heap.size := by omega
      clear hb' hy hn
      cases hp : decide (m < x.expiry) with
      | true =>
        go_wp2_with (at_builtin; refine wpList_append_row _ _ rfl (.tmp 19) (.tmp 21) _ rfl w.heap.size 24 i0 _ 5 56 Tryd.underlying31 hi hz0 hz1 hz2 rfl (by decide) _ _ _ rfl hy' _ rfl rfl (by intro u hu; simp at hu; rcases hu with rfl | rfl | rfl | rfl | rfl <;> rfl) (by omega) (by omega) hbw.size ?_; intro v' w2 hown hgrow hblk)
        have hk2 := row_kept hy' hn' hap hgrow hblk
        have hb2 := below_grown hbw hy' (Nat.le_refl _) hgrow
        clear hy' hn' hgrow
        go_roundw
        case rel => exact ⟨k + 1, by omega, by go_num, hb2, by rw [FY.out, hp, if_pos rfl, List.length_append, List.flatMap_append]; exact hown, by rw [FN.out, hp, if_neg (by simp)]; exact hk2.1, hk2.2⟩
        case measure => simp [intOf]; omega
      | false =>
        go_wp2_with (at_builtin; refine wpList_append_row _ _ rfl (.tmp 23) (.tmp 25) _ rfl w.heap.size 24 i0 _ 5 56 Tryd.underlying31 hi hz0 hz1 hz2 rfl (by decide) _ _ _ rfl hn' _ rfl rfl (by intro u hu; simp at hu; rcases hu with rfl | rfl | rfl | rfl | rfl <;> rfl) (by omega) (by omega) hbw.size ?_; intro v' w2 hown hgrow hblk)
        have hk2 := row_kept hn' hy' hap.symm hgrow hblk
        have hb2 := below_grown hbw hn' (Nat.le_refl _) hgrow
        clear hy' hn' hgrow
        go_roundw
        case rel => exact ⟨k + 1, by omega, by go_num, hb2, by rw [FY.out, hp, if_neg (by simp)]; exact hk2.1, by rw [FN.out, hp, if_pos (by simp), List.length_append, List.flatMap_append]; exact hown, hk2.2.symm⟩
        case measure => simp [intOf]; omega
    · have fy := filter_full l (fun r => decide (m < r.expiry)) hlt
      have fn := filter_full l (fun r => !decide (m < r.expiry)) hlt
      rw [fy] at hy
      rw [fn] at hn
      clear fy fn ly ln
      go_wp2_with fail
      go_ret2
      exact ⟨_, _, rfl, IsSl.of_own Resv.cells_len hy rfl, IsSl.of_own Resv.cells_len hn rfl, hbw⟩

end Go.Proofs.YtpokacnbdojncaaDoor
