/-
  Walks: Cancel and Expire, in package reserve and in its reference.
-/
import Derived.Test.YtpokacnbdojncaaWReserve6
namespace Go.Proofs.Ytpokacnbdojncaa
open Go.RowKit Go.Lib Go.Joins
set_option linter.unusedVariables false

def restL (l : List Resv) (id : Int) : List Resv := l.filter (fun r => (r.id != id))
def goneB (l : List Resv) (id : Int) : List Resv := l.filter (fun r => !(r.id != id))
def cancE (l : List Resv) (id : Int) : Int := if (goneB l id).length = 0 then 8 else 0
def heldL (l : List Resv) (now : Int) : List Resv := l.filter (fun r => decide (now < r.expiry))
def lostL (l : List Resv) (now : Int) : List Resv := l.filter (fun r => !decide (now < r.expiry))

theorem rest_all {l : List Resv} {id : Int} (h : (goneB l id).length = 0) : restL l id = l := by
  unfold restL goneB at *
  have h0 := List.eq_nil_of_length_eq_zero h
  rw [List.filter_eq_nil_iff] at h0
  rw [List.filter_eq_self]
  intro r hr
  have := h0 r hr
  simpa using this
theorem rest_len (l : List Resv) (id : Int) : (restL l id).length + (goneB l id).length = l.length := by
  unfold restL goneB
  induction l with
  | nil => rfl
  | cons r l ih => cases h : (r.id != id) <;> simp [h] <;> omega

theorem islen {w : World} {v : Value} {l : List Resv} (h : IsSl w 5 v (l.map Resv.cells)) : ∃ A c, v = .slice A l.length c ∧ l.length ≤ c ∧ c ≤ maxLen ∧ SlAt w 5 A (l.map Resv.cells) := by
  obtain ⟨A, c, e, h1, h2, h3⟩ := h
  rw [List.length_map] at e h1
  exact ⟨A, c, e, h1, h2, h3⟩

set_option maxHeartbeats 1600000 in
theorem cancel_any (l : List Resv) (v : Value) (id : Int) (w : World) (hl : l.length ≤ 4096) (hv : IsSl w 5 v (l.map Resv.cells)) :
    Calls Try.prog 15 #[v, .int .i64 id] w
      fun e w' => ∃ u, e = .returned (.tuple #[u, .int .i64 (cancE l id)]) ∧ IsSl w' 5 u ((restL l id).map Resv.cells) ∧ Below w.heap.size w w' := by
  have hv0 := hv
  obtain ⟨A, c, rfl, hlc, hcm, hsl⟩ := islen hv
  have hmf : ∀ (fn : Fn) (first cap : Array Value) (w : World), (Instr.makeFunc fn first cap).run Try.prog w = .ok (.func fn first cap) w := fun _ _ _ _ => rfl
  have hgl := rest_len l id
  obtain ⟨W0, hW0, hb0, hg0, hbx⟩ := box1 w #[.int .i64 id] 3
  go_enter Try.func15, Try.ntmps15
  go_wp2_with fail
  rw [← hW0]
  clear hW0
  refine (cancel_divide l A c w.heap.size id W0 hl (hsl.below hb0) hg0 (hbx 0)).mono ?_
  rintro e w1 ⟨y, n, rfl, hy, hn, hb1⟩
  have hbw := below_step hb0 hb1
  obtain ⟨B, d, rfl, hle, hdm, hsn⟩ := islen hn
  have hg : (goneB l id).length = (List.filter (fun r => !r.id != id) l).length := rfl
  rw [← hg]
  clear hg hbx hb1 hg0
  by_cases hz : (goneB l id).length = 0
  · have hq : (((goneB l id).length : Int) == 0) = true := by rw [beq_iff_eq]; omega
    have HE : Hid (cancE l id = 8) := by unfold Hid cancE; rw [if_pos hz]
    have HR := Lib.hid (rest_all hz)
    clear hz hgl
    go_wp2
    go_ret2
    exact ⟨_, by rw [HE.out]; rfl, by rw [HR.out]; exact hv0.below hbw, hbw⟩
  · have hq : (((goneB l id).length : Int) == 0) = false := by rw [beq_eq_false_iff_ne]; omega
    have HE : Hid (cancE l id = 0) := by unfold Hid cancE; rw [if_neg hz]
    clear hz hgl
    go_wp2
    go_ret2
    exact ⟨_, by rw [HE.out]; rfl, hy, hbw⟩

set_option maxHeartbeats 1600000 in
theorem expire_any (l : List Resv) (v : Value) (now : Int) (w : World) (hl : l.length ≤ 4096) (hv : IsSl w 5 v (l.map Resv.cells)) :
    Calls Try.prog 17 #[v, .int .i64 now] w
      fun e w' => ∃ y n, e = .returned (.tuple #[y, n]) ∧ IsSl w' 5 y ((heldL l now).map Resv.cells) ∧ IsSl w' 5 n ((lostL l now).map Resv.cells) ∧ Below w.heap.size w w' := by
  obtain ⟨A, c, rfl, hlc, hcm, hsl⟩ := islen hv
  have hmf : ∀ (fn : Fn) (first cap : Array Value) (w : World), (Instr.makeFunc fn first cap).run Try.prog w = .ok (.func fn first cap) w := fun _ _ _ _ => rfl
  obtain ⟨W0, hW0, hb0, hg0, hbx⟩ := box1 w #[.int .i64 now] 3
  go_enter Try.func17, Try.ntmps17
  go_wp2_with fail
  rw [← hW0]
  clear hW0
  refine (expire_divide l A c w.heap.size now W0 hl (hsl.below hb0) hg0 (hbx 0)).mono ?_
  rintro e w1 ⟨y, n, rfl, hy, hn, hb1⟩
  have hbw := below_step hb0 hb1
  clear hb1 hbx hg0
  go_wp2
  go_ret2
  exact ⟨_, _, rfl, hy, hn, hbw⟩

set_option maxHeartbeats 1600000 in
theorem refCancel_any (l : List Resv) (v : Value) (id : Int) (w : World) (hl : l.length ≤ 4096) (hv : IsSl w 5 v (l.map Resv.cells)) :
    Calls Try.prog 16 #[v, .int .i64 id] w
      fun e w' => ∃ u, e = .returned (.tuple #[u, .int .i64 (cancE l id)]) ∧ IsSl w' 5 u ((restL l id).map Resv.cells) ∧ Below w.heap.size w w' := by
  have hv0 := hv
  obtain ⟨A, c, rfl, hlc, hcm, hsl⟩ := islen hv
  obtain ⟨i0, hi, hz0, hz1, hz2⟩ := info_parts resvInfo
  have hgl := rest_len l id
  have HGL := Lib.hid hgl
  clear hgl
  go_enter Try.func16, Try.ntmps16
  go_wp2_with fail
  go_loopw [6, 7] (fun y i wr => ∃ k : Nat, k ≤ l.length ∧ i = .int .i64 k ∧ Below w.heap.size w wr ∧
      wr.ownsRow w.heap.size 23 5 y ((l.take k).filter (fun r => (r.id != id))).length (((l.take k).filter (fun r => (r.id != id))).flatMap Resv.cells)) (fun _ i _ => l.length - (intOf i).toNat)
  case atStart => exact ⟨0, by omega, rfl, Below.refl _ _, World.ownsRow_nil _ _ _ _⟩
  case round =>
    obtain ⟨k, hk, rfl, hbw, hy⟩ := hrel
    obtain ⟨hc, hf⟩ := bcell hbw
    have ly := filter_len l (fun r => (r.id != id)) k
    by_cases hlt : k < l.length
    · obtain ⟨b, off, rfl, hb, c0, c1, c2, c3, c4⟩ := resv_at (hsl.below hbw) hlt
      have fy := filter_take l (fun r => (r.id != id)) hlt
      generalize hLy : (l.take k).filter (fun r => (r.id != id)) = Ly at *
      have FY := Lib.hid fy
      clear fy hLy
      generalize hx : l[k] = x at *
      have HX := Lib.hid hx
      clear hx
      have hzw := hbw.size
      cases hp : (x.id != id) with
      | true =>
        go_wp2_with (at_builtin; refine wpList_append_row _ _ rfl (.tmp 21) (.tmp 26) _ rfl w.heap.size 23 i0 _ 5 56 Try.underlying30 hi hz0 hz1 hz2 rfl (by decide) _ _ _ rfl hy _ rfl rfl (by intro u hu; simp at hu; rcases hu with rfl | rfl | rfl | rfl | rfl <;> rfl) (by omega) (by omega) hbw.size ?_; intro v' w2 hown hgrow hblk)
        have hb2 := below_grown hbw hy (Nat.le_refl _) hgrow
        clear hy hgrow
        go_roundw
        case rel => exact ⟨k + 1, by omega, by go_num, hb2, by rw [FY.out, hp, if_pos rfl, List.length_append, List.flatMap_append]; exact hown⟩
        case measure => simp [intOf]; omega
      | false =>
        go_wp2_with fail
        go_roundw
        case rel => exact ⟨k + 1, by omega, by go_num, hbw, by rw [FY.out, hp, if_neg (by simp)]; exact hy⟩
        case measure => simp [intOf]; omega
    · have fy := filter_full l (fun r => (r.id != id)) hlt
      rw [fy] at hy
      clear fy ly
      have hy2 := IsSl.of_own (l := restL l id) Resv.cells_len hy rfl
      obtain ⟨B, d, rfl, hle, hdm, hsn⟩ := islen hy2
      clear hy
      by_cases hz : (goneB l id).length = 0
      · have hq : (((restL l id).length : Int) == (l.length : Int)) = true := by have := HGL.out; simp; omega
        have HE : Hid (cancE l id = 8) := by unfold Hid cancE; rw [if_pos hz]
        have HR := Lib.hid (rest_all hz)
        clear hz
        go_wp2
        go_ret2
        exact ⟨_, by rw [HE.out]; rfl, by rw [HR.out]; exact hv0.below hbw, hbw⟩
      · have hq : (((restL l id).length : Int) == (l.length : Int)) = false := by have := HGL.out; simp; omega
        have HE : Hid (cancE l id = 0) := by unfold Hid cancE; rw [if_neg hz]
        clear hz
        go_wp2
        go_ret2
        exact ⟨_, by rw [HE.out]; rfl, hy2, hbw⟩

set_option maxHeartbeats 1600000 in
theorem refExpire_any (l : List Resv) (v : Value) (now : Int) (w : World) (hl : l.length ≤ 4096) (hv : IsSl w 5 v (l.map Resv.cells)) :
    Calls Try.prog 18 #[v, .int .i64 now] w
      fun e w' => ∃ y n, e = .returned (.tuple #[y, n]) ∧ IsSl w' 5 y ((heldL l now).map Resv.cells) ∧ IsSl w' 5 n ((lostL l now).map Resv.cells) ∧ Below w.heap.size w w' := by
  obtain ⟨A, c, rfl, hlc, hcm, hsl⟩ := islen hv
  obtain ⟨i0, hi, hz0, hz1, hz2⟩ := info_parts resvInfo
  go_enter Try.func18, Try.ntmps18
  go_wp2_with fail
  go_loopw [6, 7, 8] (fun y n i wr => ∃ k : Nat, k ≤ l.length ∧ i = .int .i64 k ∧ Below w.heap.size w wr ∧
      wr.ownsRow w.heap.size 23 5 y ((l.take k).filter (fun r => decide (now < r.expiry))).length (((l.take k).filter (fun r => decide (now < r.expiry))).flatMap Resv.cells) ∧
      wr.ownsRow w.heap.size 23 5 n ((l.take k).filter (fun r => !decide (now < r.expiry))).length (((l.take k).filter (fun r => !decide (now < r.expiry))).flatMap Resv.cells) ∧ Hid (Apart y n)) (fun _ _ i _ => l.length - (intOf i).toNat)
  case atStart => exact ⟨0, by omega, rfl, Below.refl _ _, World.ownsRow_nil _ _ _ _, World.ownsRow_nil _ _ _ _, Apart.nil _⟩
  case round =>
    obtain ⟨k, hk, rfl, hbw, hy, hn, hap⟩ := hrel
    obtain ⟨hc, hf⟩ := bcell hbw
    have ly := filter_len l (fun r => decide (now < r.expiry)) k
    have ln := filter_len l (fun r => !decide (now < r.expiry)) k
    by_cases hlt : k < l.length
    · obtain ⟨b, off, rfl, hb, c0, c1, c2, c3, c4⟩ := resv_at (hsl.below hbw) hlt
      have fy := filter_take l (fun r => decide (now < r.expiry)) hlt
      have fn := filter_take l (fun r => !decide (now < r.expiry)) hlt
      generalize hLy : (l.take k).filter (fun r => decide (now < r.expiry)) = Ly at *
      generalize hLn : (l.take k).filter (fun r => !decide (now < r.expiry)) = Ln at *
      have FY := Lib.hid fy
      have FN := Lib.hid fn
      clear fy fn hLy hLn
      generalize hx : l[k] = x at *
      have HX := Lib.hid hx
      clear hx
      have hzw := hbw.size
      cases hp : decide (now < x.expiry) with
      | true =>
        go_wp2_with (at_builtin; refine wpList_append_row _ _ rfl (.tmp 22) (.tmp 27) _ rfl w.heap.size 23 i0 _ 5 56 Try.underlying30 hi hz0 hz1 hz2 rfl (by decide) _ _ _ rfl hy _ rfl rfl (by intro u hu; simp at hu; rcases hu with rfl | rfl | rfl | rfl | rfl <;> rfl) (by omega) (by omega) hbw.size ?_; intro v' w2 hown hgrow hblk)
        have hk2 := row_kept hy hn hap hgrow hblk
        have hb2 := below_grown hbw hy (Nat.le_refl _) hgrow
        clear hy hn hgrow
        go_roundw
        case rel => exact ⟨k + 1, by omega, by go_num, hb2, by rw [FY.out, hp, if_pos rfl, List.length_append, List.flatMap_append]; exact hown, by rw [FN.out, hp, if_neg (by simp)]; exact hk2.1, hk2.2⟩
        case measure => simp [intOf]; omega
      | false =>
        go_wp2_with (at_builtin; refine wpList_append_row _ _ rfl (.tmp 29) (.tmp 34) _ rfl w.heap.size 23 i0 _ 5 56 Try.underlying30 hi hz0 hz1 hz2 rfl (by decide) _ _ _ rfl hn _ rfl rfl (by intro u hu; simp at hu; rcases hu with rfl | rfl | rfl | rfl | rfl <;> rfl) (by omega) (by omega) hbw.size ?_; intro v' w2 hown hgrow hblk)
        have hk2 := row_kept hn hy hap.symm hgrow hblk
        have hb2 := below_grown hbw hn (Nat.le_refl _) hgrow
        clear hy hn hgrow
        go_roundw
        case rel => exact ⟨k + 1, by omega, by go_num, hb2, by rw [FY.out, hp, if_neg (by simp)]; exact hk2.1, by rw [FN.out, hp, if_pos (by simp), List.length_append, List.flatMap_append]; exact hown, hk2.2.symm⟩
        case measure => simp [intOf]; omega
    · have fy := filter_full l (fun r => decide (now < r.expiry)) hlt
      have fn := filter_full l (fun r => !decide (now < r.expiry)) hlt
      rw [fy] at hy
      rw [fn] at hn
      clear fy fn ly ln
      go_wp2_with fail
      go_ret2
      exact ⟨_, _, rfl, IsSl.of_own Resv.cells_len hy rfl, IsSl.of_own Resv.cells_len hn rfl, hbw⟩

end Go.Proofs.Ytpokacnbdojncaa
