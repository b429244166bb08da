/-
  Walks: the law ListsDecide.
-/
import Derived.Test.YtcaicdjlfgpbfaaWLst6
import Derived.Test.YtcaicdjlfgpbfaaWAuth4
namespace Go.Proofs.Ytcaicdjlfgpbfaa
open Go.RowKit Go.Lib Go.Joins
attribute [local go_sem] after_cell
set_option linter.unusedVariables false
set_option linter.unusedSimpArgs false

theorem putTL_no {l : List Tok} {t : Tok} (h : ¬ putTE l t = 0) : putTL l t = l := by unfold putTL; rw [if_pos h]
theorem dec_same (L : List Tok) (id : ByteArray) (now : Int) : (decL L id now).st = (decC L id now).st ∧ (decL L id now).grp = (decC L id now).grp := by
  unfold decL decC decIn
  split <;> exact ⟨rfl, rfl⟩

set_option maxRecDepth 100000 in
set_option maxHeartbeats 25600000 in
theorem lawLists (l m : List Tok) (v vm : Value) (id : ByteArray) (now : Int) (w : World) (hv : IsSl w 6 v (l.map Tok.cells)) (hs : ∀ x ∈ l, x.fits) (hm : IsSl w 6 vm (m.map Tok.cells)) (hms : ∀ x ∈ m, x.fits) (hid : id.size ≤ maxLen) :
    Calls Try.prog 3 #[v, vm, .string id, .int .i64 now] w fun e w' => e = .returned (.bool true) ∧ Below w.heap.size w w' := by
  obtain ⟨A, c, rfl, hlc, hcm, hsl⟩ := islen' hv
  obtain ⟨Am, cm, rfl, hlcm, hcmm, hslm⟩ := islen' hm
  unfold maxLen at hcm hcmm hid
  have hz1 : l.length ≤ 9223372036854775807 := by omega
  have hz2 : m.length ≤ 9223372036854775807 := by omega
  have hz3 : id.size ≤ 9223372036854775807 := by omega
  have HS := Lib.hid hs
  have HM := Lib.hid hms
  clear hv hs hm hms hlc hcm hlcm hcmm
  by_cases h1 : 30 < l.length
  · have h1z : (30 : Int) < (l.length : Int) := by omega
    go_enter Try.func3, Try.ntmps3
    go_wp2_with fail
    go_ret
    exact ⟨rfl, Below.refl _ _⟩
  have h1z : ¬ (30 : Int) < (l.length : Int) := by omega
  by_cases h2 : 20 < m.length
  · have h2z : (20 : Int) < (m.length : Int) := by omega
    go_enter Try.func3, Try.ntmps3
    go_wp2_with fail
    go_ret
    exact ⟨rfl, Below.refl _ _⟩
  have h2z : ¬ (20 : Int) < (m.length : Int) := by omega
  by_cases h3 : 60 < id.size
  · have h3z : (60 : Int) < (id.size : Int) := by omega
    go_enter Try.func3, Try.ntmps3
    go_wp2_with fail
    go_ret
    exact ⟨rfl, Below.refl _ _⟩
  have h3z : ¬ (60 : Int) < (id.size : Int) := by omega
  have hl30 : l.length ≤ 30 := by omega
  have hm20 : m.length ≤ 20 := by omega
  clear hz1 hz2 hz3 h1 h2 h3 hid
  go_enter Try.func3, Try.ntmps3
  go_wp2_with fail
  go_loopw [9, 40] (fun ua i wr => ∃ k : Nat, k ≤ l.length ∧ i = .int .i64 k ∧ Below w.heap.size w wr ∧ Hid (IsSl wr 6 ua (((l.take k).foldl putTL []).map Tok.cells))) (fun _ i _ => l.length - (intOf i).toNat)
  case atStart => exact ⟨0, by omega, rfl, Below.refl _ _, IsSl.nil _ _⟩
  case round =>
    obtain ⟨k, hk, rfl, hbw, HA⟩ := hrel
    by_cases hlt : k < l.length
    · have hki : (k : Int) < (l.length : Int) := by omega
      obtain ⟨b, off, rfl, hbb, d0, d1, d2, d3, d4, d5⟩ := tok_at (hsl.below hbw) hlt
      have hft := HS.out _ (List.getElem_mem hlt)
      have HNX := Lib.hid (puts_step hlt [])
      have hgd := puts_good (l.take k) [] .nil (fun x hx => HS.out x (List.mem_of_mem_take hx)) (by rw [List.length_take]; simp; omega)
      have HGD := Lib.hid hgd.1
      generalize (l.take k).foldl putTL [] = LA at *
      generalize l[k] = X at *
      clear hgd
      obtain ⟨W1, hW1, hb1, hg1, hx1⟩ := box1 wr #[.string X.id, .string X.group, .string X.contract, .int .i64 X.kind, .int .i64 X.status, .int .i64 X.expiry] 24
      have hlen := HGD.out.len
      go_wp2_with fail
      rw [← hW1]
      clear hW1 d0 d1 d2 d3 d4 d5
      go_wp2_with fail
      refine (tput_any LA _ X _ (by omega) (HA.out.below hb1) HGD.out.fits hft).mono ?_
      rintro e w2 ⟨u2, rfl, hu2, hb2⟩
      have hbw2 := below_step hbw (below_step hb1 hb2)
      by_cases hpe : putTE LA X = 0
      · have hpb : (putTE LA X == 0) = true := by simpa using hpe
        have HU : Hid (IsSl w2 6 u2 (((l.take (k + 1)).foldl putTL []).map Tok.cells)) := by unfold Hid; rw [HNX.out]; exact hu2
        clear hpe hu2
        go_wp2_with fail
        go_roundw
        case measure => simp [intOf]; omega
        case rel => exact ⟨k + 1, by omega, by go_num, hbw2, HU⟩
      · have hpb : (putTE LA X == 0) = false := by simpa using hpe
        have HU : Hid (IsSl w2 6 u9 (((l.take (k + 1)).foldl putTL []).map Tok.cells)) := by unfold Hid; rw [HNX.out, putTL_no hpe]; exact HA.out.below (below_step hb1 hb2)
        clear hpe hu2
        go_wp2_with fail
        go_roundw
        case measure => simp [intOf]; omega
        case rel => exact ⟨k + 1, by omega, by go_num, hbw2, HU⟩
    · have hki : ¬ (k : Int) < (l.length : Int) := by omega
      have ha := HA.out
      rw [puts_all hlt] at ha
      have hgd := puts_good l [] .nil HS.out (by simp; omega)
      have HGD := Lib.hid hgd.1
      have hgl : (l.foldl putTL []).length ≤ 30 := by have := hgd.2.1; simp at this; omega
      generalize l.foldl putTL [] = L1 at *
      clear HA hgd
      obtain ⟨A1, c1, rfl, _, _, _⟩ := islen' ha
      have HA1 := Lib.hid ha
      clear ha
      go_wp2_with fail
      refine (full_any 0 1 [] L1 _ _ _ ⟨IsSl.nil _ _, .nil, by omega, fun _ => rfl⟩ HA1.out HGD.out (by omega)).mono ?_
      rintro e w1 ⟨u1, rfl, hu1, hb1⟩
      have hbw1 := below_step hbw hb1
      obtain ⟨B1, d1, rfl, _, _, _⟩ := islen' hu1
      obtain ⟨W6, hW6, hb6, hg6, hx6⟩ := box1 w1 #[.int .i64 1, .slice B1 L1.length d1] 29
      have HA6 := Lib.hid (HA1.out.below (below_step hb1 hb6))
      have HB6 := Lib.hid (hu1.below hb6)
      have hbw6 := below_step hbw1 hb6
      go_upto_region 12 with fail
      rw [← hW6]
      clear hW6 HA1 hu1 hb1 hlt hki hk hbw hbw1
      generalize wr = wz at *
      go_wp2_with fail
      go_loopw [9, 64] (fun ua i wr => ∃ k : Nat, k ≤ m.length ∧ i = .int .i64 k ∧ Below W6.heap.size W6 wr ∧ Hid (IsSl wr 6 ua (((m.take k).foldl putTL L1).map Tok.cells))) (fun _ i _ => m.length - (intOf i).toNat)
      case atStart => exact ⟨0, by omega, rfl, Below.refl _ _, HA6.out⟩
      case round =>
        clear HA6
        obtain ⟨k, hk, rfl, hbx, HA⟩ := hrel
        have hbwx := below_step hbw6 hbx
        by_cases hlt : k < m.length
        · have hki : (k : Int) < (m.length : Int) := by omega
          obtain ⟨b, off, rfl, hbb, d0, d1, d2, d3, d4, d5⟩ := tok_at (hslm.below hbwx) hlt
          have hft := HM.out _ (List.getElem_mem hlt)
          have HNX := Lib.hid (puts_step hlt L1)
          have hgd := puts_good (m.take k) L1 HGD.out (fun x hx => HM.out x (List.mem_of_mem_take hx)) (by rw [List.length_take]; omega)
          have HG2 := Lib.hid hgd.1
          generalize (m.take k).foldl putTL L1 = LA at *
          generalize m[k] = X at *
          clear hgd
          obtain ⟨W1, hW1, hb1, hg1, hx1⟩ := box1 wr #[.string X.id, .string X.group, .string X.contract, .int .i64 X.kind, .int .i64 X.status, .int .i64 X.expiry] 24
          have hlen := HG2.out.len
          go_wp2_with fail
          rw [← hW1]
          clear hW1 d0 d1 d2 d3 d4 d5
          go_wp2_with fail
          refine (tput_any LA _ X _ (by omega) (HA.out.below hb1) HG2.out.fits hft).mono ?_
          rintro e w2 ⟨u2, rfl, hu2, hb2⟩
          have hbx2 := below_step hbx (below_step hb1 hb2)
          by_cases hpe : putTE LA X = 0
          · have hpb : (putTE LA X == 0) = true := by simpa using hpe
            have HU : Hid (IsSl w2 6 u2 (((m.take (k + 1)).foldl putTL L1).map Tok.cells)) := by unfold Hid; rw [HNX.out]; exact hu2
            clear hpe hu2
            go_wp2_with fail
            go_roundw
            case measure => simp [intOf]; omega
            case rel => exact ⟨k + 1, by omega, by go_num, hbx2, HU⟩
          · have hpb : (putTE LA X == 0) = false := by simpa using hpe
            have HU : Hid (IsSl w2 6 u9 (((m.take (k + 1)).foldl putTL L1).map Tok.cells)) := by unfold Hid; rw [HNX.out, putTL_no hpe]; exact HA.out.below (below_step hb1 hb2)
            clear hpe hu2
            go_wp2_with fail
            go_roundw
            case measure => simp [intOf]; omega
            case rel => exact ⟨k + 1, by omega, by go_num, hbx2, HU⟩
        · have hki : ¬ (k : Int) < (m.length : Int) := by omega
          have ha := HA.out
          rw [puts_all hlt] at ha
          have hgd := puts_good m L1 HGD.out HM.out (by omega)
          have HG2 := Lib.hid hgd.1
          have HKS := Lib.hid hgd.2.2
          have hgl2 := HG2.out.len
          generalize m.foldl putTL L1 = L2 at *
          clear HA hgd
          obtain ⟨A2, c2, rfl, _, _, _⟩ := islen' ha
          have HA2 := Lib.hid ha
          have hx7 : ∀ j, wr.cell? ⟨w1.heap.size, j, none⟩ = (#[.int .i64 1, .slice B1 L1.length d1] : Array Value)[j]? := fun j => (hbx.cell (p := ⟨w1.heap.size, j, none⟩) hg6).trans (hx6 j)
          have hg7 : w1.heap.size < wr.heap.size := Nat.lt_of_lt_of_le hg6 hbx.size
          have HB7 := Lib.hid (HB6.out.below hbx)
          clear ha hx6 hg6 HB6
          go_wp2_with fail
          refine (full_any 1 2 L1 L2 _ _ _ ⟨HB7.out, HGD.out, by omega, fun h => by omega⟩ HA2.out HG2.out (by omega)).mono ?_
          rintro e w7 ⟨u7, rfl, hu7, hb7⟩
          obtain ⟨B2, d2, rfl, _, _, _⟩ := islen' hu7
          obtain ⟨W8, hW8, hb8, hg8, hx8⟩ := box1 w7 #[.int .i64 2, .slice B2 L2.length d2] 29
          have hb78 := below_step hb7 hb8
          have hx9 : ∀ j, W8.cell? ⟨w1.heap.size, j, none⟩ = (#[.int .i64 1, .slice B1 L1.length d1] : Array Value)[j]? := fun j => (hb78.cell (p := ⟨w1.heap.size, j, none⟩) hg7).trans (hx7 j)
          have hg9 : w1.heap.size < W8.heap.size := Nat.lt_of_lt_of_le hg7 hb78.size
          have HB8 := Lib.hid (HB7.out.below hb78)
          have HC8 := Lib.hid (hu7.below hb8)
          have HA8 := Lib.hid (HA2.out.below hb78)
          have hbw8 := below_step hbwx hb78
          go_upto_region 22 with fail
          rw [← hW8]
          clear hW8 hx7 hg7 HB7 hu7 HA2 hbx hbwx hbw6 hb7 hb8 hb78
          go_wp2_with fail
          refine (diff_any L1 L2 1 2 _ _ _ ⟨HB8.out, HGD.out, by omega, fun h => by omega⟩ ⟨HC8.out, HG2.out, by omega, fun h => by omega⟩ (by omega) HKS.out).mono ?_
          rintro e w9 ⟨u9', rfl, hu9, hb9⟩
          obtain ⟨D, HDD⟩ : ∃ D, Hid (D = diffL L1 L2) := ⟨_, rfl⟩
          rw [← HDD.out] at hu9
          obtain ⟨B3, d3, rfl, _, _, _⟩ := islen' hu9
          have hx10 : ∀ j, w9.cell? ⟨w1.heap.size, j, none⟩ = (#[.int .i64 1, .slice B1 L1.length d1] : Array Value)[j]? := fun j => (hb9.cell (p := ⟨w1.heap.size, j, none⟩) hg9).trans (hx9 j)
          have HC9 := Lib.hid hu9
          have hg10 : w1.heap.size < w9.heap.size := Nat.lt_of_lt_of_le hg9 hb9.size
          clear hx8 hx9 hu9
          go_wp2_with fail
          refine (change_any L1 L2 D 1 2 _ _ _ ⟨HB8.out.below hb9, HGD.out, by omega, fun h => by omega⟩ HC9.out HDD.out HG2.out HKS.out (by omega) (by omega)).mono ?_
          rintro e w10 ⟨u10', rfl, hu10, hb10⟩
          obtain ⟨B4, d4, rfl, _, _, _⟩ := islen' hu10
          obtain ⟨W11, hW11, hb11, hg11, hx11⟩ := box1 w10 #[.int .i64 2, .slice B4 L2.length d4] 29
          have hb911 := below_step hb9 (below_step hb10 hb11)
          have HU11 := Lib.hid (hu10.below hb11)
          have HA11 := Lib.hid (HA8.out.below hb911)
          have hbw11 := below_step hbw8 hb911
          go_upto_region 28 with fail
          rw [← hW11]
          clear hW11 hx10 hu10 HC9 HB8 HC8 HA8
          go_wp2_with fail
          refine (local_any L2 2 now _ id _ HU11.out HG2.out.fits (by omega)).mono ?_
          rintro e w12 ⟨rfl, hb12⟩
          go_wp2_with fail
          refine (central_any L2 now _ id _ (HA11.out.below hb12) HG2.out.fits (by omega)).mono ?_
          rintro e w13 ⟨rfl, hb13⟩
          obtain ⟨hst, hgr⟩ := dec_same L2 id now
          generalize decL L2 id now = D1 at *
          generalize decC L2 id now = D2 at *
          have hsb : (D1.st == D2.st) = true := by simpa using hst
          have hgb : (D1.grp.toList == D2.grp.toList) = true := by rw [hgr]; simp
          clear hst hgr
          have hbw13 := below_step hbw11 (below_step hb12 hb13)
          go_wp2_with fail
          go_ret
          exact ⟨rfl, by repeat (first | exact hbw13 | refine below_alloc ?_ _)⟩

end Go.Proofs.Ytcaicdjlfgpbfaa
