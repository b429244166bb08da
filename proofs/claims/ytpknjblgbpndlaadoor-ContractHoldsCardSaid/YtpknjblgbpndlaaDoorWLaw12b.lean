/-
  Walks: the law ContractHolds.
-/
import Derived.Test.YtpknjblgbpndlaaDoorWConB
namespace Go.Proofs.YtpknjblgbpndlaaDoor
open Go.RowKit Go.Lib Go.Maps
attribute [local go_sem] after_cell
set_option linter.unusedVariables false

/-- a limit of the first k contracts differs at n -/
noncomputable def difK (l : List ConR) (z : ZoneR) (n : Int) (k : Nat) : Bool := (l.take k).any (fun c => decide (0 ≤ n) && (cAt l z c.fd n != cAt l z c.fd (n - 1)))
theorem difK_zero (l : List ConR) (z : ZoneR) (n : Int) : difK l z n 0 = false := rfl
theorem difK_succ {l : List ConR} {k : Nat} (h : k < l.length) (z : ZoneR) (n : Int) : difK l z n (k + 1) = (difK l z n k || (decide (0 ≤ n) && (cAt l z l[k].fd n != cAt l z l[k].fd (n - 1)))) := by
  unfold difK
  rw [List.take_succ_eq_append_getElem h, List.any_append]
  simp
theorem difK_end {l : List ConR} {k : Nat} (h : ¬ k < l.length) {z : ZoneR} {t : Int} (h0 : 0 ≤ t) (h1 : t ≤ 268435456) : difK l z (conA l z t) k = decide (0 ≤ conA l z t) := by
  unfold difK
  rw [List.take_of_length_le (by omega)]
  rcases conA_spec l z h0 h1 with ⟨a, b, c, d⟩ | ⟨a, b⟩
  · rw [show decide (0 ≤ conA l z t) = true by simp; omega]
    simp only [Bool.true_and]
    exact c
  · rw [a]
    simp
theorem hold_const {l : List ConR} {z : ZoneR} {t u : Int} (h0 : 0 ≤ t) (h1 : t ≤ 268435456) (h2 : t ≤ u) (h3 : u < if conA l z t = -1 then 268435457 else conA l z t) (f : Int) : cAt l z f t = cAt l z f u := by
  rcases conA_spec l z h0 h1 with ⟨a, b, c, d⟩ | ⟨a, b⟩
  · rw [if_neg (by omega)] at h3
    exact (quiet_const (u := u) (fun v x y q => d v x (by omega)) (by omega) f u h2 (Int.le_refl _)).symm
  · rw [if_pos a] at h3
    exact (quiet_const (u := u) (fun v x y q => b v x q) (by omega) f u h2 (Int.le_refl _)).symm

/-- At, with what it returns -/
theorem conAtC {l : List ConR} {z : ZoneR} {f t r : Int} (h : cAt l z f t = r) (v : Value) (w : World) (hv : LenV w) (hL : IsSl w 8 v (l.map ConR.cells)) :
    Calls Tryd.prog 19 #[v, .agg #[.int .i64 z.off, .bool z.sum], .int .i64 f, .int .i64 t] w fun e w' => e = .returned (.int .i64 r) ∧ Below w.heap.size w w' := by
  have := conAt_any l v z f t w hv hL
  rw [h] at this
  exact this

set_option maxRecDepth 100000 in
set_option maxHeartbeats 6400000 in
theorem lawConHolds (l : List ConR) (v : Value) (z : ZoneR) (t p : Int) (w : World) (hv : LenV w) (hL : IsSl w 8 v (l.map ConR.cells)) (hfit : ∀ c ∈ l, c.fits) (ht : I64 t) (hp : (Lit.int .u32 p).wf = true) :
    Calls Tryd.prog 7 #[v, .agg #[.int .i64 z.off, .bool z.sum], .int .i64 t, .int .u32 p] w fun e w' => e = .returned (.bool true) ∧ Below w.heap.size w w' := by
  obtain ⟨W0, hW0, hb0, hg0, hx0⟩ := box1 w #[.int .i64 z.off, .bool z.sum] 26
  have HV := Lib.hid (hv.below hb0)
  have HF := Lib.hid hfit
  replace hL := hL.below hb0
  have hp2 : 0 ≤ p ∧ p ≤ 4294967295 := by
    have h2 : (decide (IntKind.u32.min ≤ p) && decide (p ≤ IntKind.u32.max)) = true := hp
    simp only [Bool.and_eq_true, decide_eq_true_eq] at h2
    exact ⟨h2.1, h2.2⟩
  clear hv hfit hp
  have HIS := Lib.hid hL
  obtain ⟨A, c, rfl, hlc, hcm, hsl⟩ := hL
  rw [List.length_map] at hlc
  unfold maxLen at hcm
  simp only [List.length_map] at HIS ⊢
  by_cases hout : (6 : Int) < (l.length : Int) ∨ t < 0 ∨ 268435456 < t
  · have hcase : (6 : Int) < (l.length : Int) ∨ (¬ (6 : Int) < (l.length : Int) ∧ t < 0) ∨ (¬ (6 : Int) < (l.length : Int) ∧ ¬ t < 0 ∧ 268435456 < t) := by omega
    clear hout
    rcases hcase with h1 | ⟨h1, h2⟩ | ⟨h1, h2, h3⟩
    all_goals
      go_enter Tryd.func7, Tryd.ntmps7
      go_wp2_with fail
      rw [← hW0]
      clear hW0
      refine (awake12_any _ HV.out).mono ?_
      rintro e w2 ⟨rfl, hb2⟩
      go_wp2_with fail
      go_ret
      exact ⟨rfl, below_step hb0 hb2⟩
  have h1 : ¬ (6 : Int) < (l.length : Int) := by omega
  have h2 : ¬ t < 0 := by omega
  have h3 : ¬ 268435456 < t := by omega
  have t0 : 0 ≤ t := by omega
  have t1 : t ≤ 268435456 := by omega
  clear hout
  have HDE := Lib.hid (fun k h => difK_end (l := l) (k := k) h (z := z) t0 t1)
  have HHC := Lib.hid (fun u a b f => hold_const (l := l) (z := z) (u := u) t0 t1 a b f)
  have hrn := conA_rng l z t
  go_enter Tryd.func7, Tryd.ntmps7
  go_wp2_with fail
  rw [← hW0]
  clear hW0
  refine (conNext_any l _ z t _ HV.out HIS.out HF.out (by omega)).mono ?_
  rintro e w1 ⟨rfl, hb1⟩
  generalize conA l z t = n at *
  obtain ⟨e, he⟩ : ∃ e, e = if n = -1 then (268435457 : Int) else n := ⟨_, rfl⟩
  have HE := Lib.hid he
  have he2 : t < e ∧ e ≤ 268435457 := by rw [he]; split <;> omega
  obtain ⟨he2, he3⟩ := he2
  clear he
  obtain ⟨hc, hf⟩ := bcell hb1
  go_upto_if 33 with fail
  go_cut [10] (fun s wx => s = .int .i64 e ∧ wx = w1)
  case first =>
    by_cases hn : n = -1
    · have hE : Hid (e = 268435457) := by unfold Hid; rw [HE.out, if_pos hn]
      subst hn
      go_wp2_with fail
      go_meet
      exact ⟨by rw [hE.out], rfl⟩
    · have hE : Hid (e = n) := by unfold Hid; rw [HE.out, if_neg hn]
      go_wp2_with fail
      go_meet
      exact ⟨by rw [hE.out], rfl⟩
  case rest =>
    obtain ⟨rfl, rfl⟩ := hcut
    have q1 : ¬ e ≤ t := by omega
    have q2 : ¬ 268435457 < e := by omega
    have q3 : IntKind.i64.wrap (e - t) = e - t := IntWalk.i64_in _ (by omega)
    have q4 : IntKind.i64.wrap p = p := IntWalk.i64_in _ (by omega)
    have q5 := Int.emod_nonneg p (show e - t ≠ 0 by omega)
    have q6 := Int.emod_lt_of_pos p (show 0 < e - t by omega)
    have q7 : IntKind.i64.wrap (t + p % (e - t)) = t + p % (e - t) := IntWalk.i64_in _ (by omega)
    have HU := Lib.hid (fun f => HHC.out (t + p % (e - t)) (by omega) (by rw [← HE.out]; omega) f)
    go_wp2_with fail
    generalize t + p % (e - t) = u at *
    clear q5 q6 q7 hc hf
    go_loopw [12, 13] (fun d i wx => ∃ k : Nat, k ≤ l.length ∧ i = .int .i64 k ∧ d = .bool (difK l z n k) ∧ Below W0.heap.size W0 wx) (fun _ i _ => l.length - (intOf i).toNat)
    case atStart => exact ⟨0, by omega, rfl, rfl, hb1⟩
    case round =>
      clear hb1
      obtain ⟨k, hk, rfl, rfl, hbw⟩ := hrel
      obtain ⟨hc, hf⟩ := bcell hbw
      by_cases hlt : k < l.length
      · have hki : (k : Int) < (l.length : Int) := by omega
        obtain ⟨b, off, rfl, hb, c0, c1, c2, c3, c4, c5, c6, c7⟩ := con_at (hsl.below hbw) hlt
        have HK := Lib.hid (difK_succ hlt z n)
        have y1 : ∀ j, wr.cell? ⟨w.heap.size, j, none⟩ = (#[.int .i64 z.off, .bool z.sum] : Array Value)[j]? := fun j => (hc _ _ hg0).trans (hx0 j)
        have y2 : w.heap.size < wr.heap.size := Nat.lt_of_lt_of_le hg0 hbw.size
        have hbr := Below.refl wr.heap.size wr
        clear hc hf c0 c2 c3 c4 c5 c6 c7
        generalize l[k] = x at *
        have he : (cAt l z x.fd t != cAt l z x.fd u) = false := by rw [HU.out x.fd]; simp
        go_wp2_with fail
        (refine wp_region_kept wr (by kernel_rfl) (by kernel_rfl) (by assumption) ?_; (repeat (go_big_quiet_step ((first | (go_at_call 19; exact kept_call (conAt_any l _ z _ _ _ (HV.out.below (below_step hbw (after_kept _).2)) (HIS.out.below (below_step hbw (after_kept _).2)))))))); refine wpQuiet_nil ?_; intro _ hw'; obtain ⟨x9, hw''⟩ := hw'; subst hw''; have hk9 := after_kept x9; generalize after x9 = w9 at *)
        obtain ⟨hc9, hb9⟩ := hk9
        have z1 : ∀ j, w9.cell? ⟨w.heap.size, j, none⟩ = (#[.int .i64 z.off, .bool z.sum] : Array Value)[j]? := fun j => (hc9 _ _ y2).trans (y1 j)
        have z2 : w.heap.size < w9.heap.size := Nat.lt_of_lt_of_le y2 hb9.size
        have hbq := below_step hbw hb9
        clear hc9 y1 y2 c1 hb he hbr hb9 hbw
        generalize w9 = wq at *
        have hbr := Below.refl wq.heap.size wq
        cases hd : difK l z n k with
        | true =>
          have H : Hid (difK l z n (k + 1) = true) := by unfold Hid; rw [HK.out, hd]; rfl
          go_wp2_with fail
          (refine wp_region_kept wq (by kernel_rfl) (by kernel_rfl) (by assumption) ?_; (repeat (go_big_quiet_step ((first | fail)))); refine wpQuiet_nil ?_; intro _ hw'; obtain ⟨x9, hw''⟩ := hw'; subst hw''; have hk9 := after_kept x9; generalize after x9 = w9 at *)
          obtain ⟨hc9, hb9⟩ := hk9
          go_wp2_with fail
          go_roundw
          case measure => simp [intOf]; omega
          case rel => exact ⟨k + 1, by omega, by go_num, by rw [H.out], below_step hbq hb9⟩
        | false =>
          by_cases hn : 0 ≤ n
          · have hn2 : decide (0 ≤ n) = true := by simp [hn]
            have hwn : IntKind.i64.wrap (n - 1) = n - 1 := IntWalk.i64_in _ (by omega)
            obtain ⟨r, hr⟩ : ∃ r, r = (cAt l z x.fd n != cAt l z x.fd (n - 1)) := ⟨_, rfl⟩
            have H : Hid (difK l z n (k + 1) = r) := by unfold Hid; rw [HK.out, hd, hn2, hr]; rfl
            go_wp2_with fail
            (refine wp_region_kept wq (by kernel_rfl) (by kernel_rfl) (by assumption) ?_; (repeat (go_big_quiet_step ((first | (go_at_call 19; exact kept_call (conAt_any l _ z _ _ _ (HV.out.below (below_step hbq (after_kept _).2)) (HIS.out.below (below_step hbq (after_kept _).2)))))))); refine wpQuiet_nil ?_; intro _ hw'; obtain ⟨x9, hw''⟩ := hw'; subst hw''; have hk9 := after_kept x9; generalize after x9 = w9 at *)
            obtain ⟨hc9, hb9⟩ := hk9
            go_wp2_with fail
            go_roundw
            case measure => simp [intOf]; omega
            case rel => exact ⟨k + 1, by omega, by go_num, by rw [H.out, hr], below_step hbq hb9⟩
          · have hn2 : decide (0 ≤ n) = false := by simp; omega
            have H : Hid (difK l z n (k + 1) = false) := by unfold Hid; rw [HK.out, hd, hn2]; rfl
            go_wp2_with fail
            (refine wp_region_kept wq (by kernel_rfl) (by kernel_rfl) (by assumption) ?_; (repeat (go_big_quiet_step ((first | fail)))); refine wpQuiet_nil ?_; intro _ hw'; obtain ⟨x9, hw''⟩ := hw'; subst hw''; have hk9 := after_kept x9; generalize after x9 = w9 at *)
            obtain ⟨hc9, hb9⟩ := hk9
            go_wp2_with fail
            go_roundw
            case measure => simp [intOf]; omega
            case rel => exact ⟨k + 1, by omega, by go_num, by rw [H.out], below_step hbq hb9⟩
      · have hki : ¬ (k : Int) < (l.length : Int) := by omega
        have hd := HDE.out k hlt
        by_cases hn : 0 ≤ n
        · rw [show decide (0 ≤ n) = true by simp [hn]] at hd
          rw [hd]
          go_wp2_with fail
          refine (awake12_any _ (HV.out.below hbw)).mono ?_
          rintro e w5 ⟨rfl, hb5⟩
          go_wp2_with fail
          go_ret
          exact ⟨rfl, below_step hb0 (below_step hbw hb5)⟩
        · rw [show decide (0 ≤ n) = false by simp; omega] at hd
          rw [hd]
          go_wp2_with fail
          refine (awake12_any _ (HV.out.below hbw)).mono ?_
          rintro e w5 ⟨rfl, hb5⟩
          go_wp2_with fail
          go_ret
          exact ⟨rfl, below_step hb0 (below_step hbw hb5)⟩

end Go.Proofs.YtpknjblgbpndlaaDoor
