/-
  Rules as values in memory. No program is named here.
  Walks: total of package limits.
  Plain functions of the calendar: the date of a day; the reference's summer time. No program is named here.
  Walks: the leaves of package calendar.
  Walks: years, dates and summer time of package calendar.
  Walks: summer time and local dates of package calendar.
  Walks: the leaves of package window.
  Walks: holds of package window.
  Walks: holds of package window, inside of the window's times.
  Walks: holds of package window, inside of the window's times, over midnight.
-/
import Derived.Test.YtmappmeojmdekaaGreatDoorM4
import Derived.Test.YtmappmeojmdekaaGreatDoorM5
import Derived.Test.YtmappmeojmdekaaGreatDoorM1
import Derived.Test.YtmappmeojmdekaaGreatDoorProg
import Derived.IntWalk
import Derived.Outline

namespace Go.Proofs.YtmappmeojmdekaaGreatDoor
open Go.RowKit
set_option linter.unusedVariables false

/-- the rules r lie in memory as a name, four slices and a zone -/
structure LimIn (w : World) (r : RulR) (fv pv cv uv : Value) : Prop where
  hF : IsSl w 5 fv (r.S.F.map Feed.cells)
  hP : IsSl w 5 pv (r.S.P.map Pnt.cells)
  hC : IsSl w 8 cv (r.C.map ConR.cells)
  hU : IsSl w 7 uv (r.U.map CurR.cells)
  hn : r.S.name.size ≤ maxLen
  fF : ∀ f ∈ r.S.F, f.fits
  fP : ∀ p ∈ r.S.P, p.fits
  fC : ∀ c ∈ r.C, c.fits
  fU : ∀ c ∈ r.U, c.fits
theorem LimIn.below {w w' : World} {r : RulR} {fv pv cv uv : Value} (h : LimIn w r fv pv cv uv) (hb : Below w.heap.size w w') : LimIn w' r fv pv cv uv :=
  ⟨h.hF.below hb, h.hP.below hb, h.hC.below hb, h.hU.below hb, h.hn, h.fF, h.fP, h.fC, h.fU⟩
/-- .. at four addresses -/
structure LimAd (w : World) (r : RulR) (A B C D : Option Addr) (a b c d : Nat) : Prop where
  sF : SlAt w 5 A (r.S.F.map Feed.cells)
  sP : SlAt w 5 B (r.S.P.map Pnt.cells)
  sC : SlAt w 8 C (r.C.map ConR.cells)
  sU : SlAt w 7 D (r.U.map CurR.cells)
  lF : r.S.F.length ≤ a ∧ a ≤ maxLen
  lP : r.S.P.length ≤ b ∧ b ≤ maxLen
  lC : r.C.length ≤ c ∧ c ≤ maxLen
  lU : r.U.length ≤ d ∧ d ≤ maxLen
theorem LimAd.below {w w' : World} {r : RulR} {A B C D : Option Addr} {a b c d : Nat} (h : LimAd w r A B C D a b c d) (hb : Below w.heap.size w w') : LimAd w' r A B C D a b c d :=
  ⟨h.sF.below hb, h.sP.below hb, h.sC.below hb, h.sU.below hb, h.lF, h.lP, h.lC, h.lU⟩
theorem LimIn.ad {w : World} {r : RulR} {fv pv cv uv : Value} (h : LimIn w r fv pv cv uv) :
    ∃ A B C D a b c d, fv = .slice A r.S.F.length a ∧ pv = .slice B r.S.P.length b ∧ cv = .slice C r.C.length c ∧ uv = .slice D r.U.length d ∧ LimAd w r A B C D a b c d := by
  obtain ⟨A, a, e1, a1, a2, a3⟩ := islen' h.hF
  obtain ⟨B, b, e2, b1, b2, b3⟩ := islen' h.hP
  obtain ⟨C, c, e3, c1, c2, c3⟩ := islen' h.hC
  obtain ⟨D, d, e4, d1, d2, d3⟩ := islen' h.hU
  exact ⟨A, B, C, D, a, b, c, d, e1, e2, e3, e4, a3, b3, c3, d3, ⟨a1, a2⟩, ⟨b1, b2⟩, ⟨c1, c2⟩, ⟨d1, d2⟩⟩
/-- the ratings are powers -/
def Rated (F : List Feed) : Prop := ∀ f ∈ F, 0 ≤ f.a ∧ f.a ≤ 1048576 ∧ 0 ≤ f.b ∧ f.b ≤ 1048576 ∧ 0 ≤ f.c ∧ f.c ≤ 1048576
theorem site_feed_zero {S : SiteR} (h : siteE S = 0) {k : Nat} (hk : k < S.F.length) : feedAt S.F k = 0 := by
  unfold siteE at h
  split at h
  · cases h
  · split at h
    · cases h
    · split at h
      · rename_i g; exact absurd h g
      · rename_i g
        exact firstE_zero.1 (Classical.not_not.1 g) k hk
theorem site_lens {S : SiteR} (h : siteE S = 0) : S.F.length ≤ 32 ∧ S.P.length ≤ 32 := by
  unfold siteE at h
  split at h
  · cases h
  · split at h
    · cases h
    · omega
theorem rated_of {S : SiteR} (h : siteE S = 0) : Rated S.F := fun f hf => by
  obtain ⟨k, hk, rfl⟩ := List.mem_iff_getElem.1 hf
  have h1 := site_feed_zero h hk
  rw [feedAt_eq hk] at h1
  unfold feedE at h1
  split at h1
  · rename_i g; exact absurd h1 g
  · split at h1
    · cases h1
    · split at h1
      · cases h1
      · rename_i g
        have : (powB S.F[k].a && (powB S.F[k].b && powB S.F[k].c)) = true := by simpa using g
        simp [powB] at this
        omega

/-- valid rules, in memory -/
structure LimOk (r : RulR) : Prop where
  ok : RulOk r
  rated : Rated r.S.F
  lens : r.S.F.length ≤ 32 ∧ r.S.P.length ≤ 32
theorem LimOk.of {r : RulR} (h : limE r = 0) : LimOk r := ⟨limE_zero.1 h, rated_of (limE_zero.1 h).site, site_lens (limE_zero.1 h).site⟩

end Go.Proofs.YtmappmeojmdekaaGreatDoor

namespace Go.Proofs.YtmappmeojmdekaaGreatDoor
open Go.RowKit Go.Lib Go.Maps
attribute [local go_sem] after_cell
set_option linter.unusedVariables false

theorem feedC_at {w : World} {A : Option Addr} {l : List Feed} (h : SlAt w 5 A (l.map Feed.cells)) {k : Nat} (hk : k < l.length) :
    ∃ b off, A = some ⟨b, off, none⟩ ∧ b < w.heap.size ∧ w.cell? ⟨b, off + k * 5, none⟩ = some (.string l[k].name) ∧ w.cell? ⟨b, off + k * 5 + 1, none⟩ = some (.int .i64 l[k].parent) ∧ w.cell? ⟨b, off + k * 5 + 2, none⟩ = some (.int .i64 l[k].a) ∧
      w.cell? ⟨b, off + k * 5 + 3, none⟩ = some (.int .i64 l[k].b) ∧ w.cell? ⟨b, off + k * 5 + 4, none⟩ = some (.int .i64 l[k].c) := by
  obtain ⟨b, off, e, hb, hc⟩ := h k l[k].cells (by rw [List.getElem?_map, List.getElem?_eq_getElem hk]; rfl)
  exact ⟨b, off, e, hb, hc 0 _ rfl, hc 1 _ rfl, hc 2 _ rfl, hc 3 _ rfl, hc 4 _ rfl⟩

set_option maxRecDepth 100000 in
set_option maxHeartbeats 6400000 in
theorem total_any (r : RulR) (fv pv cv uv : Value) (f : Nat) (t : Int) (w : World) (hI : LimIn w r fv pv cv uv) (hf : f < r.S.F.length) (hR : Rated r.S.F) :
    Calls Tryz.prog 55 #[.agg #[.string r.S.name, fv, pv, .int .i64 r.z.off, .bool r.z.sum, cv, uv], .int .i64 f, .int .i64 t] w fun e w' => e = .returned (.int .i64 (totF r.lim f t)) ∧ Below w.heap.size w w' := by
  have HI := Lib.hid hI
  obtain ⟨A, B, C, D, a, b, c, d, rfl, rfl, rfl, rfl, hA⟩ := hI.ad
  obtain ⟨W0, hW0, hb0, hg0, hx0⟩ := box1 w #[.string r.S.name, .slice A r.S.F.length a, .slice B r.S.P.length b, .int .i64 r.z.off, .bool r.z.sum, .slice C r.C.length c, .slice D r.U.length d] 31
  have HU := Lib.hid (HI.out.below hb0).hU
  obtain ⟨blk, off, rfl, hb, c0, c1, c2, c3, c4⟩ := feedC_at hA.sF hf
  obtain ⟨l1, l2⟩ := hA.lF
  unfold maxLen at l2
  have hfi : (f : Int) < (r.S.F.length : Int) := by omega
  have HT := Lib.hid (totF_at hf t)
  obtain ⟨a0, a1, b0, b1, d0, d1⟩ := hR _ (List.getElem_mem hf)
  unfold rateF at HT
  generalize r.S.F[f] = x at *
  have q1 : IntKind.i64.wrap (x.a + x.b) = x.a + x.b := IntWalk.i64_in _ (by omega)
  have q2 : IntKind.i64.wrap (x.a + x.b + x.c) = x.a + x.b + x.c := IntWalk.i64_in _ (by omega)
  obtain ⟨W1, hW1, hb1, hg1, hx1⟩ := box1 W0 #[.int .i64 x.a, .int .i64 x.b, .int .i64 x.c] 54
  have hb01 := below_step hb0 hb1
  have y0 : ∀ j, W1.cell? ⟨w.heap.size, j, none⟩ = (#[.string r.S.name, .slice (some ⟨blk, off, none⟩) r.S.F.length a, .slice B r.S.P.length b, .int .i64 r.z.off, .bool r.z.sum, .slice C r.C.length c, .slice D r.U.length d] : Array Value)[j]? := fun j => (hb1.cell (p := ⟨w.heap.size, j, none⟩) hg0).trans (hx0 j)
  have y1 : w.heap.size < W1.heap.size := Nat.lt_of_lt_of_le hg0 hb1.size
  have e0 : W0.heap.size = w.heap.size + 1 := by rw [hW0]; simp
  rw [e0] at hx1 hg1
  have hbr := Below.refl W1.heap.size W1
  have HU1 := Lib.hid (HU.out.below hb1)
  have c3' : w.cell? ⟨blk, off + f * 5 + 2 + 1, none⟩ = some (.int .i64 x.b) := c3
  have c4' : w.cell? ⟨blk, off + f * 5 + 2 + 2, none⟩ = some (.int .i64 x.c) := c4
  clear hR hA
  go_enter Tryz.func55, Tryz.ntmps55
  go_wp2_with fail
  rw [← hW0, ← hW1]
  clear hW0 hW1
  (refine wp_region_kept W1 (by kernel_rfl) (by kernel_rfl) (by assumption) ?_; (repeat (go_big_quiet_step ((first | (go_at_call 71; exact kept_call (curAt_any r.U _ f t _ (HU1.out.below (after_kept _).2))))))); refine wpQuiet_nil ?_; intro _ hw'; obtain ⟨x9, hw''⟩ := hw'; subst hw''; have hk9 := after_kept x9; generalize after x9 = w9 at *)
  obtain ⟨hc9, hb9⟩ := hk9
  go_wp2_with fail
  go_ret
  exact ⟨ret_int (by rw [HT.out]), below_step hb01 hb9⟩

end Go.Proofs.YtmappmeojmdekaaGreatDoor

namespace Go.Proofs.YtmappmeojmdekaaGreatDoor
set_option linter.unusedVariables false

structure IsDate (y m d day : Int) : Prop where
  yr : IsYear y day
  m1 : 1 ≤ m
  m2 : m ≤ 12
  d1 : 1 ≤ d
  d2 : d ≤ dimF y m
  eq : yst y + cum y m + d - 1 = day
/-- the reference's last Sunday of a month with 31 days, by a day of it -/
def sunR (d w : Int) : Int := d - w % 7 + 7 * ((31 - (d - w % 7)) / 7)
def afterB (m d w min M : Int) : Bool := if m = M then decide (sunR d w < d) || (d == sunR d w && decide (60 ≤ min)) else decide (M < m)
theorem cum_4 (y : Int) : cum y 4 = 90 + lp y := by simp [cum]
theorem cum_3 (y : Int) : cum y 3 = 59 + lp y := by simp [cum]
theorem cum_11 (y : Int) : cum y 11 = 304 + lp y := by simp [cum]
theorem cum_10 (y : Int) : cum y 10 = 273 + lp y := by simp [cum]
theorem cum_le {y a b : Int} (h1 : 1 ≤ a) (h : a ≤ b) (h2 : b ≤ 13) : cum y a ≤ cum y b := by
  rcases Int.lt_or_eq_of_le h with e | e
  · have := cum_mono (y := y) h1 e h2; omega
  · rw [e]; omega
theorem after_iff {y m d day min M : Int} (h : IsDate y m d day) (h0 : 0 ≤ min) (h1 : min < 1440) (hM : M = 3 ∨ M = 10) :
    afterB m d (wdF day) min M = true ↔ sunF y M * 1440 + 60 ≤ day * 1440 + min := by
  have c1 : cum y (M + 1) = cum y M + 31 := by
    rcases hM with rfl | rfl
    · rw [show (3 : Int) + 1 = 4 by rfl, cum_4, cum_3]; omega
    · rw [show (10 : Int) + 1 = 11 by rfl, cum_11, cum_10]; omega
  obtain ⟨hy, m1, m2, d1, d2, e⟩ := h
  have hd := dimF_rng y m
  have hs : sunF y M = yst y + cum y M + 30 - wdF (yst y + cum y M + 30) % 7 := by
    unfold sunF; rw [c1, show yst y + (cum y M + 31) - 1 = yst y + cum y M + 30 by omega]
  have hw : 0 ≤ wdF (yst y + cum y M + 30) % 7 ∧ wdF (yst y + cum y M + 30) % 7 ≤ 6 := by omega
  unfold afterB
  rcases Int.lt_trichotomy m M with c | c | c
  · rw [if_neg (by omega)]
    have := cum_le (y := y) (a := m + 1) (b := M) (by omega) (by omega) (by omega)
    have := cum_succ (y := y) m1 m2
    simp only [decide_eq_true_eq]
    omega
  · subst c
    rw [if_pos rfl]
    have hR : sunR d (wdF day) = 31 - wdF (yst y + cum y m + 30) % 7 := by
      unfold sunR wdF
      rw [← e]
      omega
    rw [hR]
    simp only [Bool.or_eq_true, Bool.and_eq_true, decide_eq_true_eq, beq_iff_eq]
    omega
  · rw [if_neg (by omega)]
    have := cum_le (y := y) (a := M + 1) (b := m) (by omega) (by omega) (by omega)
    simp only [decide_eq_true_eq]
    omega
theorem sum_ref {y m d t : Int} (h : IsDate y m d (t / 1440)) : (afterB m d (wdF (t / 1440)) (t % 1440) 3 && !afterB m d (wdF (t / 1440)) (t % 1440) 10) = sumB t := by
  have a := after_iff (M := 3) h (min := t % 1440) (by omega) (by omega) (.inl rfl)
  have b := after_iff (M := 10) h (min := t % 1440) (by omega) (by omega) (.inr rfl)
  have s := sumB_iff t
  rw [yearF_of h.yr] at s
  unfold begF endF at s
  rw [show t / 1440 * 1440 + t % 1440 = t by omega] at a b
  rw [Bool.eq_iff_iff, s, Bool.and_eq_true, a, Bool.not_eq_true', ← Bool.not_eq_true, b]
  omega

end Go.Proofs.YtmappmeojmdekaaGreatDoor

namespace Go.Proofs.YtmappmeojmdekaaGreatDoor
open Go.RowKit Go.Lib
set_option linter.unusedVariables false

/-- the lengths of the months -/
def lenT (k : Nat) : Int := if k = 1 then 28 else if k = 3 ∨ k = 5 ∨ k = 8 ∨ k = 10 then 30 else 31
/-- the table of the lengths lies in memory -/
def LenV (w : World) : Prop := 4 < w.heap.size ∧ ∀ k, k < 12 → w.cell? ⟨4, k, none⟩ = some (.int .i64 (lenT k))
theorem LenV.below {w w' : World} (h : LenV w) (hb : Below w.heap.size w w') : LenV w' := ⟨Nat.lt_of_lt_of_le h.1 hb.size, fun k hk => (hb.cell (p := ⟨4, k, none⟩) h.1).trans (h.2 k hk)⟩
theorem LenV.drewN {w : World} (h : LenV w) (n : Nat) : LenV (w.drewN n) := h
theorem LenV.alloc {w : World} (h : LenV w) (o : Obj) : LenV (w.alloc o) := h.below ((Below.refl _ _).alloc (Nat.le_refl _) _)
theorem lenT_dim (k : Nat) (hk : k < 12) (y : Int) : lenT k = dimF y (k + 1) - (if k = 1 then lp y else 0) := by
  unfold lenT dimF
  repeat' split
  all_goals omega

theorem quot_of {a b : Int} (h0 : 0 < b) : a / b = (if a.tmod b < 0 then a.tdiv b - 1 else a.tdiv b) ∧ a % b = (if a.tmod b < 0 then a.tmod b + b else a.tmod b) := by
  have h1 := Int.tmod_add_mul_tdiv a b
  have h2 := Int.tmod_lt_of_pos a h0
  have h3 : -b < a.tmod b := Int.lt_tmod_of_pos a h0
  by_cases h : a.tmod b < 0
  · rw [if_pos h, if_pos h]
    exact (Int.ediv_emod_unique h0).2 ⟨by rw [Int.mul_sub]; omega, by omega, by omega⟩
  · rw [if_neg h, if_neg h]
    exact (Int.ediv_emod_unique h0).2 ⟨by omega, by omega, by omega⟩
theorem quot_bd {a b : Int} (h0 : 0 < b) (h2 : -1000000000000 ≤ a) (h3 : a ≤ 1000000000000) : -1000000000000 ≤ a.tdiv b ∧ a.tdiv b ≤ 1000000000000 := by
  have := Int.natAbs_tdiv_le_natAbs a b
  omega
theorem rem_bd {a b : Int} (h0 : 0 < b) : -b < a.tmod b ∧ a.tmod b < b := by
  have h2 := Int.tmod_lt_of_pos a h0
  exact ⟨Int.lt_tmod_of_pos a h0, h2⟩

set_option maxRecDepth 100000 in
set_option maxHeartbeats 800000 in
theorem divide_any (a b : Int) (w : World) (h0 : 0 < b) (h1 : b ≤ 1000000) (h2 : -1000000000000 ≤ a) (h3 : a ≤ 1000000000000) :
    Calls Tryz.prog 144 #[.int .i64 a, .int .i64 b] w fun e w' => e = .returned (.tuple #[.int .i64 (a / b), .int .i64 (a % b)]) ∧ ∃ n, w' = w.drewN n := by
  have HQ := Lib.hid (quot_of (a := a) h0)
  obtain ⟨q1, q2⟩ := quot_bd h0 h2 h3
  obtain ⟨r1, r2⟩ := rem_bd (a := a) h0
  by_cases h : a.tmod b < 0
  all_goals
    go_enter Tryz.func144, Tryz.ntmps144
    go_wp2
    go_quiet (fail)
    go_wp2
    go_ret2
    exact ⟨ret_int2 (by rw [HQ.out.1]; first | rw [if_pos h] | rw [if_neg (Int.not_lt.2 h)]) (by rw [HQ.out.2]; first | rw [if_pos h] | rw [if_neg (Int.not_lt.2 h)]), _, rfl⟩

set_option maxHeartbeats 400000 in
theorem calTime_any (t : Int) (w : World) :
    Calls Tryz.prog 127 #[.int .i64 t] w fun e w' => e = .returned (.bool (timeB t)) ∧ w = w' := by
  go_enter Tryz.func127, Tryz.ntmps127
  go_wp2
  all_goals go_ret
  all_goals exact ⟨ret_bool (by rw [Bool.eq_iff_iff, timeB_iff]; simp; omega), rfl⟩

set_option maxHeartbeats 400000 in
theorem leap_any (y : Int) (w : World) (h0 : 0 ≤ y) (h1 : y ≤ 10000) :
    Calls Tryz.prog 156 #[.int .i64 y] w fun e w' => e = .returned (.bool (leapB y)) ∧ w = w' := by
  go_enter Tryz.func156, Tryz.ntmps156
  go_wp2
  all_goals go_ret
  all_goals exact ⟨ret_bool (by unfold leapB; simp [*]), rfl⟩

set_option maxRecDepth 100000 in
set_option maxHeartbeats 400000 in
theorem multiples_any (k n : Int) (w : World) (h0 : 0 < n) (h1 : n ≤ 1000) (h2 : -100000 ≤ k) (h3 : k ≤ 100000) :
    Calls Tryz.prog 155 #[.int .i64 k, .int .i64 n] w fun e w' => e = .returned (.int .i64 ((k + n - 1) / n)) ∧ ∃ n, w' = w.drewN n := by
  go_enter Tryz.func155, Tryz.ntmps155
  go_wp2_with (go_at_call 144; refine (divide_any _ _ _ (by omega) (by omega) (by omega) (by omega)).mono ?_; rintro e w' ⟨rfl, n', rfl⟩)
  go_ret
  exact ⟨rfl, _, rfl⟩

set_option maxRecDepth 100000 in
set_option maxHeartbeats 800000 in
theorem yearStart_any (y : Int) (w : World) (h0 : 1000 ≤ y) (h1 : y ≤ 10000) :
    Calls Tryz.prog 146 #[.int .i64 y] w fun e w' => e = .returned (.int .i64 (yst y)) ∧ ∃ n, w' = w.drewN n := by
  go_enter Tryz.func146, Tryz.ntmps146
  go_wp2_with (go_at_call 155; refine (multiples_any _ _ _ (by omega) (by omega) (by omega) (by omega)).mono ?_; rintro e w' ⟨rfl, n', rfl⟩)
  go_ret
  exact ⟨ret_int (by unfold yst; omega), _, rfl⟩

set_option maxRecDepth 100000 in
set_option maxHeartbeats 400000 in
theorem weekday_any (d : Int) (w : World) (h0 : -1000000 ≤ d) (h1 : d ≤ 1000000) :
    Calls Tryz.prog 148 #[.int .i64 d] w fun e w' => e = .returned (.int .i64 (wdF d)) ∧ ∃ n, w' = w.drewN n := by
  go_enter Tryz.func148, Tryz.ntmps148
  go_wp2_with (go_at_call 144; refine (divide_any _ _ _ (by omega) (by omega) (by omega) (by omega)).mono ?_; rintro e w' ⟨rfl, n', rfl⟩)
  go_ret
  exact ⟨ret_int (by unfold wdF; first | rfl | omega), _, rfl⟩

set_option maxRecDepth 100000 in
set_option maxHeartbeats 800000 in
theorem monthDays_any (y m : Int) (w : World) (hv : LenV w) (h0 : 0 ≤ y) (h1 : y ≤ 10000) (h2 : 1 ≤ m) (h3 : m ≤ 12) :
    Calls Tryz.prog 147 #[.int .i64 y, .int .i64 m] w fun e w' => e = .returned (.int .i64 (dimF y m)) ∧ w = w' := by
  obtain ⟨k, rfl⟩ : ∃ k : Nat, m = (k : Int) + 1 := ⟨(m - 1).toNat, by omega⟩
  have hk : k < 12 := by omega
  have h1c := hv.2 1 (by omega)
  have hkc := hv.2 k hk
  have hkd := Lib.hid (lenT_dim k hk y)
  have hlp := Lib.hid (show lp y = if leapB y then 1 else 0 from rfl)
  have hl := (show lenT 1 = 28 from rfl)
  rw [hl] at h1c
  generalize lenT k = L at *
  clear hv hl
  by_cases e1 : k = 1
  · subst e1
    cases e2 : leapB y
    all_goals
      go_enter Tryz.func147, Tryz.ntmps147
      go_wp2_with (go_at_call 156; refine (leap_any _ _ (by omega) (by omega)).mono ?_; rintro e w' ⟨rfl, rfl⟩; rw [e2])
      go_ret
      exact ⟨ret_int (by show (_ : Int) = dimF y 2; unfold dimF lp; simp [e2]), rfl⟩
  · have e3 : ((k : Int) + 1 == 2) = false := by simp; omega
    go_enter Tryz.func147, Tryz.ntmps147
    go_wp2
    go_ret
    exact ⟨ret_int (by have h9 := hkd.out; rw [if_neg e1] at h9; omega), rfl⟩

end Go.Proofs.YtmappmeojmdekaaGreatDoor

namespace Go.Proofs.YtmappmeojmdekaaGreatDoor
open Go.RowKit Go.Lib
set_option linter.unusedVariables false

set_option maxRecDepth 100000 in
set_option maxHeartbeats 1600000 in
theorem yearOf_any (day : Int) (w : World) (h0 : -10 ≤ day) (h1 : day ≤ 300000) :
    Calls Tryz.prog 145 #[.int .i64 day] w fun e w' => e = .returned (.int .i64 (yearF day)) ∧ ∃ n, w' = w.drewN n := by
  have HU : Hid (∀ y : Int, 3000 ≤ y → 300000 < yst y) := fun y hy => by
    rcases Int.lt_or_eq_of_le hy with h | h
    · have := yst_lt h; have e : yst 3000 = 365243 := by decide
      omega
    · subst h; decide
  have HD : Hid (∀ y : Int, y ≤ 1999 → yst y < -10) := fun y hy => by
    rcases Int.lt_or_eq_of_le hy with h | h
    · have := yst_lt h; have e : yst 1999 = -365 := by decide
      omega
    · subst h; decide
  have q0 : 0 ≤ day * 400 / 146097 + 1 := by omega
  have q1 : day * 400 / 146097 ≤ 850 := by omega
  generalize hq : day * 400 / 146097 = q at *
  have HQ := Lib.hid hq
  clear hq
  go_enter Tryz.func145, Tryz.ntmps145
  go_wp2_with (go_at_call 144; refine (divide_any _ _ _ (by omega) (by omega) (by omega) (by omega)).mono ?_; rintro e w' ⟨rfl, n', rfl⟩; rw [HQ.out])
  go_loopw [5] (fun y wr => ∃ z : Int, y = .int .i64 z ∧ 1990 ≤ z ∧ z ≤ 3000 ∧ Hid (∃ n, wr = w.drewN n)) (fun y _ => (3000 - intOf y).toNat)
  case atStart => exact ⟨_, rfl, by omega, by omega, _, rfl⟩
  case round =>
    obtain ⟨z, rfl, z0, z1, HN⟩ := hrel
    by_cases hlt : yst (z + 1) ≤ day
    · have hz : z < 2999 := by
        apply Classical.byContradiction
        intro hn
        have := HU.out (z + 1) (by omega)
        omega
      go_wp2_with (go_at_call 146; refine (yearStart_any _ _ (by omega) (by omega)).mono ?_; rintro e w' ⟨rfl, n', rfl⟩)
      go_roundw
      case rel => exact ⟨z + 1, rfl, by omega, by omega, drewN_more HN _⟩
      case measure => simp [intOf]; omega
    · have hlt' : day < yst (z + 1) := by omega
      go_wp2_with (go_at_call 146; refine (yearStart_any _ _ (by omega) (by omega)).mono ?_; rintro e w' ⟨rfl, n', rfl⟩)
      have HN2 := drewN_more HN n'
      clear HN
      go_loopw [5] (fun y wr => ∃ z : Int, y = .int .i64 z ∧ 1990 ≤ z ∧ z ≤ 3000 ∧ day < yst (z + 1) ∧ Hid (∃ n, wr = w.drewN n)) (fun y _ => (intOf y).toNat)
      case atStart => exact ⟨_, rfl, by omega, by omega, hlt', HN2⟩
      case round =>
        clear hlt hlt' HN2
        obtain ⟨z, rfl, z0, z1, hlt, HN⟩ := hrel
        by_cases hgt : day < yst z
        · have hz : 1999 < z := by
            apply Classical.byContradiction
            intro hn
            have := HD.out z (by omega)
            omega
          go_wp2_with (go_at_call 146; refine (yearStart_any _ _ (by omega) (by omega)).mono ?_; rintro e w' ⟨rfl, n', rfl⟩)
          go_roundw
          case rel => exact ⟨z - 1, rfl, by omega, by omega, by rw [show z - 1 + 1 = z by omega]; exact hgt, drewN_more HN _⟩
          case measure => simp [intOf]; omega
        · have HY := Lib.hid (yearF_of (y := z) (day := day) ⟨by omega, hlt⟩)
          have hge : yst z ≤ day := by omega
          go_wp2_with (go_at_call 146; refine (yearStart_any _ _ (by omega) (by omega)).mono ?_; rintro e w' ⟨rfl, n', rfl⟩)
          go_ret
          exact ⟨ret_int HY.out.symm, drewN_more HN _⟩

theorem yst_bd (y : Int) (h0 : 1900 ≤ y) (h1 : y ≤ 4000) : -40000 ≤ yst y ∧ yst y ≤ 740000 := by
  unfold yst; omega
theorem yearF_is2 {day : Int} (h : -365 ≤ day) : IsYear (yearF day) day := by
  by_cases h0 : 0 ≤ day
  · exact yearF_is h0
  · have e1 : yst 1999 = -365 := by decide
    have e2 : yst (1999 + 1) = 0 := by decide
    have : IsYear 1999 day := ⟨by omega, by omega⟩
    rw [yearF_of this]; exact this
theorem yearF_rng {day : Int} (h : -365 ≤ day) (h1 : day ≤ 300000) : 1999 ≤ yearF day ∧ yearF day ≤ 3000 := by
  obtain ⟨a, b⟩ := yearF_is2 h
  constructor
  · apply Classical.byContradiction
    intro hn
    have e : yst 1999 = -365 := by decide
    rcases Int.lt_or_eq_of_le (show yearF day + 1 ≤ 1999 by omega) with f | f
    · have := yst_lt f; omega
    · rw [f] at b; omega
  · apply Classical.byContradiction
    intro hn
    have e : yst 3000 = 365243 := by decide
    have := yst_lt (show 3000 < yearF day by omega)
    omega

set_option maxRecDepth 100000 in
set_option maxHeartbeats 1600000 in
theorem civil_any (t : Int) (w : World) (hv : LenV w) (h0 : -1000 ≤ t) (h1 : t ≤ 268440000) :
    Calls Tryz.prog 128 #[.int .i64 t] w fun e w' => (∃ y m d : Int, e = .returned (.agg #[.int .i64 y, .int .i64 m, .int .i64 d, .int .i64 (wdF (t / 1440)), .int .i64 (t % 1440)])) ∧ Below w.heap.size w w' := by
  have hd0 : -1 ≤ t / 1440 := by omega
  have hd1 : t / 1440 ≤ 190000 := by omega
  have hy := yearF_rng (day := t / 1440) (by omega) (by omega)
  obtain ⟨ha, hb⟩ := yearF_is2 (day := t / 1440) (by omega)
  rw [yst_succ] at hb
  have hyb := yst_bd _ (show 1900 ≤ yearF (t / 1440) by omega) (by omega)
  generalize hY : yearF (t / 1440) = y at *
  have HY := Lib.hid hY
  clear hY
  have HC := Lib.hid (fun (m : Int) h1 h2 => And.intro (cum_succ (y := y) (m := m) h1 h2) (dimF_rng y m))
  have hlp := lp_01 y
  have HC12 := Lib.hid (cum_13 y)
  go_enter Tryz.func128, Tryz.ntmps128
  go_wp2_with (first | (go_at_call 144; refine (divide_any _ _ _ (by omega) (by omega) (by omega) (by omega)).mono ?_; rintro e w' ⟨rfl, n', rfl⟩) | (go_at_call 145; refine (yearOf_any _ _ (by omega) (by omega)).mono ?_; rintro e w' ⟨rfl, n1, rfl⟩; rw [HY.out]) | (go_at_call 146; refine (yearStart_any _ _ (by omega) (by omega)).mono ?_; rintro e w' ⟨rfl, n2, rfl⟩))
  go_loop [6, 7] (fun r k => ∃ m : Int, 1 ≤ m ∧ m ≤ 12 ∧ k = .int .i64 m ∧ 0 ≤ t / 1440 - yst y - cum y m ∧ r = .int .i64 (t / 1440 - yst y - cum y m)) (fun _ k => (12 - intOf k).toNat)
  case atStart => exact ⟨1, by omega, by omega, rfl, by rw [cum_one]; omega, by rw [cum_one, Int.sub_zero]⟩
  case round =>
    obtain ⟨m, hm1, hm2, rfl, hr, rfl⟩ := hrel
    obtain ⟨hcs, hdm, hdm2⟩ := HC.out m hm1 hm2
    have hcr := cum_rng y m
    by_cases hc : dimF y m ≤ t / 1440 - yst y - cum y m
    · have hm : m < 12 := by
        rcases Int.lt_or_eq_of_le hm2 with e | e
        · exact e
        · subst e; have := HC12.out; rw [show (12 : Int) + 1 = 13 by rfl] at hcs; omega
      go_wp2_with (go_at_call 147; refine (monthDays_any _ _ _ (by repeat (first | exact hv | refine LenV.alloc ?_ _ | refine LenV.drewN ?_ _)) (by omega) (by omega) (by omega) (by omega)).mono ?_; rintro e w' ⟨rfl, rfl⟩)
      go_round
      case rel => exact ⟨m + 1, by omega, by omega, rfl, by rw [hcs]; omega, by rw [hcs]; go_num⟩
      case measure => simp [intOf]; omega
    · have hc' : t / 1440 - yst y - cum y m < dimF y m := by omega
      go_wp2_with (first | (go_at_call 147; refine (monthDays_any _ _ _ (by repeat (first | exact hv | refine LenV.alloc ?_ _ | refine LenV.drewN ?_ _)) (by omega) (by omega) (by omega) (by omega)).mono ?_; rintro e w' ⟨rfl, rfl⟩) | (go_at_call 148; refine (weekday_any _ _ (by omega) (by omega)).mono ?_; rintro e w' ⟨rfl, n3, rfl⟩))
      refine bodyPost_ret (v := .agg #[.int .i64 y, .int .i64 m, .int .i64 (t / 1440 - yst y - cum y m + 1), .int .i64 (wdF (t / 1440)), .int .i64 (t % 1440)]) (by simp [results, Tryz.results128, go_sem]) rfl ⟨⟨y, m, _, rfl⟩, ?_⟩
      repeat (first | exact Below.refl _ _ | refine below_set ?_ (by simp) _ | refine below_alloc ?_ _ | refine below_drewN ?_ _)

end Go.Proofs.YtmappmeojmdekaaGreatDoor

namespace Go.Proofs.YtmappmeojmdekaaGreatDoor
open Go.RowKit Go.Lib
set_option linter.unusedVariables false

set_option maxRecDepth 100000 in
set_option maxHeartbeats 1600000 in
theorem lastSunday_any (y m : Int) (w : World) (hv : LenV w) (h0 : 1900 ≤ y) (h1 : y ≤ 4000) (h2 : 1 ≤ m) (h3 : m ≤ 12) :
    Calls Tryz.prog 157 #[.int .i64 y, .int .i64 m] w fun e w' => e = .returned (.int .i64 (sunF y m)) ∧ ∃ n, w' = w.drewN n := by
  have hb := yst_bd y h0 h1
  have HC := Lib.hid (fun (m : Int) h1 h2 => And.intro (cum_succ (y := y) (m := m) h1 h2) (dimF_rng y m))
  go_enter Tryz.func157, Tryz.ntmps157
  go_wp2_with (first | (go_at_call 146; refine (yearStart_any _ _ (by omega) (by omega)).mono ?_; rintro e w' ⟨rfl, n2, rfl⟩))
  go_loop [5, 6] (fun r i => ∃ k : Int, 1 ≤ k ∧ k ≤ m + 1 ∧ i = .int .i64 k ∧ r = .int .i64 (yst y + cum y k - 1)) (fun _ i => (m + 1 - intOf i).toNat)
  case atStart => exact ⟨1, by omega, by omega, rfl, by rw [cum_one, Int.add_zero]⟩
  case round =>
    obtain ⟨k, hk1, hk2, rfl, rfl⟩ := hrel
    have hcr := cum_rng y k
    by_cases hc : k ≤ m
    · obtain ⟨hcs, hdm, hdm2⟩ := HC.out k hk1 (by omega)
      go_wp2_with (go_at_call 147; refine (monthDays_any _ _ _ (by repeat (first | exact hv | refine LenV.alloc ?_ _ | refine LenV.drewN ?_ _)) (by omega) (by omega) (by omega) (by omega)).mono ?_; rintro e w' ⟨rfl, rfl⟩)
      go_round
      case rel => exact ⟨k + 1, by omega, by omega, rfl, by rw [hcs]; go_num⟩
      case measure => simp [intOf]; omega
    · obtain rfl : k = m + 1 := by omega
      have hw := wdF_rng (yst y + cum y (m + 1) - 1)
      go_wp2_with (go_at_call 148; refine (weekday_any _ _ (by omega) (by omega)).mono ?_; rintro e w' ⟨rfl, n3, rfl⟩)
      go_ret
      exact ⟨ret_int (by unfold sunF; first | rfl | omega), _, rfl⟩

set_option maxRecDepth 100000 in
set_option maxHeartbeats 1600000 in
theorem summer_any (t : Int) (w : World) (hv : LenV w) (h0 : 0 ≤ t) (h1 : t ≤ 268435456) :
    Calls Tryz.prog 149 #[.int .i64 t] w fun e w' => e = .returned (.bool (sumB t)) ∧ ∃ n, w' = w.drewN n := by
  have ht : timeB t = true := timeB_iff.2 ⟨h0, h1⟩
  have HT := Lib.hid ht
  clear ht
  have hy := yearF_rng (day := t / 1440) (by omega) (by omega)
  have HS : Hid (sumB t = (decide (begF (yearF (t / 1440)) ≤ t) && decide (t < endF (yearF (t / 1440))))) := rfl
  have hyb := yst_bd _ (show 1900 ≤ yearF (t / 1440) by omega) (by omega)
  have hb := begF_rng (yearF (t / 1440))
  have he := endF_rng (yearF (t / 1440))
  generalize hY : yearF (t / 1440) = y at *
  have HY := Lib.hid hY
  unfold begF endF at *
  clear hY
  have hd0 : 0 ≤ t / 1440 := by omega
  have hd1 : t / 1440 ≤ 190000 := by omega
  by_cases hlt : t < sunF y 3 * 1440 + 60
  all_goals
    go_enter Tryz.func149, Tryz.ntmps149
    go_wp2_with (first | (go_at_call 127; refine (calTime_any _ _).mono ?_; rintro e w' ⟨rfl, rfl⟩; rw [HT.out]) | (go_at_call 145; refine (yearOf_any _ _ (by omega) (by omega)).mono ?_; rintro e w' ⟨rfl, n1, rfl⟩; rw [HY.out]) | (go_at_call 157; refine (lastSunday_any _ _ _ (by repeat (first | exact hv | refine LenV.alloc ?_ _ | refine LenV.drewN ?_ _)) (by omega) (by omega) (by omega) (by omega)).mono ?_; rintro e w' ⟨rfl, n2, rfl⟩))
    go_ret
    exact ⟨ret_bool (by rw [HS.out]; simp; omega), _, rfl⟩

set_option maxRecDepth 100000 in
set_option maxHeartbeats 400000 in
theorem calZone_any (z : ZoneR) (w : World) :
    Calls Tryz.prog 126 #[.agg #[.int .i64 z.off, .bool z.sum]] w fun e w' => e = .returned (.bool (zoneB z)) ∧ Below w.heap.size w w' := by
  go_enter Tryz.func126, Tryz.ntmps126
  go_wp2
  all_goals go_ret
  all_goals exact ⟨ret_bool (by rw [Bool.eq_iff_iff, zoneB_iff]; simp; omega), below_alloc (Below.refl _ _) _⟩

set_option maxRecDepth 100000 in
set_option maxHeartbeats 800000 in
theorem offset_any (z : ZoneR) (t : Int) (w : World) (hv : LenV w) (hz : zoneB z = true) (h0 : 0 ≤ t) (h1 : t ≤ 268435456) :
    Calls Tryz.prog 129 #[.agg #[.int .i64 z.off, .bool z.sum], .int .i64 t] w fun e w' => e = .returned (.int .i64 (offF z t)) ∧ Below w.heap.size w w' := by
  have HZ := Lib.hid hz
  obtain ⟨z1, z2⟩ := zoneB_iff.1 hz
  clear hz
  obtain ⟨zo, zs⟩ := z
  have HO : Hid (offF ⟨zo, zs⟩ t = if (zs && sumB t) = true then zo + 60 else zo) := rfl
  simp only at z1 z2
  generalize hs : sumB t = s at *
  have HS := Lib.hid hs
  clear hs
  cases zs
  all_goals cases s
  all_goals
    go_enter Tryz.func129, Tryz.ntmps129
    go_wp2_with (first | (go_at_call 126; refine (calZone_any ⟨zo, _⟩ _).mono ?_; rintro e w' ⟨rfl, hb⟩; rw [HZ.out]; obtain ⟨hc, hf⟩ := bcell hb; have hz := hb.size; simp only [World.size_alloc, Nat.add_one_le_iff] at hz) | (go_at_call 149; refine (summer_any _ _ (by exact (hv.alloc _).below hb) (by omega) (by omega)).mono ?_; rintro e w' ⟨rfl, n2, rfl⟩; rw [HS.out]))
    go_ret
    exact ⟨ret_int (by rw [HO.out]; simp), by repeat (first | exact below_step (below_alloc (Below.refl _ _) _) hb | refine below_drewN ?_ _)⟩

set_option maxRecDepth 100000 in
set_option maxHeartbeats 800000 in
theorem local_zone (z : ZoneR) (t : Int) (w : World) (hz : zoneB z = false) :
    Calls Tryz.prog 104 #[.agg #[.int .i64 z.off, .bool z.sum], .int .i64 t] w fun e w' => e = .returned (.tuple #[.agg #[.int .i64 0, .int .i64 0, .int .i64 0, .int .i64 0, .int .i64 0], .int .i64 1]) ∧ Below w.heap.size w w' := by
  have HZ := Lib.hid hz
  clear hz
  have hbw := Below.refl w.heap.size w
  go_enter Tryz.func104, Tryz.ntmps104
  go_wp2_with ((go_at_call 126; refine (calZone_any z _).mono ?_; rintro e w' ⟨rfl, hb⟩; obtain ⟨hc, hf⟩ := bcell hb; have hz := hb.size; (try simp only [World.size_alloc, Nat.add_one_le_iff] at hz); (try (have hz0 : w.heap.size < w'.heap.size := by omega)); (try (have hz1 : w.heap.size + 1 < w'.heap.size := by omega)); (try (have hz2 : w.heap.size < w'.heap.size := by omega)); replace hbw := below_step (w := w) (by repeat (first | exact hbw | refine below_alloc ?_ _ | refine below_drew ?_ | refine below_drewN ?_ _ | (refine below_set ?_ ?_ _; rotate_left; (first | exact Nat.le_refl _ | (simp only [World.size_alloc]; omega) | omega)))) hb; clear hb; rw [HZ.out]))
  exact bodyPost_ret (v := .tuple #[.agg #[.int .i64 0, .int .i64 0, .int .i64 0, .int .i64 0, .int .i64 0], .int .i64 1]) (by simp [results, Tryz.results104, go_sem, hc]) rfl ⟨rfl, by repeat (first | exact hbw | refine below_set ?_ (by simp) _ | refine below_alloc ?_ _ | refine below_drewN ?_ _)⟩
set_option maxRecDepth 100000 in
set_option maxHeartbeats 800000 in
theorem local_time (z : ZoneR) (t : Int) (w : World) (hz : zoneB z = true) (ht : timeB t = false) :
    Calls Tryz.prog 104 #[.agg #[.int .i64 z.off, .bool z.sum], .int .i64 t] w fun e w' => e = .returned (.tuple #[.agg #[.int .i64 0, .int .i64 0, .int .i64 0, .int .i64 0, .int .i64 0], .int .i64 2]) ∧ Below w.heap.size w w' := by
  have HZ := Lib.hid hz
  have HT := Lib.hid ht
  clear hz ht
  have hbw := Below.refl w.heap.size w
  go_enter Tryz.func104, Tryz.ntmps104
  go_wp2_with (first | (go_at_call 126; refine (calZone_any z _).mono ?_; rintro e w' ⟨rfl, hb⟩; obtain ⟨hc, hf⟩ := bcell hb; have hz := hb.size; (try simp only [World.size_alloc, Nat.add_one_le_iff] at hz); (try (have hz0 : w.heap.size < w'.heap.size := by omega)); (try (have hz1 : w.heap.size + 1 < w'.heap.size := by omega)); (try (have hz2 : w.heap.size < w'.heap.size := by omega)); replace hbw := below_step (w := w) (by repeat (first | exact hbw | refine below_alloc ?_ _ | refine below_drew ?_ | refine below_drewN ?_ _ | (refine below_set ?_ ?_ _; rotate_left; (first | exact Nat.le_refl _ | (simp only [World.size_alloc]; omega) | omega)))) hb; clear hb; rw [HZ.out]) | (go_at_call 127; refine (calTime_any _ _).mono ?_; rintro e w' ⟨rfl, rfl⟩; rw [HT.out]))
  exact bodyPost_ret (v := .tuple #[.agg #[.int .i64 0, .int .i64 0, .int .i64 0, .int .i64 0, .int .i64 0], .int .i64 2]) (by simp [results, Tryz.results104, go_sem, hc]) rfl ⟨rfl, by repeat (first | exact hbw | refine below_set ?_ (by simp) _ | refine below_alloc ?_ _ | refine below_drewN ?_ _)⟩
set_option maxRecDepth 100000 in
set_option maxHeartbeats 1600000 in
theorem local_any (z : ZoneR) (t : Int) (w : World) (hv : LenV w) (hz : zoneB z = true) (h0 : 0 ≤ t) (h1 : t ≤ 268435456) :
    Calls Tryz.prog 104 #[.agg #[.int .i64 z.off, .bool z.sum], .int .i64 t] w
      fun e w' => (∃ y m d : Int, e = .returned (.tuple #[.agg #[.int .i64 y, .int .i64 m, .int .i64 d, .int .i64 (wdF ((t + offF z t) / 1440)), .int .i64 ((t + offF z t) % 1440)], .int .i64 0])) ∧ Below w.heap.size w w' := by
  have HZ := Lib.hid hz
  have HT := Lib.hid (timeB_iff.2 ⟨h0, h1⟩)
  obtain ⟨z1, z2⟩ := zoneB_iff.1 hz
  have hob : -840 ≤ offF z t ∧ offF z t ≤ 900 := by unfold offF; split <;> omega
  clear hz
  generalize hO : offF z t = o at *
  have HO := Lib.hid hO
  clear hO
  have hbw := Below.refl w.heap.size w
  go_enter Tryz.func104, Tryz.ntmps104
  go_wp2_with (first | (go_at_call 126; refine (calZone_any z _).mono ?_; rintro e w' ⟨rfl, hb⟩; obtain ⟨hc, hf⟩ := bcell hb; have hz := hb.size; (try simp only [World.size_alloc, Nat.add_one_le_iff] at hz); (try (have hz0 : w.heap.size < w'.heap.size := by omega)); (try (have hz1 : w.heap.size + 1 < w'.heap.size := by omega)); (try (have hz2 : w.heap.size < w'.heap.size := by omega)); replace hbw := below_step (w := w) (by repeat (first | exact hbw | refine below_alloc ?_ _ | refine below_drew ?_ | refine below_drewN ?_ _ | (refine below_set ?_ ?_ _; rotate_left; (first | exact Nat.le_refl _ | (simp only [World.size_alloc]; omega) | omega)))) hb; clear hb; rw [HZ.out]) | (go_at_call 127; refine (calTime_any _ _).mono ?_; rintro e w' ⟨rfl, rfl⟩; rw [HT.out]) | (go_at_call 129; refine (offset_any z t _ (hv.below (by repeat (first | exact hbw | refine below_alloc ?_ _ | refine below_drew ?_ | refine below_drewN ?_ _))) HZ.out h0 h1).mono ?_; rintro e w' ⟨rfl, hb⟩; obtain ⟨hc, hf⟩ := bcell hb; have hz := hb.size; (try simp only [World.size_alloc, Nat.add_one_le_iff] at hz); (try (have hz0 : w.heap.size < w'.heap.size := by omega)); (try (have hz1 : w.heap.size + 1 < w'.heap.size := by omega)); (try (have hz2 : w.heap.size < w'.heap.size := by omega)); replace hbw := below_step (w := w) (by repeat (first | exact hbw | refine below_alloc ?_ _ | refine below_drew ?_ | refine below_drewN ?_ _ | (refine below_set ?_ ?_ _; rotate_left; (first | exact Nat.le_refl _ | (simp only [World.size_alloc]; omega) | omega)))) hb; clear hb; rw [HO.out]) | (go_at_call 128; refine (civil_any _ _ (hv.below (by repeat (first | exact hbw | refine below_alloc ?_ _ | refine below_drew ?_ | refine below_drewN ?_ _))) (by omega) (by omega)).mono ?_; rintro e w' ⟨⟨y, m, d, rfl⟩, hb⟩; obtain ⟨hc, hf⟩ := bcell hb; have hz := hb.size; (try simp only [World.size_alloc, Nat.add_one_le_iff] at hz); (try (have hz0 : w.heap.size < w'.heap.size := by omega)); (try (have hz1 : w.heap.size + 1 < w'.heap.size := by omega)); (try (have hz2 : w.heap.size < w'.heap.size := by omega)); replace hbw := below_step (w := w) (by repeat (first | exact hbw | refine below_alloc ?_ _ | refine below_drew ?_ | refine below_drewN ?_ _ | (refine below_set ?_ ?_ _; rotate_left; (first | exact Nat.le_refl _ | (simp only [World.size_alloc]; omega) | omega)))) hb; clear hb))
  exact bodyPost_ret (v := .tuple #[.agg #[.int .i64 y, .int .i64 m, .int .i64 d, .int .i64 (wdF ((t + o) / 1440)), .int .i64 ((t + o) % 1440)], .int .i64 0]) (by simp [results, Tryz.results104, go_sem, *]) rfl ⟨⟨y, m, d, rfl⟩, by repeat (first | exact hbw | refine below_set ?_ (by simp) _ | refine below_alloc ?_ _ | refine below_drewN ?_ _)⟩

end Go.Proofs.YtmappmeojmdekaaGreatDoor

namespace Go.Proofs.YtmappmeojmdekaaGreatDoor
open Go.RowKit Go.Lib
set_option linter.unusedVariables false

def WinR.vals (W : WinR) : Array Value := #[.int .i64 W.dy, .int .i64 W.st, .int .i64 W.en, .int .i64 W.fr, .int .i64 W.to]
theorem bits_and1 (x : Int) (h0 : 0 ≤ x) (h1 : x ≤ 127) : bits .and .i64 x 1 = x % 2 := by
  obtain ⟨k, rfl⟩ : ∃ k : Fin 128, x = ((k : Nat) : Int) := ⟨⟨x.toNat, by omega⟩, by simp; omega⟩
  revert k
  decide

set_option maxRecDepth 100000 in
set_option maxHeartbeats 400000 in
theorem winZone_any (z : ZoneR) (w : World) (hv : LenV w) :
    Calls Tryz.prog 139 #[.agg #[.int .i64 z.off, .bool z.sum]] w fun e w' => e = .returned (.bool (zoneB z)) ∧ Below w.heap.size w w' := by
  have HV := Lib.hid hv
  clear hv
  have hbw := Below.refl w.heap.size w
  cases hz : zoneB z with
  | false =>
    have HZ := Lib.hid hz
    clear hz
    go_enter Tryz.func139, Tryz.ntmps139
    go_wp2_with ((go_at_call 104; refine (local_zone z 0 _ HZ.out).mono ?_; rintro e w' ⟨rfl, hb⟩; obtain ⟨hc, hf⟩ := bcell hb; have hz := hb.size; (try simp only [World.size_alloc, Nat.add_one_le_iff] at hz); (try (have hz0 : w.heap.size < w'.heap.size := by omega)); (try (have hz1 : w.heap.size + 1 < w'.heap.size := by omega)); (try (have hz2 : w.heap.size < w'.heap.size := by omega)); replace hbw := below_step (w := w) (by repeat (first | exact hbw | refine below_alloc ?_ _ | refine below_drew ?_ | refine below_drewN ?_ _ | (refine below_set ?_ ?_ _; rotate_left; (first | exact Nat.le_refl _ | (simp only [World.size_alloc]; omega) | omega)))) hb; clear hb))
    go_ret
    exact ⟨rfl, by repeat (first | exact hbw | refine below_set ?_ (by simp; omega) _ | refine below_alloc ?_ _ | refine below_drewN ?_ _)⟩
  | true =>
    have HZ := Lib.hid hz
    clear hz
    go_enter Tryz.func139, Tryz.ntmps139
    go_wp2_with ((go_at_call 104; refine (local_any z 0 _ (HV.out.below (by repeat (first | exact hbw | refine below_alloc ?_ _ | refine below_drew ?_ | refine below_drewN ?_ _))) HZ.out (by omega) (by omega)).mono ?_; rintro e w' ⟨⟨y, m, d, rfl⟩, hb⟩; obtain ⟨hc, hf⟩ := bcell hb; have hz := hb.size; (try simp only [World.size_alloc, Nat.add_one_le_iff] at hz); (try (have hz0 : w.heap.size < w'.heap.size := by omega)); (try (have hz1 : w.heap.size + 1 < w'.heap.size := by omega)); (try (have hz2 : w.heap.size < w'.heap.size := by omega)); replace hbw := below_step (w := w) (by repeat (first | exact hbw | refine below_alloc ?_ _ | refine below_drew ?_ | refine below_drewN ?_ _ | (refine below_set ?_ ?_ _; rotate_left; (first | exact Nat.le_refl _ | (simp only [World.size_alloc]; omega) | omega)))) hb; clear hb))
    go_ret
    exact ⟨rfl, by repeat (first | exact hbw | refine below_set ?_ (by simp; omega) _ | refine below_alloc ?_ _ | refine below_drewN ?_ _)⟩

set_option maxRecDepth 100000 in
set_option maxHeartbeats 800000 in
theorem winValid_any (W : WinR) (w : World) :
    Calls Tryz.prog 46 #[.agg #[.int .i64 W.dy, .int .i64 W.st, .int .i64 W.en, .int .i64 W.fr, .int .i64 W.to]] w fun e w' => e = .returned (.int .i64 (winE W)) ∧ Below w.heap.size w w' := by
  go_enter Tryz.func46, Tryz.ntmps46
  go_wp2
  all_goals go_ret
  all_goals first
    | exact ⟨ret_int (winE_no (by rintro ⟨_, _, _, _, _, _, _, _, _⟩; (try simp at *); omega)).symm, below_alloc (Below.refl _ _) _⟩
    | exact ⟨ret_int (winE_ok (by constructor <;> ((try simp at *); omega))).symm, below_alloc (Below.refl _ _) _⟩

end Go.Proofs.YtmappmeojmdekaaGreatDoor

namespace Go.Proofs.YtmappmeojmdekaaGreatDoor
open Go.RowKit Go.Lib
set_option linter.unusedVariables false

set_option maxRecDepth 100000 in
set_option maxHeartbeats 800000 in
theorem onDay_any (d s e f t wd : Int) (w : World) (h0 : 0 ≤ d) (h1 : d ≤ 127) (h2 : 1 ≤ wd) (h3 : wd ≤ 7) :
    Calls Tryz.prog 105 #[.agg #[.int .i64 d, .int .i64 s, .int .i64 e, .int .i64 f, .int .i64 t], .int .i64 wd] w fun e w' => e = .returned (.bool (onB d wd)) ∧ Below w.heap.size w w' := by
  by_cases hd : d = 0
  · subst hd
    go_enter Tryz.func105, Tryz.ntmps105
    go_wp2
    go_ret
    exact ⟨rfl, below_alloc (Below.refl _ _) _⟩
  · have hd1 : (d == 0) = false := by simpa using hd
    have HO : Hid (onB d wd = (d == 0 || d / 2 ^ (wd - 1).toNat % 2 == 1)) := rfl
    clear hd
    have hw : wd = 1 ∨ wd = 2 ∨ wd = 3 ∨ wd = 4 ∨ wd = 5 ∨ wd = 6 ∨ wd = 7 := by omega
    clear h2 h3
    rcases hw with rfl | rfl | rfl | rfl | rfl | rfl | rfl
    all_goals
      go_enter Tryz.func105, Tryz.ntmps105
      go_wp2
      go_ret
      exact ⟨ret_bool (by rw [HO.out, hd1, bits_and1 _ (by omega) (by omega)]; first | rfl | simp), below_alloc (Below.refl _ _) _⟩

/-- a time outside of the window -/
theorem inB_no {W : WinR} {t : Int} (h : inB W t = false) (ht : W.to = -1 ∨ 0 ≤ W.to) : t < W.fr ∨ (W.fr ≤ t ∧ 0 ≤ W.to ∧ W.to ≤ t) := by
  apply Classical.byContradiction
  intro hn
  have : inB W t = true := inB_iff.2 (by omega)
  rw [h] at this; cases this

set_option maxRecDepth 100000 in
set_option maxHeartbeats 3200000 in
theorem holds_out (W : WinR) (z : ZoneR) (t : Int) (w : World) (hW : winB W = true) (hi : inB W t = false) :
    Calls Tryz.prog 88 #[.agg #[.int .i64 W.dy, .int .i64 W.st, .int .i64 W.en, .int .i64 W.fr, .int .i64 W.to], .agg #[.int .i64 z.off, .bool z.sum], .int .i64 t] w
      fun e w' => e = .returned (.bool (holdsB W z t)) ∧ Below w.heap.size w w' := by
  have HF := Lib.hid (holdsB_out (z := z) hi)
  have ok := winB_iff.1 hW
  have hn := inB_no hi (by have := ok.t; have := ok.f0; omega)
  clear hW hi ok
  rcases hn with h | ⟨h1, h2, h3⟩
  all_goals
    go_enter Tryz.func88, Tryz.ntmps88
    go_wp2
    go_ret
    exact ⟨ret_bool HF.out.symm, by repeat (first | exact Below.refl _ _ | refine below_alloc ?_ _)⟩

set_option maxRecDepth 100000 in
set_option maxHeartbeats 3200000 in
theorem holds_bad (W : WinR) (z : ZoneR) (t : Int) (w : World) (hW : winB W = true) (hi : inB W t = true) (hz : zoneB z = false ∨ (zoneB z = true ∧ timeB t = false)) :
    Calls Tryz.prog 88 #[.agg #[.int .i64 W.dy, .int .i64 W.st, .int .i64 W.en, .int .i64 W.fr, .int .i64 W.to], .agg #[.int .i64 z.off, .bool z.sum], .int .i64 t] w
      fun e w' => e = .returned (.bool (holdsB W z t)) ∧ Below w.heap.size w w' := by
  have HF : Hid (holdsB W z t = false) := by
    unfold Hid holdsB
    rcases hz with h | ⟨_, h⟩
    · rw [h]; simp
    · rw [h]; simp
  have HZ := Lib.hid hz
  obtain ⟨h1, h2⟩ := inB_iff.1 hi
  have ok := winB_iff.1 hW
  have ht := ok.t
  have hf0 := ok.f0
  have hbw := Below.refl w.heap.size w
  clear hW hi ok hz
  rcases h2 with h2 | h2
  · have e0 : ¬ (0 ≤ W.to) := by omega
    rcases HZ.out with h | ⟨hz1, h⟩
    · have HB := Lib.hid h
      clear h HZ
      go_enter Tryz.func88, Tryz.ntmps88
      go_wp2_with ((go_at_call 104; refine (local_zone z t _ HB.out).mono ?_; rintro e w' ⟨rfl, hb⟩; obtain ⟨hc, hf⟩ := bcell hb; have hz := hb.size; (try simp only [World.size_alloc, Nat.add_one_le_iff] at hz); (try (have hz0 : w.heap.size < w'.heap.size := by omega)); (try (have hz1 : w.heap.size + 1 < w'.heap.size := by omega)); (try (have hz2 : w.heap.size < w'.heap.size := by omega)); replace hbw := below_step (w := w) (by repeat (first | exact hbw | refine below_alloc ?_ _ | refine below_drew ?_ | refine below_drewN ?_ _ | (refine below_set ?_ ?_ _; rotate_left; (first | exact Nat.le_refl _ | (simp only [World.size_alloc]; omega) | omega)))) hb; clear hb))
      go_ret
      exact ⟨ret_bool HF.out.symm, by repeat (first | exact hbw | refine below_set ?_ (by simp; omega) _ | refine below_alloc ?_ _ | refine below_drewN ?_ _)⟩
    · have HB := Lib.hid (And.intro hz1 h)
      clear h HZ hz1
      go_enter Tryz.func88, Tryz.ntmps88
      go_wp2_with ((go_at_call 104; refine (local_time z t _ HB.out.1 HB.out.2).mono ?_; rintro e w' ⟨rfl, hb⟩; obtain ⟨hc, hf⟩ := bcell hb; have hz := hb.size; (try simp only [World.size_alloc, Nat.add_one_le_iff] at hz); (try (have hz0 : w.heap.size < w'.heap.size := by omega)); (try (have hz1 : w.heap.size + 1 < w'.heap.size := by omega)); (try (have hz2 : w.heap.size < w'.heap.size := by omega)); replace hbw := below_step (w := w) (by repeat (first | exact hbw | refine below_alloc ?_ _ | refine below_drew ?_ | refine below_drewN ?_ _ | (refine below_set ?_ ?_ _; rotate_left; (first | exact Nat.le_refl _ | (simp only [World.size_alloc]; omega) | omega)))) hb; clear hb))
      go_ret
      exact ⟨ret_bool HF.out.symm, by repeat (first | exact hbw | refine below_set ?_ (by simp; omega) _ | refine below_alloc ?_ _ | refine below_drewN ?_ _)⟩
  · rcases HZ.out with h | ⟨hz1, h⟩
    · have HB := Lib.hid h
      clear h HZ
      go_enter Tryz.func88, Tryz.ntmps88
      go_wp2_with ((go_at_call 104; refine (local_zone z t _ HB.out).mono ?_; rintro e w' ⟨rfl, hb⟩; obtain ⟨hc, hf⟩ := bcell hb; have hz := hb.size; (try simp only [World.size_alloc, Nat.add_one_le_iff] at hz); (try (have hz0 : w.heap.size < w'.heap.size := by omega)); (try (have hz1 : w.heap.size + 1 < w'.heap.size := by omega)); (try (have hz2 : w.heap.size < w'.heap.size := by omega)); replace hbw := below_step (w := w) (by repeat (first | exact hbw | refine below_alloc ?_ _ | refine below_drew ?_ | refine below_drewN ?_ _ | (refine below_set ?_ ?_ _; rotate_left; (first | exact Nat.le_refl _ | (simp only [World.size_alloc]; omega) | omega)))) hb; clear hb))
      all_goals go_ret
      all_goals exact ⟨ret_bool HF.out.symm, by repeat (first | exact hbw | refine below_set ?_ (by simp; omega) _ | refine below_alloc ?_ _ | refine below_drewN ?_ _)⟩
    · have HB := Lib.hid (And.intro hz1 h)
      clear h HZ hz1
      go_enter Tryz.func88, Tryz.ntmps88
      go_wp2_with ((go_at_call 104; refine (local_time z t _ HB.out.1 HB.out.2).mono ?_; rintro e w' ⟨rfl, hb⟩; obtain ⟨hc, hf⟩ := bcell hb; have hz := hb.size; (try simp only [World.size_alloc, Nat.add_one_le_iff] at hz); (try (have hz0 : w.heap.size < w'.heap.size := by omega)); (try (have hz1 : w.heap.size + 1 < w'.heap.size := by omega)); (try (have hz2 : w.heap.size < w'.heap.size := by omega)); replace hbw := below_step (w := w) (by repeat (first | exact hbw | refine below_alloc ?_ _ | refine below_drew ?_ | refine below_drewN ?_ _ | (refine below_set ?_ ?_ _; rotate_left; (first | exact Nat.le_refl _ | (simp only [World.size_alloc]; omega) | omega)))) hb; clear hb))
      all_goals go_ret
      all_goals exact ⟨ret_bool HF.out.symm, by repeat (first | exact hbw | refine below_set ?_ (by simp; omega) _ | refine below_alloc ?_ _ | refine below_drewN ?_ _)⟩

end Go.Proofs.YtmappmeojmdekaaGreatDoor

namespace Go.Proofs.YtmappmeojmdekaaGreatDoor
open Go.RowKit Go.Lib
set_option linter.unusedVariables false

set_option maxRecDepth 100000 in
set_option maxHeartbeats 3200000 in
theorem holds_in (W : WinR) (z : ZoneR) (t : Int) (w : World) (hv : LenV w) (hW : winB W = true) (hi : inB W t = true) (hz : zoneB z = true) (ht : timeB t = true) (hle : W.st ≤ W.en) :
    Calls Tryz.prog 88 #[.agg #[.int .i64 W.dy, .int .i64 W.st, .int .i64 W.en, .int .i64 W.fr, .int .i64 W.to], .agg #[.int .i64 z.off, .bool z.sum], .int .i64 t] w
      fun e w' => e = .returned (.bool (holdsB W z t)) ∧ Below w.heap.size w w' := by
  obtain ⟨h1, h2⟩ := inB_iff.1 hi
  obtain ⟨t0, t1⟩ := timeB_iff.1 ht
  obtain ⟨d0, d1, s0, s1, e0, e1, f0, f1, ht2⟩ := winB_iff.1 hW
  have HP : Hid (holdsB W z t = dayB W.dy W.st W.en (wdF ((t + offF z t) / 1440)) ((t + offF z t) % 1440)) := holdsB_in hW hz t0 t1 h1 h2
  have HZ := Lib.hid hz
  have HV := Lib.hid hv
  have hwd := wdF_rng ((t + offF z t) / 1440)
  have HL := Lib.hid (fun (w : World) (h : LenV w) => local_any z t w h HZ.out t0 t1)
  have hm0 : 0 ≤ (t + offF z t) % 1440 := by omega
  have hm1 : (t + offF z t) % 1440 < 1440 := by omega
  generalize wdF ((t + offF z t) / 1440) = wd at *
  generalize (t + offF z t) % 1440 = m at *
  have hend : ¬ (0 ≤ W.to) ∨ (0 ≤ W.to ∧ t < W.to) := by omega
  clear hW hi hz ht hv h2 ht2
  have hbw := Below.refl w.heap.size w
  obtain ⟨hwd1, hwd2⟩ := hwd
  have hq1 : 1 ≤ (wd + 5) % 7 + 1 := by omega
  have hq2 : (wd + 5) % 7 + 1 ≤ 7 := by omega
  generalize hb1 : onB W.dy wd = b1 at *
  generalize hb2 : onB W.dy ((wd + 5) % 7 + 1) = b2 at *
  have HB1 := Lib.hid hb1
  have HB2 := Lib.hid hb2
  have HD : Hid (holdsB W z t = if W.st = W.en then b1 else if W.st < W.en then b1 && (decide (W.st ≤ m) && decide (m < W.en)) else (b1 && decide (W.st ≤ m)) || (b2 && decide (m < W.en))) := by
    unfold Hid; rw [HP.out]; unfold dayB; rw [hb1, hb2]
  clear hb1 hb2 HP
  rcases Int.lt_trichotomy W.st W.en with c | c | c
  · have c2 : (W.st == W.en) = false := by simp; omega
    rcases hend with g | ⟨g, g2⟩
    all_goals cases b1
    all_goals
      go_enter Tryz.func88, Tryz.ntmps88
      go_wp2_with (first | (go_at_call 104; refine (HL.out _ (HV.out.below (by repeat (first | exact hbw | refine below_alloc ?_ _ | refine below_drew ?_ | refine below_drewN ?_ _)))).mono ?_; rintro e w' ⟨⟨y, mo, d, rfl⟩, hb⟩; obtain ⟨hc, hf⟩ := bcell hb; have hz := hb.size; (try simp only [World.size_alloc, Nat.add_one_le_iff] at hz); (try (have hz0 : w.heap.size < w'.heap.size := by omega)); (try (have hz1 : w.heap.size + 1 < w'.heap.size := by omega)); (try (have hz2 : w.heap.size < w'.heap.size := by omega)); replace hbw := below_step (w := w) (by repeat (first | exact hbw | refine below_alloc ?_ _ | refine below_drew ?_ | refine below_drewN ?_ _ | (refine below_set ?_ ?_ _; rotate_left; (first | exact Nat.le_refl _ | (simp only [World.size_alloc]; omega) | omega)))) hb; clear hb) | (go_at_call 105; refine (onDay_any _ _ _ _ _ _ _ d0 d1 hwd1 hwd2).mono ?_; rintro e w' ⟨rfl, hb⟩; obtain ⟨hc, hf⟩ := bcell hb; have hz := hb.size; (try simp only [World.size_alloc, Nat.add_one_le_iff] at hz); (try (have hz0 : w.heap.size < w'.heap.size := by omega)); (try (have hz1 : w.heap.size + 1 < w'.heap.size := by omega)); (try (have hz2 : w.heap.size < w'.heap.size := by omega)); replace hbw := below_step (w := w) (by repeat (first | exact hbw | refine below_alloc ?_ _ | refine below_drew ?_ | refine below_drewN ?_ _ | (refine below_set ?_ ?_ _; rotate_left; (first | exact Nat.le_refl _ | (simp only [World.size_alloc]; omega) | omega)))) hb; clear hb; rw [HB1.out]))
      all_goals go_ret
      all_goals exact ⟨ret_bool (by rw [HD.out, if_neg (by omega), if_pos c]; simp; try omega), by repeat (first | exact hbw | refine below_set ?_ (by simp; omega) _ | refine below_alloc ?_ _ | refine below_drewN ?_ _)⟩
  · rcases hend with g | ⟨g, g2⟩
    all_goals
      go_enter Tryz.func88, Tryz.ntmps88
      go_wp2_with (first | (go_at_call 104; refine (HL.out _ (HV.out.below (by repeat (first | exact hbw | refine below_alloc ?_ _ | refine below_drew ?_ | refine below_drewN ?_ _)))).mono ?_; rintro e w' ⟨⟨y, mo, d, rfl⟩, hb⟩; obtain ⟨hc, hf⟩ := bcell hb; have hz := hb.size; (try simp only [World.size_alloc, Nat.add_one_le_iff] at hz); (try (have hz0 : w.heap.size < w'.heap.size := by omega)); (try (have hz1 : w.heap.size + 1 < w'.heap.size := by omega)); (try (have hz2 : w.heap.size < w'.heap.size := by omega)); replace hbw := below_step (w := w) (by repeat (first | exact hbw | refine below_alloc ?_ _ | refine below_drew ?_ | refine below_drewN ?_ _ | (refine below_set ?_ ?_ _; rotate_left; (first | exact Nat.le_refl _ | (simp only [World.size_alloc]; omega) | omega)))) hb; clear hb) | (go_at_call 105; refine (onDay_any _ _ _ _ _ _ _ d0 d1 hwd1 hwd2).mono ?_; rintro e w' ⟨rfl, hb⟩; obtain ⟨hc, hf⟩ := bcell hb; have hz := hb.size; (try simp only [World.size_alloc, Nat.add_one_le_iff] at hz); (try (have hz0 : w.heap.size < w'.heap.size := by omega)); (try (have hz1 : w.heap.size + 1 < w'.heap.size := by omega)); (try (have hz2 : w.heap.size < w'.heap.size := by omega)); replace hbw := below_step (w := w) (by repeat (first | exact hbw | refine below_alloc ?_ _ | refine below_drew ?_ | refine below_drewN ?_ _ | (refine below_set ?_ ?_ _; rotate_left; (first | exact Nat.le_refl _ | (simp only [World.size_alloc]; omega) | omega)))) hb; clear hb; rw [HB1.out]))
      all_goals go_ret
      all_goals exact ⟨ret_bool (by rw [HD.out, if_pos c]), by repeat (first | exact hbw | refine below_set ?_ (by simp; omega) _ | refine below_alloc ?_ _ | refine below_drewN ?_ _)⟩
  · omega

end Go.Proofs.YtmappmeojmdekaaGreatDoor

namespace Go.Proofs.YtmappmeojmdekaaGreatDoor
open Go.RowKit Go.Lib
set_option linter.unusedVariables false

set_option maxRecDepth 100000 in
set_option maxHeartbeats 3200000 in
theorem holds_night (W : WinR) (z : ZoneR) (t : Int) (w : World) (hv : LenV w) (hW : winB W = true) (hi : inB W t = true) (hz : zoneB z = true) (ht : timeB t = true) (c : W.en < W.st) :
    Calls Tryz.prog 88 #[.agg #[.int .i64 W.dy, .int .i64 W.st, .int .i64 W.en, .int .i64 W.fr, .int .i64 W.to], .agg #[.int .i64 z.off, .bool z.sum], .int .i64 t] w
      fun e w' => e = .returned (.bool (holdsB W z t)) ∧ Below w.heap.size w w' := by
  obtain ⟨h1, h2⟩ := inB_iff.1 hi
  obtain ⟨t0, t1⟩ := timeB_iff.1 ht
  obtain ⟨d0, d1, s0, s1, e0, e1, f0, f1, ht2⟩ := winB_iff.1 hW
  have HP : Hid (holdsB W z t = dayB W.dy W.st W.en (wdF ((t + offF z t) / 1440)) ((t + offF z t) % 1440)) := holdsB_in hW hz t0 t1 h1 h2
  have HZ := Lib.hid hz
  have HV := Lib.hid hv
  have hwd := wdF_rng ((t + offF z t) / 1440)
  have HL := Lib.hid (fun (w : World) (h : LenV w) => local_any z t w h HZ.out t0 t1)
  have hm0 : 0 ≤ (t + offF z t) % 1440 := by omega
  have hm1 : (t + offF z t) % 1440 < 1440 := by omega
  generalize wdF ((t + offF z t) / 1440) = wd at *
  generalize (t + offF z t) % 1440 = m at *
  have hend : ¬ (0 ≤ W.to) ∨ (0 ≤ W.to ∧ t < W.to) := by omega
  clear hW hi hz ht hv h2 ht2
  have hbw := Below.refl w.heap.size w
  obtain ⟨hwd1, hwd2⟩ := hwd
  have hq1 : 1 ≤ (wd + 5) % 7 + 1 := by omega
  have hq2 : (wd + 5) % 7 + 1 ≤ 7 := by omega
  generalize hb1 : onB W.dy wd = b1 at *
  generalize hb2 : onB W.dy ((wd + 5) % 7 + 1) = b2 at *
  have HB1 := Lib.hid hb1
  have HB2 := Lib.hid hb2
  have HD : Hid (holdsB W z t = if W.st = W.en then b1 else if W.st < W.en then b1 && (decide (W.st ≤ m) && decide (m < W.en)) else (b1 && decide (W.st ≤ m)) || (b2 && decide (m < W.en))) := by
    unfold Hid; rw [HP.out]; unfold dayB; rw [hb1, hb2]
  clear hb1 hb2 HP
  have c2 : (W.st == W.en) = false := by simp; omega
  have c3 : ¬ W.st < W.en := by omega
  clear c
  rcases hend with g | ⟨g, g2⟩
  all_goals cases b1
  all_goals cases b2
  all_goals
    go_enter Tryz.func88, Tryz.ntmps88
    go_wp2_with (first | (go_at_call 104; refine (HL.out _ (HV.out.below (by repeat (first | exact hbw | refine below_alloc ?_ _ | refine below_drew ?_ | refine below_drewN ?_ _)))).mono ?_; rintro e w' ⟨⟨y, mo, d, rfl⟩, hb⟩; obtain ⟨hc, hf⟩ := bcell hb; have hz := hb.size; (try simp only [World.size_alloc, Nat.add_one_le_iff] at hz); (try (have hz0 : w.heap.size < w'.heap.size := by omega)); (try (have hz1 : w.heap.size + 1 < w'.heap.size := by omega)); (try (have hz2 : w.heap.size < w'.heap.size := by omega)); replace hbw := below_step (w := w) (by repeat (first | exact hbw | refine below_alloc ?_ _ | refine below_drew ?_ | refine below_drewN ?_ _ | (refine below_set ?_ ?_ _; rotate_left; (first | exact Nat.le_refl _ | (simp only [World.size_alloc]; omega) | omega)))) hb; clear hb) | (go_at_call 105; refine (onDay_any _ _ _ _ _ _ _ d0 d1 (by omega) (by omega)).mono ?_; rintro e w' ⟨rfl, hb⟩; obtain ⟨hc, hf⟩ := bcell hb; have hz := hb.size; (try simp only [World.size_alloc, Nat.add_one_le_iff] at hz); (try (have hz0 : w.heap.size < w'.heap.size := by omega)); (try (have hz1 : w.heap.size + 1 < w'.heap.size := by omega)); (try (have hz2 : w.heap.size < w'.heap.size := by omega)); replace hbw := below_step (w := w) (by repeat (first | exact hbw | refine below_alloc ?_ _ | refine below_drew ?_ | refine below_drewN ?_ _ | (refine below_set ?_ ?_ _; rotate_left; (first | exact Nat.le_refl _ | (simp only [World.size_alloc]; omega) | omega)))) hb; clear hb; first | rw [HB1.out] | rw [HB2.out]))
    all_goals go_ret
    all_goals exact ⟨ret_bool (by rw [HD.out, if_neg (by simpa using c2), if_neg (Int.not_lt.2 c3)]; simp; try omega), by repeat (first | exact hbw | refine below_set ?_ (by simp; omega) _ | refine below_alloc ?_ _ | refine below_drewN ?_ _)⟩

end Go.Proofs.YtmappmeojmdekaaGreatDoor
