/-
  Walks: Valid of package site.
-/
import Derived.Test.YtkjggfhbnhpdnaaDoorWSite1
import Derived.Test.YtkjggfhbnhpdnaaDoorBox
import Derived.Test.YtkjggfhbnhpdnaaDoorKept
import Derived.Test.YtkjggfhbnhpdnaaDoorSub
import Derived.Deep.AppendLies
namespace Go.Proofs.YtkjggfhbnhpdnaaDoor
open Go.RowKit Go.Lib Go.Maps
set_option linter.unusedVariables false

theorem feed_at {w : World} {A : Option Addr} {l : List Feed} (h : SlAt w 5 A (l.map Feed.cells)) {k : Nat} (hk : k < l.length) :
    ∃ b off, A = some ⟨b, off, none⟩ ∧ b < w.heap.size ∧ w.cell? ⟨b, off + k * 5, none⟩ = some (.string l[k].name) ∧ w.cell? ⟨b, off + k * 5 + 1, none⟩ = some (.int .i64 l[k].parent) ∧ w.cell? ⟨b, off + k * 5 + 2, none⟩ = some (.int .i64 l[k].a) ∧
      w.cell? ⟨b, off + k * 5 + 3, none⟩ = some (.int .i64 l[k].b) ∧ w.cell? ⟨b, off + k * 5 + 4, none⟩ = some (.int .i64 l[k].c) := by
  obtain ⟨b, off, e, hb, hc⟩ := h k l[k].cells (by rw [List.getElem?_map, List.getElem?_eq_getElem hk]; rfl)
  exact ⟨b, off, e, hb, hc 0 _ rfl, hc 1 _ rfl, hc 2 _ rfl, hc 3 _ rfl, hc 4 _ rfl⟩
theorem pnt_at {w : World} {A : Option Addr} {l : List Pnt} (h : SlAt w 5 A (l.map Pnt.cells)) {k : Nat} (hk : k < l.length) :
    ∃ b off, A = some ⟨b, off, none⟩ ∧ b < w.heap.size ∧ w.cell? ⟨b, off + k * 5, none⟩ = some (.string l[k].name) ∧ w.cell? ⟨b, off + k * 5 + 1, none⟩ = some (.int .i64 l[k].feeder) ∧ w.cell? ⟨b, off + k * 5 + 2, none⟩ = some (.int .i64 l[k].phases) ∧
      w.cell? ⟨b, off + k * 5 + 3, none⟩ = some (.int .i64 l[k].rated) ∧ w.cell? ⟨b, off + k * 5 + 4, none⟩ = some (.int .i64 l[k].least) := by
  obtain ⟨b, off, e, hb, hc⟩ := h k l[k].cells (by rw [List.getElem?_map, List.getElem?_eq_getElem hk]; rfl)
  exact ⟨b, off, e, hb, hc 0 _ rfl, hc 1 _ rfl, hc 2 _ rfl, hc 3 _ rfl, hc 4 _ rfl⟩

theorem isFeeder_any (s : ByteArray) (A : Option Addr) (n c : Nat) (pv : Value) (i : Int) (w : World) :
    Calls Tryd.prog 27 #[.agg #[.string s, .slice A n c, pv], .int .i64 i] w fun e w' => e = .returned (.bool (decide (0 ≤ i) && decide (i < (n : Int)))) ∧ Below w.heap.size w w' := by
  by_cases h0 : 0 ≤ i <;> by_cases h1 : i < (n : Int)
  all_goals go_enter Tryd.func27, Tryd.ntmps27
  all_goals go_wp2_with fail
  all_goals go_ret
  all_goals exact ⟨ret_bool (by simp [h0, h1]), below_alloc (Below.refl _ _) _⟩

theorem site_name {S : SiteR} (h : (!validL S.name.data.toList) = true) : siteE S = 4 := by simp [siteE, h]
theorem site_limit {S : SiteR} (h : (!validL S.name.data.toList) = false) (hl : 32 < S.F.length ∨ 32 < S.P.length) : siteE S = 3 := by simp only [siteE, h]; simp [hl]
theorem site_feed {S : SiteR} (h : (!validL S.name.data.toList) = false) (hl : ¬ (32 < S.F.length ∨ 32 < S.P.length)) {k : Nat} (hk : k < S.F.length) (h0 : firstE (feedAt S.F) k = 0) (he : feedAt S.F k ≠ 0) : siteE S = feedAt S.F k := by
  have := firstE_stop h0 he hk
  simp only [siteE, h, if_neg hl, this]
  simp [he]
theorem site_pnt {S : SiteR} (h : (!validL S.name.data.toList) = false) (hl : ¬ (32 < S.F.length ∨ 32 < S.P.length)) (hF : firstE (feedAt S.F) S.F.length = 0) {k : Nat} (hk : k < S.P.length) (h0 : firstE (pntAt S.F S.P) k = 0) (he : pntAt S.F S.P k ≠ 0) : siteE S = pntAt S.F S.P k := by
  have := firstE_stop h0 he hk
  simp only [siteE, h, if_neg hl, hF, this]
  simp
theorem site_ok {S : SiteR} (h : (!validL S.name.data.toList) = false) (hl : ¬ (32 < S.F.length ∨ 32 < S.P.length)) (hF : firstE (feedAt S.F) S.F.length = 0) (hP : firstE (pntAt S.F S.P) S.P.length = 0) : siteE S = 0 := by
  simp only [siteE, h, if_neg hl, hF, hP]
  simp

theorem feed_name {ks : List (List UInt8)} {i : Int} {f : Feed} (h : nameE ks f.name ≠ 0) : feedE ks i f = nameE ks f.name := by simp [feedE, h]
theorem feed_parent {ks : List (List UInt8)} {i : Int} {f : Feed} (h : nameE ks f.name = 0) (hp : f.parent < -1 ∨ i ≤ f.parent) : feedE ks i f = 1 := by simp [feedE, h, hp]
theorem feed_power {ks : List (List UInt8)} {i : Int} {f : Feed} (h : nameE ks f.name = 0) (hp : ¬ (f.parent < -1 ∨ i ≤ f.parent)) (hw : (powB f.a && (powB f.b && powB f.c)) = false) : feedE ks i f = 2 := by simp only [feedE, h, if_neg hp, hw]; simp
theorem feed_ok {ks : List (List UInt8)} {i : Int} {f : Feed} (h : nameE ks f.name = 0) (hp : ¬ (f.parent < -1 ∨ i ≤ f.parent)) (hw : (powB f.a && (powB f.b && powB f.c)) = true) : feedE ks i f = 0 := by simp only [feedE, h, if_neg hp, hw]; simp

theorem pnt_name {ks : List (List UInt8)} {n : Int} {p : Pnt} (h : nameE ks p.name ≠ 0) : pntE ks n p = nameE ks p.name := by simp [pntE, h]
theorem pnt_inv {ks : List (List UInt8)} {n : Int} {p : Pnt} (h : nameE ks p.name = 0) (hp : p.feeder < 0 ∨ n ≤ p.feeder ∨ p.phases < 1 ∨ 7 < p.phases) : pntE ks n p = 1 := by simp [pntE, h, hp]
theorem pnt_range {ks : List (List UInt8)} {n : Int} {p : Pnt} (h : nameE ks p.name = 0) (hp : ¬ (p.feeder < 0 ∨ n ≤ p.feeder ∨ p.phases < 1 ∨ 7 < p.phases)) (hw : powB p.rated = false ∨ p.least < 0 ∨ p.rated < p.least) : pntE ks n p = 2 := by simp only [pntE, h, if_neg hp, if_pos hw]; simp
theorem pnt_ok {ks : List (List UInt8)} {n : Int} {p : Pnt} (h : nameE ks p.name = 0) (hp : ¬ (p.feeder < 0 ∨ n ≤ p.feeder ∨ p.phases < 1 ∨ 7 < p.phases)) (hw : ¬ (powB p.rated = false ∨ p.least < 0 ∨ p.rated < p.least)) : pntE ks n p = 0 := by simp only [pntE, h, if_neg hp, if_neg hw]; simp

theorem names_step {w : World} {b : Nat} {x : List UInt8} {ks : List (List UInt8)} (h : Names w b (x :: ks)) : Names w b (ks ++ [x]) :=
  Taken.congr h (fun y => by simp [or_comm]) (by simp)

set_option maxRecDepth 100000 in
set_option maxHeartbeats 6400000 in
theorem siteValid_any (S : SiteR) (fv pv : Value) (w : World) (hF : IsSl w 5 fv (S.F.map Feed.cells)) (hP : IsSl w 5 pv (S.P.map Pnt.cells)) (hn : S.name.size ≤ maxLen) (hfF : ∀ f ∈ S.F, f.fits) (hfP : ∀ p ∈ S.P, p.fits) :
    Calls Tryd.prog 12 #[.agg #[.string S.name, fv, pv]] w fun e w' => e = .returned (.int .i64 (siteE S)) ∧ Below w.heap.size w w' := by
  obtain ⟨A, c, rfl, hlc, hcm, hsl⟩ := islen' hF
  obtain ⟨B, d, rfl, hld, hdm, hsp⟩ := islen' hP
  obtain ⟨W0, hW0, hb0, hg0, hx0⟩ := box1 w #[.string S.name, .slice A S.F.length c, .slice B S.P.length d] 25
  have HSL := Lib.hid (hsl.below hb0)
  have HSP := Lib.hid (hsp.below hb0)
  have HFF := Lib.hid hfF
  have HFP := Lib.hid hfP
  clear hF hP hsl hsp hfF hfP hlc hld hcm hdm
  cases hv : (!validL S.name.data.toList) with
  | true =>
    have HE := Lib.hid (site_name hv)
    go_enter Tryd.func12, Tryd.ntmps12
    go_wp2_with fail
    rw [← hW0]
    clear hW0
    refine (valid_any S.name _ hn).mono ?_
    rintro e w1 ⟨rfl, hb1⟩
    rw [show validL S.name.data.toList = false by simpa using hv]
    go_wp2_with fail
    go_ret
    exact ⟨ret_int (by rw [HE.out]), below_step hb0 hb1⟩
  | false =>
  have hv' : validL S.name.data.toList = true := by simpa using hv
  by_cases hl : 32 < S.F.length ∨ 32 < S.P.length
  · have HE := Lib.hid (site_limit hv hl)
    by_cases hl1 : 32 < S.F.length
    · skip
      go_enter Tryd.func12, Tryd.ntmps12
      go_wp2_with fail
      rw [← hW0]
      clear hW0
      refine (valid_any S.name _ hn).mono ?_
      rintro e w1 ⟨rfl, hb1⟩
      rw [hv']
      obtain ⟨hc, hf⟩ := bcell hb1
      go_wp2_with fail
      go_ret
      exact ⟨ret_int (by rw [HE.out]), below_step hb0 hb1⟩
    · have hl2 : 32 < S.P.length := by omega
      go_enter Tryd.func12, Tryd.ntmps12
      go_wp2_with fail
      rw [← hW0]
      clear hW0
      refine (valid_any S.name _ hn).mono ?_
      rintro e w1 ⟨rfl, hb1⟩
      rw [hv']
      obtain ⟨hc, hf⟩ := bcell hb1
      go_wp2_with fail
      go_ret
      exact ⟨ret_int (by rw [HE.out]), below_step hb0 hb1⟩
  have hl1 : S.F.length ≤ 32 := by omega
  have hl2 : S.P.length ≤ 32 := by omega
  have HSF := Lib.hid (fun (k : Nat) (hk : k < S.F.length) (h0 : firstE (feedAt S.F) k = 0) (he : feedAt S.F k ≠ 0) => site_feed hv hl hk h0 he)
  have HSQ := Lib.hid (fun (hF : firstE (feedAt S.F) S.F.length = 0) (k : Nat) (hk : k < S.P.length) (h0 : firstE (pntAt S.F S.P) k = 0) (he : pntAt S.F S.P k ≠ 0) => site_pnt hv hl hF hk h0 he)
  have HSO := Lib.hid (fun (hF : firstE (feedAt S.F) S.F.length = 0) (hP : firstE (pntAt S.F S.P) S.P.length = 0) => site_ok hv hl hF hP)
  clear hl hv
  have hmm := @run_makeMap Tryd.prog
  go_enter Tryd.func12, Tryd.ntmps12
  go_wp2_with fail
  rw [← hW0]
  clear hW0
  refine (valid_any S.name _ hn).mono ?_
  rintro e w1 ⟨rfl, hb1⟩
  rw [hv']
  obtain ⟨hc, hf⟩ := bcell hb1
  have hgx : w.heap.size < w1.heap.size := Nat.lt_of_lt_of_le hg0 hb1.size
  go_wp2_with fail
  have hx1 : ∀ j, w1.cell? ⟨w.heap.size, j, none⟩ = (#[.string S.name, .slice A S.F.length c, .slice B S.P.length d] : Array Value)[j]? := fun j => (hc _ _ hg0).trans (hx0 j)
  have hb01 := below_step hb0 hb1
  have HSL1 := Lib.hid (HSL.out.below hb1)
  have HSP1 := Lib.hid (HSP.out.below hb1)
  clear hc hf hx0 HSL HSP hb0 hb1 hg0
  go_loopw [28] (fun i wr => ∃ k : Nat, k ≤ S.F.length ∧ i = .int .i64 k ∧ Below w1.heap.size w1 wr ∧ w1.heap.size < wr.heap.size ∧ Hid (Names wr w1.heap.size (keysF (S.F.take k))) ∧ Hid (firstE (feedAt S.F) k = 0)) (fun i _ => S.F.length - (intOf i).toNat)
  case atStart => exact ⟨0, by omega, rfl, below_alloc (Below.refl _ _) _, by simp, taken_made _ _ _, rfl⟩
  case round =>
    obtain ⟨k, hk, rfl, hbw, hgm, HN, HZ⟩ := hrel
    obtain ⟨hc, hf⟩ := bcell hbw
    by_cases hlt : k < S.F.length
    · have hki : (k : Int) < (S.F.length : Int) := by omega
      obtain ⟨b, off, rfl, hbb, c0, c1, c2, c3, c4⟩ := feed_at (HSL1.out.below hbw) hlt
      have HFE := Lib.hid (feedAt_eq hlt)
      have HKS := Lib.hid (keysF_step hlt)
      have hft := HFF.out _ (List.getElem_mem hlt)
      have HST := Lib.hid (HSF.out k hlt HZ.out)
      have HGO := Lib.hid (fun he => firstE_go (g := feedAt S.F) HZ.out he)
      have hkl : (keysF (S.F.take k)).length ≤ 1000000 := by unfold keysF; simp; omega
      generalize hx : S.F[k] = x at *
      clear hx
      obtain ⟨W2, hW2, hb2, hg2, hx2⟩ := box1 wr #[.string x.name, .int .i64 x.parent, .int .i64 x.a, .int .i64 x.b, .int .i64 x.c] 49
      have HN2 : Names W2 w1.heap.size (keysF (S.F.take k)) := HN.out.below hb2
      generalize keysF (S.F.take k) = ks at *
      go_wp2_with fail
      rw [← hW2]
      clear hW2
      refine (enter_any w1.heap.size ks x.name _ hft HN2 hkl).mono ?_
      rintro e w3 ⟨rfl, hg3, hN3⟩
      have hx3 : ∀ j, w3.cell? ⟨wr.heap.size, j, none⟩ = (#[.string x.name, .int .i64 x.parent, .int .i64 x.a, .int .i64 x.b, .int .i64 x.c] : Array Value)[j]? := fun j => (hg3.cell_far ⟨wr.heap.size, j, none⟩ hg2 (by simp; omega)).trans (hx2 j)
      have hbw2 := hbw.trans (hb2.mono hbw.size)
      have hbw3 := hbw2.grown hg3 hbw2.size (fun j hj => by cases hj; exact Nat.le_refl _)
      have hgw : wr.heap.size < w3.heap.size := Nat.lt_of_lt_of_le hg2 hg3.size
      have hgm3 : w1.heap.size < w3.heap.size := by omega
      clear hc hf hx2 HN2
      obtain ⟨hc, hf⟩ := bcell hbw3
      cases hne : (nameE ks x.name != 0) with
      | true =>
        have h0 : nameE ks x.name ≠ 0 := by simpa using hne
        have HE : Hid (siteE S = nameE ks x.name) := by
          unfold Hid
          rw [HST.out (by rw [HFE.out, feed_name h0]; exact h0), HFE.out, feed_name h0]
        go_wp2_with fail
        go_ret
        exact ⟨ret_int (by rw [HE.out]), below_step hb01 hbw3⟩
      | false =>
        have h0 : nameE ks x.name = 0 := by simpa using hne
        have HNS := Lib.hid (names_step (hN3 h0))
        by_cases hp : x.parent < -1 ∨ (k : Int) ≤ x.parent
        · have HV := Lib.hid (feed_parent (i := k) h0 hp)
          have HE : Hid (siteE S = 1) := by unfold Hid; rw [HST.out (by rw [HFE.out, HV.out]; simp), HFE.out, HV.out]
          clear hN3
          by_cases hp1 : x.parent < -1
          · skip
            go_wp2_with fail
            go_ret
            exact ⟨ret_int (by rw [HE.out]), below_step hb01 hbw3⟩
          · have hp2 : (k : Int) ≤ x.parent := by omega
            go_wp2_with fail
            go_ret
            exact ⟨ret_int (by rw [HE.out]), below_step hb01 hbw3⟩
        · have hp1 : ¬ x.parent < -1 := by omega
          have hp2 : ¬ (k : Int) ≤ x.parent := by omega
          cases hpw : (powB x.a && (powB x.b && powB x.c)) with
          | false =>
            have HV := Lib.hid (feed_power (i := k) h0 hp hpw)
            have HE : Hid (siteE S = 2) := by unfold Hid; rw [HST.out (by rw [HFE.out, HV.out]; simp), HFE.out, HV.out]
            clear hp hN3
            cases ha : powB x.a with
            | false =>
              have hbp := ha
              have hcp := ha
              go_wp2_with (go_at_call 26; refine (isPower_any _ _).mono ?_; rintro e w' ⟨rfl, rfl⟩; (first | rw [ha] | rw [hbp] | rw [hcp]))
              go_ret
              exact ⟨ret_int (by rw [HE.out]), below_step hb01 hbw3⟩
            | true =>
              cases hbp : powB x.b with
              | false =>
                have hcp := hbp
                go_wp2_with (go_at_call 26; refine (isPower_any _ _).mono ?_; rintro e w' ⟨rfl, rfl⟩; (first | rw [ha] | rw [hbp] | rw [hcp]))
                go_ret
                exact ⟨ret_int (by rw [HE.out]), below_step hb01 hbw3⟩
              | true =>
                cases hcp : powB x.c with
                | false =>
                  go_wp2_with (go_at_call 26; refine (isPower_any _ _).mono ?_; rintro e w' ⟨rfl, rfl⟩; (first | rw [ha] | rw [hbp] | rw [hcp]))
                  go_ret
                  exact ⟨ret_int (by rw [HE.out]), below_step hb01 hbw3⟩
                | true => rw [ha, hbp, hcp] at hpw; simp at hpw
          | true =>
            have HV := Lib.hid (feed_ok (i := k) h0 hp hpw)
            have HZ2 := Lib.hid (HGO.out (by rw [HFE.out, HV.out]))
            have hpw' := hpw
            simp only [Bool.and_eq_true] at hpw'
            obtain ⟨ha, hbp, hcp⟩ := hpw'
            clear hp hN3 hpw
            go_wp2_with (go_at_call 26; refine (isPower_any _ _).mono ?_; rintro e w' ⟨rfl, rfl⟩; (first | rw [ha] | rw [hbp] | rw [hcp]))
            go_roundw
            case measure => simp [intOf]; omega
            case rel => exact ⟨k + 1, by omega, by go_num, hbw3, hgm3, by show Names _ _ _; rw [HKS.out]; exact HNS.out, HZ2.out⟩
    · have hkF : k = S.F.length := by omega
      subst hkF
      have HN1 : Names wr w1.heap.size (keysF S.F) := by
        have := HN.out
        rwa [List.take_length] at this
      have HQ := Lib.hid (HSQ.out HZ.out)
      have HO := Lib.hid (HSO.out HZ.out)
      clear HSF HSQ HSO HN HSL1 HFF
      go_wp2_with fail
      clear hc hf
      go_loopw [72] (fun i wr => ∃ k : Nat, k ≤ S.P.length ∧ i = .int .i64 k ∧ Below w1.heap.size w1 wr ∧ w1.heap.size < wr.heap.size ∧ Hid (Names wr w1.heap.size (keysF S.F ++ keysP (S.P.take k))) ∧ Hid (firstE (pntAt S.F S.P) k = 0)) (fun i _ => S.P.length - (intOf i).toNat)
      case atStart => exact ⟨0, by omega, rfl, hbw, hgm, by show Names _ _ _; simpa [keysP] using HN1, rfl⟩
      case round =>
      clear hbw hgm HN1
      obtain ⟨q, hq, rfl, hbw, hgm, HN, HY⟩ := hrel
      obtain ⟨hc, hf⟩ := bcell hbw
      by_cases hlt2 : q < S.P.length
      · have hki : (q : Int) < (S.P.length : Int) := by omega
        obtain ⟨b, off, rfl, hbb, c0, c1, c2, c3, c4⟩ := pnt_at (HSP1.out.below hbw) hlt2
        have HFE := Lib.hid (pntAt_eq (F := S.F) hlt2)
        have HKS := Lib.hid (keysP_step hlt2)
        have hft := HFP.out _ (List.getElem_mem hlt2)
        have HST := Lib.hid (HQ.out q hlt2 HY.out)
        have HGO := Lib.hid (fun he => firstE_go (g := pntAt S.F S.P) HY.out he)
        have hkl : (keysF S.F ++ keysP (S.P.take q)).length ≤ 1000000 := by unfold keysF keysP; simp; omega
        generalize hx : S.P[q] = x at *
        clear hx
        obtain ⟨W2, hW2, hb2, hg2, hx2⟩ := box1 wr #[.string x.name, .int .i64 x.feeder, .int .i64 x.phases, .int .i64 x.rated, .int .i64 x.least] 58
        have HKA : Hid (keysF S.F ++ keysP (S.P.take (q + 1)) = (keysF S.F ++ keysP (S.P.take q)) ++ [keyN x.name]) := by unfold Hid; rw [HKS.out, List.append_assoc]
        have HN2 : Names W2 w1.heap.size (keysF S.F ++ keysP (S.P.take q)) := HN.out.below hb2
        clear HKS
        generalize keysF S.F ++ keysP (S.P.take q) = ks at *
        go_wp2_with fail
        rw [← hW2]
        clear hW2
        refine (enter_any w1.heap.size ks x.name _ hft HN2 hkl).mono ?_
        rintro e w3 ⟨rfl, hg3, hN3⟩
        have hx3 : ∀ j, w3.cell? ⟨wr.heap.size, j, none⟩ = (#[.string x.name, .int .i64 x.feeder, .int .i64 x.phases, .int .i64 x.rated, .int .i64 x.least] : Array Value)[j]? := fun j => (hg3.cell_far ⟨wr.heap.size, j, none⟩ hg2 (by simp; omega)).trans (hx2 j)
        have hbw2 := hbw.trans (hb2.mono hbw.size)
        have hbw3 := hbw2.grown hg3 hbw2.size (fun j hj => by cases hj; exact Nat.le_refl _)
        have hgw : wr.heap.size < w3.heap.size := Nat.lt_of_lt_of_le hg2 hg3.size
        have hgm3 : w1.heap.size < w3.heap.size := by omega
        have hgx3 : w.heap.size < w3.heap.size := by omega
        clear hc hf hx2 HN2
        obtain ⟨hc, hf⟩ := bcell hbw3
        cases hne : (nameE ks x.name != 0) with
        | true =>
          have h0 : nameE ks x.name ≠ 0 := by simpa using hne
          have HE : Hid (siteE S = nameE ks x.name) := by
            unfold Hid
            rw [HST.out (by rw [HFE.out, pnt_name h0]; exact h0), HFE.out, pnt_name h0]
          go_wp2_with fail
          go_ret
          exact ⟨ret_int (by rw [HE.out]), below_step hb01 hbw3⟩
        | false =>
          have h0 : nameE ks x.name = 0 := by simpa using hne
          have HNS := Lib.hid (names_step (hN3 h0))
          clear hN3
          by_cases hp : x.feeder < 0 ∨ (S.F.length : Int) ≤ x.feeder ∨ x.phases < 1 ∨ 7 < x.phases
          · have HV := Lib.hid (pnt_inv (n := S.F.length) h0 hp)
            have HE : Hid (siteE S = 1) := by unfold Hid; rw [HST.out (by rw [HFE.out, HV.out]; simp), HFE.out, HV.out]
            by_cases hp1 : x.feeder < 0 ∨ (S.F.length : Int) ≤ x.feeder
            · skip
              have hif : (decide (0 ≤ x.feeder) && decide (x.feeder < (S.F.length : Int))) = false := by simp; omega
              go_wp2_with fail
              refine (isFeeder_any S.name A S.F.length c _ x.feeder _).mono ?_
              rintro e w4 ⟨rfl, hb4⟩
              rw [hif]
              obtain ⟨hc4, hf4⟩ := bcell hb4
              have hbw4 := hbw3.trans (hb4.mono hbw3.size)
              have hgw4 : wr.heap.size < w4.heap.size := Nat.lt_of_lt_of_le hgw hb4.size
              go_wp2_with fail
              go_ret
              exact ⟨ret_int (by rw [HE.out]), below_step hb01 hbw4⟩
            · by_cases hp2 : x.phases < 1
              · skip
                have hif : (decide (0 ≤ x.feeder) && decide (x.feeder < (S.F.length : Int))) = true := by simp; omega
                go_wp2_with fail
                refine (isFeeder_any S.name A S.F.length c _ x.feeder _).mono ?_
                rintro e w4 ⟨rfl, hb4⟩
                rw [hif]
                obtain ⟨hc4, hf4⟩ := bcell hb4
                have hbw4 := hbw3.trans (hb4.mono hbw3.size)
                have hgw4 : wr.heap.size < w4.heap.size := Nat.lt_of_lt_of_le hgw hb4.size
                go_wp2_with fail
                go_ret
                exact ⟨ret_int (by rw [HE.out]), below_step hb01 hbw4⟩
              · have hp3 : 7 < x.phases := by omega
                have hif : (decide (0 ≤ x.feeder) && decide (x.feeder < (S.F.length : Int))) = true := by simp; omega
                go_wp2_with fail
                refine (isFeeder_any S.name A S.F.length c _ x.feeder _).mono ?_
                rintro e w4 ⟨rfl, hb4⟩
                rw [hif]
                obtain ⟨hc4, hf4⟩ := bcell hb4
                have hbw4 := hbw3.trans (hb4.mono hbw3.size)
                have hgw4 : wr.heap.size < w4.heap.size := Nat.lt_of_lt_of_le hgw hb4.size
                go_wp2_with fail
                go_ret
                exact ⟨ret_int (by rw [HE.out]), below_step hb01 hbw4⟩
          · have hp2 : ¬ x.phases < 1 := by omega
            have hp3 : ¬ 7 < x.phases := by omega
            by_cases hw : powB x.rated = false ∨ x.least < 0 ∨ x.rated < x.least
            · have HV := Lib.hid (pnt_range (n := S.F.length) h0 hp hw)
              have HE : Hid (siteE S = 2) := by unfold Hid; rw [HST.out (by rw [HFE.out, HV.out]; simp), HFE.out, HV.out]
              cases hpr : powB x.rated with
              | false =>
                have hif : (decide (0 ≤ x.feeder) && decide (x.feeder < (S.F.length : Int))) = true := by simp; omega
                go_wp2_with fail
                refine (isFeeder_any S.name A S.F.length c _ x.feeder _).mono ?_
                rintro e w4 ⟨rfl, hb4⟩
                rw [hif]
                obtain ⟨hc4, hf4⟩ := bcell hb4
                have hbw4 := hbw3.trans (hb4.mono hbw3.size)
                have hgw4 : wr.heap.size < w4.heap.size := Nat.lt_of_lt_of_le hgw hb4.size
                go_wp2_with (go_at_call 26; refine (isPower_any _ _).mono ?_; rintro e w' ⟨rfl, rfl⟩; rw [hpr])
                go_ret
                exact ⟨ret_int (by rw [HE.out]), below_step hb01 hbw4⟩
              | true =>
                rw [hpr] at hw
                by_cases hl3 : x.least < 0
                · skip
                  have hif : (decide (0 ≤ x.feeder) && decide (x.feeder < (S.F.length : Int))) = true := by simp; omega
                  go_wp2_with fail
                  refine (isFeeder_any S.name A S.F.length c _ x.feeder _).mono ?_
                  rintro e w4 ⟨rfl, hb4⟩
                  rw [hif]
                  obtain ⟨hc4, hf4⟩ := bcell hb4
                  have hbw4 := hbw3.trans (hb4.mono hbw3.size)
                  have hgw4 : wr.heap.size < w4.heap.size := Nat.lt_of_lt_of_le hgw hb4.size
                  go_wp2_with (go_at_call 26; refine (isPower_any _ _).mono ?_; rintro e w' ⟨rfl, rfl⟩; rw [hpr])
                  go_ret
                  exact ⟨ret_int (by rw [HE.out]), below_step hb01 hbw4⟩
                · have hl4 : x.rated < x.least := by simp at hw; omega
                  have hif : (decide (0 ≤ x.feeder) && decide (x.feeder < (S.F.length : Int))) = true := by simp; omega
                  go_wp2_with fail
                  refine (isFeeder_any S.name A S.F.length c _ x.feeder _).mono ?_
                  rintro e w4 ⟨rfl, hb4⟩
                  rw [hif]
                  obtain ⟨hc4, hf4⟩ := bcell hb4
                  have hbw4 := hbw3.trans (hb4.mono hbw3.size)
                  have hgw4 : wr.heap.size < w4.heap.size := Nat.lt_of_lt_of_le hgw hb4.size
                  go_wp2_with (go_at_call 26; refine (isPower_any _ _).mono ?_; rintro e w' ⟨rfl, rfl⟩; rw [hpr])
                  go_ret
                  exact ⟨ret_int (by rw [HE.out]), below_step hb01 hbw4⟩
            · have HV := Lib.hid (pnt_ok (n := S.F.length) h0 hp hw)
              have HZ2 := Lib.hid (HGO.out (by rw [HFE.out, HV.out]))
              have hpr : powB x.rated = true := by
                cases h : powB x.rated
                · exact absurd (.inl h) hw
                · rfl
              have hl3 : ¬ x.least < 0 := fun h => hw (.inr (.inl h))
              have hl4 : ¬ x.rated < x.least := fun h => hw (.inr (.inr h))
              clear hw
              have hif : (decide (0 ≤ x.feeder) && decide (x.feeder < (S.F.length : Int))) = true := by simp; omega
              go_wp2_with fail
              refine (isFeeder_any S.name A S.F.length c _ x.feeder _).mono ?_
              rintro e w4 ⟨rfl, hb4⟩
              rw [hif]
              obtain ⟨hc4, hf4⟩ := bcell hb4
              have hbw4 := hbw3.trans (hb4.mono hbw3.size)
              have hgw4 : wr.heap.size < w4.heap.size := Nat.lt_of_lt_of_le hgw hb4.size
              go_wp2_with (go_at_call 26; refine (isPower_any _ _).mono ?_; rintro e w' ⟨rfl, rfl⟩; rw [hpr])
              go_roundw
              case measure => simp [intOf]; omega
              case rel => exact ⟨q + 1, by omega, by go_num, hbw4, by omega, by show Names _ _ _; rw [HKA.out]; exact HNS.out.below hb4, HZ2.out⟩
      · have hqP : q = S.P.length := by omega
        subst hqP
        have HE := Lib.hid (HO.out HY.out)
        go_wp2_with fail
        go_ret
        exact ⟨ret_int (by rw [HE.out]), below_step hb01 hbw⟩

end Go.Proofs.YtkjggfhbnhpdnaaDoor
