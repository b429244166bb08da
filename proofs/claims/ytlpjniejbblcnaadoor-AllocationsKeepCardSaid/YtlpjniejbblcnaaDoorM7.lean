/-
  Walks: together of package fair.
  Walks: single of package fair.
  Arguments that came in, opened: a type of plain data laid out as a list of kinds of cells; slices read as rows. No program is named here.
  A region that draws its order and makes memory: each thing that is made gets a block of which only its contents are known. No program is named here.
  Walks: Fill of package fair.
-/
import Derived.Test.YtlpjniejbblcnaaDoorM6
import Derived.Test.YtlpjniejbblcnaaDoorM1
import Derived.ProofKit
import Derived.OpenShut
import Derived.Deep.Slices
import Derived.Test.YtlpjniejbblcnaaDoorM4
import Derived.RegionTactic
import Derived.Laws.Tables
import Derived.Defers
import Derived.Recover
import Derived.Laws.EntriesVeiled
import Derived.Deep.DeepCutAuto

namespace Go.Proofs.YtlpjniejbblcnaaDoor
open Go.RowKit Go.Lib Go.Maps
set_option linter.unusedVariables false

theorem encZ_1 (n : Int) : ∀ u ∈ encZ n, u.oneCell' = true := by intro u hu; simp [encZ] at hu; subst hu; rfl
theorem splice_full {X Y : List Value} (h : X.length = Y.length) : splice X 0 Y = Y := by
  rw [splice_head, ← h, List.drop_length, List.append_nil]
section
variable {w w' : World} {N n : Nat} {A : Option Addr} {cc : Nat} {fv : Value} {vb xb ab tb : Nat} {c x : Vec} {a : Act} {t : Vec}
theorem grown_low {N g : Nat} (hg : w.grownBy w' (some g)) (h : N ≤ g) (hN : N ≤ w.heap.size) : Below N w w' := ⟨hg.os, hg.tape, hg.output, hg.size, fun k hk => hg.block k (by omega) (by simp; omega)⟩
theorem grown_blk {g h : Nat} {T : TypeId} {cur : List Value} (hg : w.grownBy w' (some g)) (hb : Blk w h T cur) (hn : h ≠ g) : Blk w' h T cur := (hg.block h hb.lt (by simp; omega)).trans hb
theorem DivSt.copyX (h : DivSt w N n A cc fv vb xb ab tb c x a t) (hB : DivB N n vb xb ab tb) {u : Vec} (hg : w.grownBy w' (some xb)) (hb : Blk w' xb 3 (rowV (Value.int .i64) n u)) : DivSt w' N n A cc fv vb xb ab tb c u a t :=
  ⟨h.c.below (grown_low hg hB.x (h.low hB)), grown_blk hg h.v hB.vx, hb, grown_blk hg h.a hB.xa.symm, grown_blk hg h.t hB.xt.symm⟩
theorem DivSt.copyT (h : DivSt w N n A cc fv vb xb ab tb c x a t) (hB : DivB N n vb xb ab tb) {u : Vec} (hg : w.grownBy w' (some tb)) (hb : Blk w' tb 3 (rowV (Value.int .i64) n u)) : DivSt w' N n A cc fv vb xb ab tb c x a u :=
  ⟨h.c.below (grown_low hg hB.t (h.low hB)), grown_blk hg h.v hB.vt, grown_blk hg h.x hB.xt, grown_blk hg h.a hB.at', hb⟩
end
theorem blk_at {w : World} {g n : Nat} {t : Vec} (h : Blk w g 3 (rowV (Value.int .i64) n t)) : SlAt w 1 (some ⟨g, 0, none⟩) ((listV n t).map encZ) := by
  intro k row hk
  rw [rowV_flat] at h
  obtain ⟨x, hx, rfl⟩ := rows_at encZ hk
  refine ⟨g, 0, rfl, h.lt, fun j u hu => ?_⟩
  have e : 0 + k * 1 + j = k * 1 + j := by omega
  rw [e, h.cell]
  exact flat_at encZ 1 (fun _ => rfl) _ k x hx j u hu
theorem top_sat {n : Nat} {F : Vec → Bool} {c : Vec} {s : FSt} {d : Int} (h0 : 0 ≤ d) (h1 : F (levF s.x c s.a d) = true) (h2 : ∀ j, j < n → s.a j = true → c j - s.x j ≤ d) : IsTop n F c s d := ⟨h0, h1, .inl fun i hi ha => by have := h2 i hi ha; omega⟩
theorem lev_nil {n : Nat} {F : Vec → Bool} {c : Vec} {s : FSt} (hF : FillOk n F) (hs : s.ok n F c) : F (levF s.x c s.a 0) = true := by
  rw [hF.congr (fun i hi => (lev_le hs.rng (d := 0) (e := 0) (by omega) (by omega) i hi).1) (lev_zero hs.rng)]; exact hs.fit

set_option maxRecDepth 100000 in
set_option maxHeartbeats 12800000 in
theorem together_any {w : World} {N n : Nat} {A : Option Addr} {cc : Nat} {fv : Value} {vb xb ab tb : Nat} {c x : Vec} {a : Act} {t : Vec} {F : Vec → Bool} (hD : DivSt w N n A cc fv vb xb ab tb c x a t) (hB : DivB N n vb xb ab tb) (hF : FitsC N w fv n F)
    (hO : FillOk n F) (hs : FSt.ok n F c ⟨x, a⟩) (hc : ∀ i, i < n → c i ≤ 1099511627776) :
    Calls Tryd.prog 45 #[.pointer (some ⟨vb, 0, none⟩)] w fun e w' => e = .returned (.tuple #[]) ∧ Below N w w' ∧ ∃ d, IsTop n F c ⟨x, a⟩ d ∧ ∃ t', DivSt w' N n A cc fv vb xb ab tb c (levF x c a d) a t' := by
  obtain ⟨v0, v1, v2, v3, v4⟩ := hD.vs
  have hn := hB.n
  have HD := Lib.hid hD
  have HB := Lib.hid hB
  have HF := Lib.hid hF
  have HO := Lib.hid hO
  have HS := Lib.hid hs
  have HX : Hid (∀ i, i < n → 0 ≤ x i ∧ x i ≤ c i ∧ c i ≤ 1099511627776) := fun i hi => ⟨(hs.rng i hi).1, (hs.rng i hi).2, hc i hi⟩
  have HX2 : Hid (∀ i, i < n → 0 ≤ x i ∧ x i ≤ 1099511627776) := fun i hi => by have h1 := (hs.rng i hi).1; have h2 := (hs.rng i hi).2; have h3 := hc i hi; exact ⟨h1, Int.le_trans h2 h3⟩
  clear hD hB hF hO hs hc
  go_enter Tryd.func45, Tryd.ntmps45
  go_wp2_with fail
  go_loopw [2, 13] (fun m i wr => ∃ k : Nat, ∃ M : Int, k ≤ n ∧ m = .int .i64 M ∧ i = .int .i64 k ∧ w = wr ∧ 0 ≤ M ∧ M ≤ 1099511627776 ∧ Hid (∀ j, j < k → a j = true → c j - x j ≤ M)) (fun _ i _ => n - (intOf i).toNat)
  case atStart => exact ⟨0, 0, by omega, rfl, rfl, rfl, by omega, by omega, fun j hj => by omega⟩
  case round =>
    obtain ⟨k, M, hk, rfl, rfl, rfl, hM0, hM1, HM⟩ := hrel
    by_cases hlt : k < n
    · have hki : (k : Int) < (n : Int) := by omega
      have x0 := HD.out.xc hlt
      have a0 := HD.out.ac hlt
      obtain ⟨b, off, rfl, hb, c0⟩ := HD.out.capc hlt
      obtain ⟨hx0, hx1, hx2⟩ := HX.out k hlt
      have q1 : IntKind.i64.wrap (c k - x k) = c k - x k := IntWalk.i64_in _ (by omega)
      cases ha : a k with
      | true =>
        rw [ha] at a0
        go_wp2_with fail
        all_goals
          go_roundw
          case measure => simp [intOf]; omega
          case rel => exact ⟨k + 1, _, by omega, rfl, by go_num, trivial, by omega, by omega, fun j hj h2 => by
            by_cases q : j = k
            · subst q; omega
            · have := HM.out j (by omega) h2; omega⟩
      | false =>
        rw [ha] at a0
        go_wp2_with fail
        go_roundw
        case measure => simp [intOf]; omega
        case rel => exact ⟨k + 1, _, by omega, rfl, by go_num, trivial, by omega, by omega, fun j hj h2 => by
            by_cases q : j = k
            · subst q; rw [ha] at h2; cases h2
            · exact HM.out j (by omega) h2⟩
    · have hki : ¬ (k : Int) < (n : Int) := by omega
      have hkn : k = n := by omega
      subst hkn
      clear hk hki hlt v0 v1 v2 v3 v4
      by_cases hMp : 0 < M
      · have HR := Lib.hid (raisable_any HD.out HB.out HF.out M HX2.out ⟨hM0, hM1⟩)
        cases hf : F (levF x c a M) with
        | true =>
          rw [hf] at HR
          go_wp2_with (go_at_call 59; refine HR.out.mono ?_; rintro e w1 ⟨rfl, hb1, hD1⟩)
          refine (raise_any hD1 HB.out M HX2.out ⟨hM0, hM1⟩).mono ?_
          rintro e w3 ⟨rfl, hb3, hD3⟩
          obtain ⟨v0, v1, v2, v3, v4⟩ := hD3.vs
          have hlow3 := hD3.low HB.out
          have hD4 := hD3.below (below_drew (Below.refl _ _)) hlow3
          obtain ⟨i0, hi0, hz0, hz1, hz2⟩ := info_parts intInfo
          have Q1 : Hid ((listV k (levF x c a M)).length = Nat.min k k) := by unfold Hid; rw [listV_len]; exact (Nat.min_self k).symm
          have Q2 : Hid (0 + (listV k (levF x c a M)).length * 1 ≤ (rowV (Value.int .i64) k x).length) := by unfold Hid; rw [listV_len, rowV_len]; omega
          have HT := Lib.hid (top_sat (s := ⟨x, a⟩) hM0 hf HM.out)
          go_wp2_with fail
          (refine wp_still_tail 8 (by kernel_rfl) (by kernel_rfl) ?_; simp only [List.take_succ_cons, List.take_zero, List.drop_succ_cons, List.drop_zero]; (repeat still_step); (try refine wpStill_nil ?_))
          go_wp2_with (refine wpList_copy_to (enc := encZ) rfl (.tmp 68) (.tmp 72) _ _ rfl 3 1 Tryd.underlying22 i0 hi0 hz1 (fun _ => rfl) (by omega) encZ_1 _ _ _ _ _ _ rfl rfl xb 0 _ 3 hD4.x (listV k (levF x c a M)) (blk_at hD4.t) Q1.out (fun _ => rfl) Q2.out ?_; intro w4 hblk hgrow)
          first | go_end0 | refine bodyPost_ret (results_none rfl _ _ _) rfl ?_
          rw [← rowV_flat, splice_full (by rw [rowV_len, rowV_len])] at hblk
          exact ⟨rfl, (hb1.trans hb3).drew.trans (grown_low hgrow HB.out.x hlow3), M, HT.out, _, hD4.copyX HB.out hgrow hblk⟩
        | false =>
          rw [hf] at HR
          have HFL := Lib.hid hf
          clear hf
          go_wp2_with (go_at_call 59; refine HR.out.mono ?_; rintro e w1 ⟨rfl, hb1, hD1⟩)
          have HD1 := Lib.hid hD1
          clear hD1 HR
          go_loopw [5, 6] (fun d b wr => ∃ D E : Int, d = .int .i64 D ∧ b = .int .i64 E ∧ 0 ≤ D ∧ D < E ∧ E ≤ M ∧ Hid (F (levF x c a D) = true ∧ F (levF x c a E) = false) ∧ Below N w wr ∧ ∃ t', Hid (DivSt wr N k A cc fv vb xb ab tb c x a t')) (fun d b _ => (intOf b - intOf d).toNat)
          case atStart => exact ⟨0, M, rfl, rfl, by omega, hMp, by omega, ⟨lev_nil (s := ⟨x, a⟩) HO.out HS.out, HFL.out⟩, hb1, _, HD1⟩
          case round =>
            obtain ⟨D, E, rfl, rfl, hD0, hDE, hEM, HFE, hbw, t', HDw⟩ := hrel
            clear HD1 hb1
            have q1 : IntKind.i64.wrap (E - D) = E - D := IntWalk.i64_in _ (by omega)
            by_cases hlt : 1 < E - D
            · obtain ⟨H, hH, hH0, hH1⟩ : ∃ H : Int, (E - D).tdiv 2 = H ∧ 0 < H ∧ H < E - D := ⟨_, rfl, by rw [Int.tdiv_eq_ediv_of_nonneg (by omega)]; omega, by rw [Int.tdiv_eq_ediv_of_nonneg (by omega)]; omega⟩
              have q2 : IntKind.i64.wrap H = H := IntWalk.i64_in _ (by omega)
              have q3 : IntKind.i64.wrap (D + H) = D + H := IntWalk.i64_in _ (by omega)
              have HR := Lib.hid (raisable_any HDw.out HB.out (HF.out.below hbw) (D + H) HX2.out ⟨by omega, by omega⟩)
              cases hf : F (levF x c a (D + H)) with
              | true =>
                rw [hf] at HR
                go_wp2_with (go_at_call 59; refine HR.out.mono ?_; rintro e w2 ⟨rfl, hb2, hD2⟩)
                go_roundw
                case measure => simp [intOf]; omega
                case rel => exact ⟨D + H, E, rfl, rfl, by omega, by omega, hEM, ⟨hf, HFE.out.2⟩, hbw.trans hb2, _, hD2⟩
              | false =>
                rw [hf] at HR
                go_wp2_with (go_at_call 59; refine HR.out.mono ?_; rintro e w2 ⟨rfl, hb2, hD2⟩)
                go_roundw
                case measure => simp [intOf]; omega
                case rel => exact ⟨D, D + H, rfl, rfl, hD0, by omega, by omega, ⟨HFE.out.1, hf⟩, hbw.trans hb2, _, hD2⟩
            · go_wp2_with fail
              refine (raise_any HDw.out HB.out D HX2.out ⟨hD0, by omega⟩).mono ?_
              rintro e w3 ⟨rfl, hb3, hD3⟩
              obtain ⟨v0, v1, v2, v3, v4⟩ := hD3.vs
              have hlow3 := hD3.low HB.out
              have hD4 := hD3.below (below_drew (Below.refl _ _)) hlow3
              obtain ⟨i0, hi0, hz0, hz1, hz2⟩ := info_parts intInfo
              have Q1 : Hid ((listV k (levF x c a D)).length = Nat.min k k) := by unfold Hid; rw [listV_len]; exact (Nat.min_self k).symm
              have Q2 : Hid (0 + (listV k (levF x c a D)).length * 1 ≤ (rowV (Value.int .i64) k x).length) := by unfold Hid; rw [listV_len, rowV_len]; omega
              have HT := Lib.hid (show IsTop k F c ⟨x, a⟩ D from ⟨hD0, HFE.out.1, .inr (by rw [show D + 1 = E by omega]; exact HFE.out.2)⟩)
              go_wp2_with fail
              (refine wp_still_tail 8 (by kernel_rfl) (by kernel_rfl) ?_; simp only [List.take_succ_cons, List.take_zero, List.drop_succ_cons, List.drop_zero]; (repeat still_step); (try refine wpStill_nil ?_))
              go_wp2_with (refine wpList_copy_to (enc := encZ) rfl (.tmp 68) (.tmp 72) _ _ rfl 3 1 Tryd.underlying22 i0 hi0 hz1 (fun _ => rfl) (by omega) encZ_1 _ _ _ _ _ _ rfl rfl xb 0 _ 3 hD4.x (listV k (levF x c a D)) (blk_at hD4.t) Q1.out (fun _ => rfl) Q2.out ?_; intro w4 hblk hgrow)
              first | go_end0 | refine bodyPost_ret (results_none rfl _ _ _) rfl ?_
              rw [← rowV_flat, splice_full (by rw [rowV_len, rowV_len])] at hblk
              exact ⟨rfl, (hbw.trans hb3).drew.trans (grown_low hgrow HB.out.x hlow3), D, HT.out, _, hD4.copyX HB.out hgrow hblk⟩
      · have hM : M = 0 := by omega
        subst hM
        go_wp2_with fail
        refine (raise_any HD.out HB.out 0 HX2.out ⟨by omega, by omega⟩).mono ?_
        rintro e w3 ⟨rfl, hb3, hD3⟩
        obtain ⟨v0, v1, v2, v3, v4⟩ := hD3.vs
        have hlow3 := hD3.low HB.out
        have hD4 := hD3.below (below_drew (Below.refl _ _)) hlow3
        obtain ⟨i0, hi0, hz0, hz1, hz2⟩ := info_parts intInfo
        have Q1 : Hid ((listV k (levF x c a 0)).length = Nat.min k k) := by unfold Hid; rw [listV_len]; exact (Nat.min_self k).symm
        have Q2 : Hid (0 + (listV k (levF x c a 0)).length * 1 ≤ (rowV (Value.int .i64) k x).length) := by unfold Hid; rw [listV_len, rowV_len]; omega
        have HT := Lib.hid (top_sat (s := ⟨x, a⟩) hM0 (lev_nil (s := ⟨x, a⟩) HO.out HS.out) HM.out)
        go_wp2_with fail
        (refine wp_still_tail 8 (by kernel_rfl) (by kernel_rfl) ?_; simp only [List.take_succ_cons, List.take_zero, List.drop_succ_cons, List.drop_zero]; (repeat still_step); (try refine wpStill_nil ?_))
        go_wp2_with (refine wpList_copy_to (enc := encZ) rfl (.tmp 68) (.tmp 72) _ _ rfl 3 1 Tryd.underlying22 i0 hi0 hz1 (fun _ => rfl) (by omega) encZ_1 _ _ _ _ _ _ rfl rfl xb 0 _ 3 hD4.x (listV k (levF x c a 0)) (blk_at hD4.t) Q1.out (fun _ => rfl) Q2.out ?_; intro w4 hblk hgrow)
        first | go_end0 | refine bodyPost_ret (results_none rfl _ _ _) rfl ?_
        rw [← rowV_flat, splice_full (by rw [rowV_len, rowV_len])] at hblk
        exact ⟨rfl, ((Below.refl _ _).trans hb3).drew.trans (grown_low hgrow HB.out.x hlow3), 0, HT.out, _, hD4.copyX HB.out hgrow hblk⟩

end Go.Proofs.YtlpjniejbblcnaaDoor

namespace Go.Proofs.YtlpjniejbblcnaaDoor
open Go.RowKit Go.Lib Go.Maps
attribute [local go_sem] after_cell
set_option linter.unusedVariables false

theorem pass_step {F : Vec → Bool} {c : Vec} {s : FSt} (k : Nat) : passF F c s (k + 1) = stepF F c (passF F c s k) k := rfl
/-- who is left -/
def leftP (s : FSt) (k : Nat) (L : Bool) : Prop := L = true ↔ ∃ j, j < k ∧ s.a j = true
theorem left_off {s s' : FSt} {k : Nat} {L : Bool} (h : leftP s k L) (hk : s'.a k = false) (he : ∀ j, j ≠ k → s'.a j = s.a j) : leftP s' (k + 1) L :=
  h.trans ⟨fun ⟨j, h1, h2⟩ => ⟨j, by omega, by rw [he j (by omega)]; exact h2⟩, fun ⟨j, h1, h2⟩ => by
    have q : j ≠ k := fun e => by subst e; rw [hk] at h2; cases h2
    exact ⟨j, by omega, by rw [← he j q]; exact h2⟩⟩
theorem left_none {s : FSt} : leftP s 0 false := ⟨fun h => (by cases h), fun ⟨j, h, _⟩ => absurd h (by omega)⟩
theorem left_dec {s : FSt} {n : Nat} {L : Bool} (h : leftP s n L) : L = decide (cntF s.a n ≠ 0) := by
  cases L with
  | true =>
    obtain ⟨j, h1, h2⟩ := h.1 rfl
    symm
    rw [decide_eq_true_iff]
    intro e
    have := cnt_zero.1 e j h1
    rw [h2] at this; cases this
  | false =>
    symm
    rw [decide_eq_false_iff_not]
    intro e
    obtain ⟨j, h1, h2⟩ := cnt_act e
    have := h.2 ⟨j, h1, h2⟩
    cases this
theorem left_on {s' : FSt} {k : Nat} (hk : s'.a k = true) : leftP s' (k + 1) true := ⟨fun _ => ⟨k, by omega, hk⟩, fun _ => rfl⟩

set_option maxRecDepth 100000 in
set_option maxHeartbeats 12800000 in
theorem single_any {w : World} {N n : Nat} {A : Option Addr} {cc : Nat} {fv : Value} {vb xb ab tb : Nat} {c x : Vec} {a : Act} {t : Vec} {F : Vec → Bool} (hD : DivSt w N n A cc fv vb xb ab tb c x a t) (hB : DivB N n vb xb ab tb) (hF : FitsC N w fv n F)
    (hO : FillOk n F) (hs : FSt.ok n F c ⟨x, a⟩) (hc : ∀ i, i < n → c i ≤ 1099511627776) :
    Calls Tryd.prog 46 #[.pointer (some ⟨vb, 0, none⟩)] w fun e w' => e = .returned (.bool (!decide (cntF (passF F c ⟨x, a⟩ n).a n = 0))) ∧ Below N w w' ∧ ∃ t', DivSt w' N n A cc fv vb xb ab tb c (passF F c ⟨x, a⟩ n).x (passF F c ⟨x, a⟩ n).a t' := by
  obtain ⟨v0, v1, v2, v3, v4⟩ := hD.vs
  have hn := hB.n
  have HD := Lib.hid hD
  have HB := Lib.hid hB
  have HF := Lib.hid hF
  have HP : Hid (∀ k, FSt.ok n F c (passF F c ⟨x, a⟩ k)) := fun k => pass_ok hO hs k
  have HC := Lib.hid hc
  clear hD hB hF hO hs hc
  go_enter Tryd.func46, Tryd.ntmps46
  go_wp2_with fail
  go_loopw [3, 10] (fun l i wr => ∃ k : Nat, ∃ L : Bool, k ≤ n ∧ l = .bool L ∧ i = .int .i64 k ∧ Below N w wr ∧ Hid (leftP (passF F c ⟨x, a⟩ k) k L) ∧ ∃ t', Hid (DivSt wr N n A cc fv vb xb ab tb c (passF F c ⟨x, a⟩ k).x (passF F c ⟨x, a⟩ k).a t')) (fun _ i _ => n - (intOf i).toNat)
  case atStart => exact ⟨0, false, by omega, rfl, rfl, Below.refl _ _, left_none, t, HD⟩
  case round =>
    obtain ⟨k, L, hk, rfl, rfl, hbw, HL, t', HE⟩ := hrel
    clear HD v0 v1 v2 v3 v4
    have HOK := Lib.hid (HP.out k)
    have HST := Lib.hid (pass_step (F := F) (c := c) (s := ⟨x, a⟩) k)
    by_cases hlt : k < n
    · have hki : (k : Int) < (n : Int) := by omega
      generalize passF F c ⟨x, a⟩ k = s at *
      obtain ⟨v0, v1, v2, v3, v4⟩ := HE.out.vs
      have x0 := HE.out.xc hlt
      have a0 := HE.out.ac hlt
      cases ha : s.a k with
      | false =>
        rw [ha] at a0
        have HQ : Hid (leftP (passF F c ⟨x, a⟩ (k + 1)) (k + 1) L) := by
          unfold Hid
          rw [HST.out, step_off ha]
          exact left_off HL.out ha (fun _ _ => rfl)
        have HE2 : Hid (DivSt wr N n A cc fv vb xb ab tb c (passF F c ⟨x, a⟩ (k + 1)).x (passF F c ⟨x, a⟩ (k + 1)).a t') := by
          unfold Hid; rw [HST.out, step_off ha]; exact HE.out
        go_wp2_with fail
        go_roundw
        case measure => simp [intOf]; omega
        case rel => exact ⟨k + 1, L, by omega, rfl, by go_num, hbw, HQ, t', HE2⟩
      | true =>
        rw [ha] at a0
        obtain ⟨b, off, rfl, hb, c0⟩ := HE.out.capc hlt
        have hlow := HE.out.low HB.out
        have hbr := Below.refl wr.heap.size wr
        have hvb := HE.out.v.lt
        have hxb := HE.out.x.lt
        have hbb : b < wr.heap.size := by omega
        by_cases hxc : s.x k < c k
        · have q1 : IntKind.i64.wrap (s.x k + 1) = s.x k + 1 := IntWalk.i64_in _ (by have := HOK.out.rng k hlt; have := HC.out k hlt; omega)
          go_wp2_with fail
          (refine wp_region_kept wr (by kernel_rfl) (by kernel_rfl) (by assumption) ?_; (repeat (go_big_quiet_step ((first | fail)))); refine wpQuiet_nil ?_; intro _ hw'; obtain ⟨x9, hw''⟩ := hw'; subst hw''; have hk9 := after_kept x9; generalize after x9 = w9 at *)
          obtain ⟨hc9, hb9⟩ := hk9
          clear hc9
          have HE9 := Lib.hid ((HE.out.below hb9 hlow).below (below_drew (Below.refl _ _)) (Nat.le_trans hlow hb9.size))
          have hbw9 := (hbw.trans (hb9.mono hlow)).drew
          clear v0 v1 v2 v3 v4 x0 a0 c0 hbr HE
          obtain ⟨v0, v1, v2, v3, v4⟩ := HE9.out.vs
          obtain ⟨i0, hi0, hz0, hz1, hz2⟩ := info_parts intInfo
          have Q1 : Hid ((listV n s.x).length = Nat.min n n) := by unfold Hid; rw [listV_len]; exact (Nat.min_self n).symm
          have Q2 : Hid (0 + (listV n s.x).length * 1 ≤ (rowV (Value.int .i64) n t').length) := by unfold Hid; rw [listV_len, rowV_len]; omega
          go_wp2_with fail
          (refine wp_still_tail 8 (by kernel_rfl) (by kernel_rfl) ?_; simp only [List.take_succ_cons, List.take_zero, List.drop_succ_cons, List.drop_zero]; (repeat still_step); (try refine wpStill_nil ?_))
          go_wp2_with (refine wpList_copy_to (enc := encZ) rfl (.tmp 39) (.tmp 43) _ _ rfl 3 1 Tryd.underlying22 i0 hi0 hz1 (fun _ => rfl) (by omega) encZ_1 _ _ _ _ _ _ rfl rfl tb 0 _ 3 HE9.out.t (listV n s.x) (blk_at HE9.out.x) Q1.out (fun _ => rfl) Q2.out ?_; intro w4 hblk hgrow; rw [← rowV_flat, splice_full (by rw [rowV_len, rowV_len])] at hblk; have HE4 := Lib.hid (HE9.out.copyT HB.out hgrow hblk); have hbw4 := hbw9.trans (grown_low hgrow HB.out.t (HE9.out.low HB.out)); clear v0 v1 v2 v3 v4 hblk hgrow; obtain ⟨v0, v1, v2, v3, v4⟩ := HE4.out.vs; have t0 := HE4.out.tc hlt; have ft := HE4.out.t.free k)
          have HE5 := Lib.hid ((HE4.out.setT HB.out hlt (s.x k + 1)).below (below_drew (Below.refl _ _)) (by simpa [World.setCell] using HE4.out.low HB.out))
          have hbw5 := (hbw4.setCell (p := ⟨tb, k, none⟩) HB.out.t (.int .i64 (s.x k + 1))).drew
          clear v0 v1 v2 v3 v4 t0 ft
          obtain ⟨v0, v1, v2, v3, v4⟩ := HE5.out.vs
          have HK := Lib.hid (HF.out _ hbw5 _ (updF s.x k (s.x k + 1)) (blk_sl HE5.out.t hn))
          (refine wp_still_tail 8 (by kernel_rfl) (by kernel_rfl) ?_; simp only [List.take_succ_cons, List.take_zero, List.drop_succ_cons, List.drop_zero]; (repeat still_step); (try refine wpStill_nil ?_))
          cases hf : F (updF s.x k (s.x k + 1)) with
          | true =>
            rw [hf] at HK
            go_wp2_with (go_at_call 24; refine HK.out.mono ?_; rintro e w5 ⟨rfl, hb5⟩; have HE6 := Lib.hid (HE5.out.below hb5 (HE5.out.low HB.out)); have hbw6 := hbw5.trans (hb5.mono (HE5.out.low HB.out)); clear v0 v1 v2 v3 v4 hb5; obtain ⟨v0, v1, v2, v3, v4⟩ := HE6.out.vs; have x0 := HE6.out.xc hlt; have fx := HE6.out.x.free k)
            have HQ : Hid (leftP (passF F c ⟨x, a⟩ (k + 1)) (k + 1) true) := by
              unfold Hid
              rw [HST.out, step_up ha hxc hf]
              exact left_on ha
            have HE2 : Hid (DivSt (w5.setCell ⟨xb, k, none⟩ (.int .i64 (s.x k + 1))) N n (some ⟨b, off, none⟩) cc fv vb xb ab tb c (passF F c ⟨x, a⟩ (k + 1)).x (passF F c ⟨x, a⟩ (k + 1)).a (updF s.x k (s.x k + 1))) := by
              unfold Hid
              rw [HST.out, step_up ha hxc hf]
              exact HE6.out.setX HB.out hlt _
            have hbs := hbw6.setCell (p := ⟨xb, k, none⟩) HB.out.x (.int .i64 (s.x k + 1))
            go_roundw
            case measure => simp [intOf]; omega
            case rel => exact ⟨k + 1, true, by omega, rfl, by go_num, hbs, HQ, _, HE2⟩
          | false =>
            rw [hf] at HK
            go_wp2_with (go_at_call 24; refine HK.out.mono ?_; rintro e w5 ⟨rfl, hb5⟩; have HE6 := Lib.hid (HE5.out.below hb5 (HE5.out.low HB.out)); have hbw6 := hbw5.trans (hb5.mono (HE5.out.low HB.out)); clear v0 v1 v2 v3 v4 hb5; obtain ⟨v0, v1, v2, v3, v4⟩ := HE6.out.vs; have a0 := HE6.out.ac hlt; have fa := HE6.out.a.free k)
            have HQ : Hid (leftP (passF F c ⟨x, a⟩ (k + 1)) (k + 1) L) := by
              unfold Hid
              rw [HST.out, step_out ha (fun h => by rw [hf] at h; cases h.2)]
              exact left_off HL.out (upd_same _ _ _) (fun j hj => upd_other hj)
            have HE2 : Hid (DivSt (w5.setCell ⟨ab, k, none⟩ (.bool false)) N n (some ⟨b, off, none⟩) cc fv vb xb ab tb c (passF F c ⟨x, a⟩ (k + 1)).x (passF F c ⟨x, a⟩ (k + 1)).a (updF s.x k (s.x k + 1))) := by
              unfold Hid
              rw [HST.out, step_out ha (fun h => by rw [hf] at h; cases h.2)]
              exact HE6.out.setA HB.out hlt false
            have hbs := hbw6.setCell (p := ⟨ab, k, none⟩) HB.out.a (.bool false)
            go_roundw
            case measure => simp [intOf]; omega
            case rel => exact ⟨k + 1, L, by omega, rfl, by go_num, hbs, HQ, (updF s.x k (s.x k + 1)), HE2⟩
        · go_wp2_with fail
          (refine wp_region_kept wr (by kernel_rfl) (by kernel_rfl) (by assumption) ?_; (repeat (go_big_quiet_step ((first | fail)))); refine wpQuiet_nil ?_; intro _ hw'; obtain ⟨x9, hw''⟩ := hw'; subst hw''; have hk9 := after_kept x9; generalize after x9 = w9 at *)
          obtain ⟨hc9, hb9⟩ := hk9
          clear hc9
          have HE9 := Lib.hid (HE.out.below hb9 hlow)
          have hbw9 := hbw.trans (hb9.mono hlow)
          clear v0 v1 v2 v3 v4 x0 a0 c0 hbr HE
          obtain ⟨v0, v1, v2, v3, v4⟩ := HE9.out.vs
          have a0 := HE9.out.ac hlt
          have fa := HE9.out.a.free k
          have HQ : Hid (leftP (passF F c ⟨x, a⟩ (k + 1)) (k + 1) L) := by
            unfold Hid
            rw [HST.out, step_out ha (fun h => absurd h.1 (by omega))]
            exact left_off HL.out (upd_same _ _ _) (fun j hj => upd_other hj)
          have HE2 : Hid (DivSt (w9.setCell ⟨ab, k, none⟩ (.bool false)) N n (some ⟨b, off, none⟩) cc fv vb xb ab tb c (passF F c ⟨x, a⟩ (k + 1)).x (passF F c ⟨x, a⟩ (k + 1)).a t') := by
            unfold Hid
            rw [HST.out, step_out ha (fun h => absurd h.1 (by omega))]
            exact HE9.out.setA HB.out hlt false
          have hbs := hbw9.setCell (p := ⟨ab, k, none⟩) HB.out.a (.bool false)
          go_wp2_with fail
          go_roundw
          case measure => simp [intOf]; omega
          case rel => exact ⟨k + 1, L, by omega, rfl, by go_num, hbs, HQ, t', HE2⟩
    · have hki : ¬ (k : Int) < (n : Int) := by omega
      have hkn : k = n := by omega
      subst hkn
      go_wp2_with fail
      go_ret
      exact ⟨ret_bool ((left_dec HL.out).trans (by simp)), hbw, t', HE.out⟩

end Go.Proofs.YtlpjniejbblcnaaDoor

namespace Go.Proofs.YtlpjniejbblcnaaDoor
open Go.RowKit
set_option linter.unusedVariables false

/-- the kind of a cell -/
inductive CellK where
  | bool
  | int (k : IntKind)
  | str
  | sl (e : List CellK)

mutual
/-- the cell v, read in w, is of this kind -/
def CellK.fits (w : World) : CellK → Value → Prop
  | .bool, v => ∃ b, v = .bool b
  | .int k, v => ∃ n, v = .int k n ∧ (Lit.int k n).wf = true
  | .str, v => ∃ s : ByteArray, v = .string s ∧ s.size ≤ maxLen
  | .sl e, v => ∃ rows : List (List Value), IsSl w e.length v rows ∧ ∀ row ∈ rows, CellK.fitsAll w e row
def CellK.fitsAll (w : World) : List CellK → List Value → Prop
  | [], vs => vs = []
  | k :: ks, vs => ∃ v r, vs = v :: r ∧ CellK.fits w k v ∧ CellK.fitsAll w ks r
end

theorem fitsAll_append {w : World} : ∀ {a b : List CellK} {xs ys : List Value}, CellK.fitsAll w a xs → CellK.fitsAll w b ys → CellK.fitsAll w (a ++ b) (xs ++ ys)
  | [], b, xs, ys, h, h2 => by unfold CellK.fitsAll at h; subst h; exact h2
  | k :: a, b, xs, ys, h, h2 => by
    unfold CellK.fitsAll at h
    obtain ⟨v, r, rfl, h0, h1⟩ := h
    rw [List.cons_append, List.cons_append]
    unfold CellK.fitsAll
    exact ⟨v, r ++ ys, rfl, h0, fitsAll_append h1 h2⟩

/-- the cells of a type of plain data -/
def flatK (P : Program) : Nat → TypeId → Option (List CellK)
  | 0, _ => none
  | n + 1, t =>
    match P.underlying t with
    | some .bool => some [.bool]
    | some (.int k) => some [.int k]
    | some .string => some [.str]
    | some (.slice e) => (flatK P n e).bind fun ks => if ks.length = P.cellsOf e ∧ 0 < ks.length then some [.sl ks] else none
    | some (.struct fs) =>
      (fs.toList.foldlM (fun acc f => if f.offset = acc.length then (flatK P n f.type).bind fun ks => if ks.length = P.cellsOf f.type then some (acc ++ ks) else none else none) []).bind fun ks => if ks.length = P.cellsOf t then some ks else none
    | _ => none

section
variable {H : Type} {enc : TypeId × Value → H} {P : Program} {w : World} {held : Bool}

theorem flat_fields {n : Nat} {cs : List Value} {m : Nat} (ih : ∀ t ks, flatK P n t = some ks → ∀ fuel cs x, DataW.trod enc P w 0 (fun _ => true) held fuel t cs = some x → CellK.fitsAll w ks cs) :
    ∀ (l : List Field) (acc r : List CellK), l.foldlM (fun acc f => if f.offset = acc.length then (flatK P n f.type).bind fun ks => if ks.length = P.cellsOf f.type then some (acc ++ ks) else none else none) acc = some r →
      (∀ f ∈ l, ∃ y, DataW.trod enc P w 0 (fun _ => true) held m f.type ((cs.drop f.offset).take (P.cellsOf f.type)) = some y) → CellK.fitsAll w acc (cs.take acc.length) → CellK.fitsAll w r (cs.take r.length)
  | [], acc, r, h, _, h0 => by simp at h; subst h; exact h0
  | f :: l, acc, r, h, hf, h0 => by
    rw [List.foldlM_cons] at h
    simp only [Option.bind_eq_bind, Option.bind_eq_some_iff] at h
    obtain ⟨acc2, h1, h2⟩ := h
    split at h1
    · rename_i ho
      rw [Option.bind_eq_some_iff] at h1
      obtain ⟨ks, hk, h1⟩ := h1
      split at h1
      · rename_i hc
        injection h1 with h1
        subst h1
        refine flat_fields ih l _ r h2 (fun g hg => hf g (by simp [hg])) ?_
        obtain ⟨y, hy⟩ := hf f (by simp)
        have hx := ih _ _ hk _ _ _ hy
        rw [ho, ← hc] at hx
        rw [List.length_append, List.take_add]
        exact fitsAll_append h0 hx
      · simp at h1
    · simp at h1

theorem cell_lt {w : World} {a : Addr} {v : Value} (h : w.cell? a = some v) : a.block < w.heap.size := by
  unfold World.cell? at h
  split at h
  · rename_i c e f hb
    exact (Array.getElem?_eq_some_iff.1 hb).1
  · simp at h

theorem flatK_trod : ∀ (n : Nat) (t : TypeId) (ks : List CellK), flatK P n t = some ks → ∀ (fuel : Nat) (cs : List Value) (x : DataW H × List MemPlace), DataW.trod enc P w 0 (fun _ => true) held fuel t cs = some x → CellK.fitsAll w ks cs
  | 0, t, ks, h, _, _, _, _ => by simp [flatK] at h
  | n + 1, t, ks, h, fuel, cs, x, hx => by
    unfold flatK at h
    split at h
    · rename_i hu
      injection h with h; subst h
      obtain ⟨b, rfl, _⟩ := DataW.trod_bool hu hx
      simp [CellK.fitsAll, CellK.fits]
    · rename_i k hu
      injection h with h; subst h
      obtain ⟨m, rfl, _, hw⟩ := DataW.trod_int hu hx
      simp [CellK.fitsAll, CellK.fits, hw]
    · rename_i hu
      injection h with h; subst h
      obtain ⟨s, rfl, _, hw⟩ := DataW.trod_string hu hx
      simp only [CellK.fitsAll, CellK.fits]
      exact ⟨_, _, rfl, ⟨s, rfl, hw⟩, rfl⟩
    · rename_i e hu
      rw [Option.bind_eq_some_iff] at h
      obtain ⟨es, he, h⟩ := h
      split at h
      · rename_i hc
        injection h with h; subst h
        simp only [CellK.fitsAll, CellK.fits]
        rcases Go.Deep.open_slice hu hx with ⟨rfl, _⟩ | ⟨a, len, cap, m, q, D, Pl, rfl, hb, hl, hcm, hm, _, hel⟩
        · exact ⟨_, _, rfl, ⟨[], IsSl.nil _ _, by simp⟩, rfl⟩
        · refine ⟨_, _, rfl, ?_, rfl⟩
          have hm' : m = cap := by rw [hm]; simp
          subst hm'
          obtain ⟨R, hR⟩ := Go.Deep.choose_lt (α := List Value) (p := fun i r => w.cells? 0 (a.add (i * P.cellsOf e)) (P.cellsOf e) = some r ∧ CellK.fitsAll w es r) (n := len) (fun i hi => by
            obtain ⟨r, h1, h2⟩ := hel i (by omega)
            exact ⟨r, h1, flatK_trod n e es he _ _ _ h2⟩)
          refine ⟨(List.range len).map R, ⟨some a, m, by simp, by simpa using hl, hcm, ?_⟩, ?_⟩
          · intro k row hk
            rw [List.getElem?_map] at hk
            have hkl : k < len := by
              rcases Nat.lt_or_ge k len with h | h
              · exact h
              · rw [List.getElem?_eq_none (by simpa using h)] at hk; simp at hk
            rw [List.getElem?_range hkl] at hk
            obtain rfl : R k = row := by simpa using hk
            have hcell : ∀ i j, i < len → j < es.length → w.cell? (a.add (i * es.length + j)) = (R i)[j]? := fun i j hi hj => by
              obtain ⟨_, _, h3⟩ := World.cells?_some (hR i hi).1
              rw [hc.1, ← Go.Deep.add_add]
              exact h3 j (by rw [← hc.1]; exact hj)
            have hlenR : ∀ i, i < len → (R i).length = es.length := fun i hi => by
              obtain ⟨_, h2, _⟩ := World.cells?_some (hR i hi).1
              rw [h2, hc.1]
            have h00 := hcell 0 0 (by omega) hc.2
            have h0s : w.cell? a = some ((R 0)[0]'(by rw [hlenR 0 (by omega)]; exact hc.2)) := by
              simp only [Nat.zero_mul, Nat.zero_add] at h00
              have ha : a.add 0 = a := by unfold Addr.add; simp
              rw [ha] at h00
              rw [h00, List.getElem?_eq_getElem]
            have hspot := World.cell?_spot h0s
            obtain ⟨b, off, spot⟩ := a
            have hspot' : spot = none := hspot
            subst hspot'
            refine ⟨b, off, rfl, cell_lt h0s, fun j u hu => ?_⟩
            have hj : j < es.length := by rw [← hlenR k hkl]; exact (List.getElem?_eq_some_iff.1 hu).1
            have h4 := hcell k j hkl hj
            rw [hu] at h4
            have ea : (⟨b, off, none⟩ : Addr).add (k * es.length + j) = ⟨b, off + k * es.length + j, none⟩ := by
              unfold Addr.add
              split
              · rename_i hz
                first | (simp; done) | (simp; omega)
              · first | (simp; done) | (simp; omega)
            rw [ea] at h4
            exact h4
          · intro row hr
            obtain ⟨i, hi, rfl⟩ := List.mem_map.1 hr
            exact (hR i (List.mem_range.1 hi)).2
      · simp at h
    · rename_i fs hu
      rw [Option.bind_eq_some_iff] at h
      obtain ⟨r, hr, h⟩ := h
      split at h
      · rename_i hc
        injection h with h; subst h
        obtain ⟨xs, q, _, _, hl, hlen, hf⟩ := DataW.trod_struct hu hx
        have hh := flat_fields (cs := cs) (m := q) (fun t ks hk fuel cs x hx => flatK_trod n t ks hk fuel cs x hx) fs.toList [] r hr (fun f hf' => by
          obtain ⟨i, hi⟩ := List.getElem?_of_mem hf'
          have hi' : fs[i]? = some f := by simpa using hi
          have hil : i < xs.length := by rw [hlen]; exact (Array.getElem?_eq_some_iff.1 hi').1
          exact ⟨xs[i], by rw [hf i f hi', List.getElem?_eq_getElem hil]⟩) (by simp [CellK.fitsAll])
        rw [hc, ← hl, List.take_of_length_le (by omega)] at hh
        exact hh
      · simp at h
    · simp at h

/-- an argument of plain data, opened -/
theorem open_arg {t : TypeId} {v : Value} {d : DataW H} {p : List MemPlace} (ks : List CellK) (hk : flatK P 9 t = some ks) (hd : DataW.Trod enc P w 0 (fun _ => true) held t v d p) : CellK.fitsAll w ks v.cells.toList := by
  obtain ⟨fuel, h⟩ := hd
  exact flatK_trod 9 t ks hk fuel _ _ h

theorem open_struct {r : Reach} {b0 : Nat} {t : TypeId} {fs : Array Field} {v : Value} {d : DataW H} {p : List MemPlace} (ks : List CellK) (hk : flatK P 9 t = some ks) (hu : P.underlying t = some (.struct fs)) (hval : Value.okWide P w r b0 t v)
    (hd : DataW.Trod enc P w 0 (fun _ => true) held t v d p) : ∃ cs, v = .agg cs ∧ CellK.fitsAll w ks cs.toList := by
  have h := open_arg ks hk hd
  unfold Value.okWide at hval
  rw [hu] at hval
  obtain ⟨cs, rfl, _⟩ := hval
  exact ⟨cs, rfl, h⟩

theorem open_sl {r : Reach} {b0 : Nat} {t e : TypeId} {v : Value} {d : DataW H} {p : List MemPlace} (ks : List CellK) (hk : flatK P 9 t = some [.sl ks]) (hu : P.underlying t = some (.slice e)) (hval : Value.okWide P w r b0 t v)
    (hd : DataW.Trod enc P w 0 (fun _ => true) held t v d p) : ∃ rows : List (List Value), IsSl w ks.length v rows ∧ ∀ row ∈ rows, CellK.fitsAll w ks row := by
  have h := open_arg _ hk hd
  unfold CellK.fitsAll at h
  obtain ⟨x, r, hx, hf, hr⟩ := h
  unfold CellK.fitsAll at hr
  subst hr
  have hv : v = x := by
    cases v with
    | agg cs =>
      unfold Value.okWide at hval
      rw [hu] at hval
      simp [Cell.okWide, Cell.ok, hu] at hval
    | _ => simp [Value.cells] at hx; exact hx
  subst hv
  unfold CellK.fits at hf
  exact hf

end

theorem agg_of {cs : Array Value} {l : List Value} (h : cs.toList = l) : Value.agg cs = Value.agg l.toArray := by rw [← h]

/-- rows that fit, as a list of structures -/
theorem rows_list {α : Type} {enc : α → List Value} {Q : α → Prop} {w : World} {ks : List CellK} (hq : ∀ row, CellK.fitsAll w ks row → ∃ x, row = enc x ∧ Q x) :
    ∀ (rows : List (List Value)), (∀ row ∈ rows, CellK.fitsAll w ks row) → ∃ l : List α, rows = l.map enc ∧ ∀ x ∈ l, Q x
  | [], _ => ⟨[], rfl, by simp⟩
  | row :: rows, h => by
    obtain ⟨x, rfl, hx⟩ := hq row (h row (by simp))
    obtain ⟨l, rfl, hl⟩ := rows_list hq rows (fun r hr => h r (by simp [hr]))
    exact ⟨x :: l, rfl, fun y hy => by rcases List.mem_cons.1 hy with rfl | hy; exact hx; exact hl y hy⟩

end Go.Proofs.YtlpjniejbblcnaaDoor

namespace Go.Proofs.YtlpjniejbblcnaaDoor
open Go.RowKit
set_option linter.unusedVariables false

/-- the blocks made since W0, each known whole, apart from each other -/
structure Lot (W0 w : World) (L : List (Nat × TypeId × List Value)) : Prop where
  below : Below W0.heap.size W0 w
  blk : ∀ x ∈ L, Blk w x.1 x.2.1 x.2.2 ∧ W0.heap.size ≤ x.1
  apart : (L.map (·.1)).Nodup
theorem Lot.nil (W0 : World) : Lot W0 W0 [] := ⟨Below.refl _ _, fun x h => by simp at h, List.nodup_nil⟩
theorem Lot.drew {W0 w : World} {L : List (Nat × TypeId × List Value)} (h : Lot W0 w L) : Lot W0 w.drew L := ⟨h.below.drew, h.blk, h.apart⟩
theorem Lot.alloc {W0 w : World} {L : List (Nat × TypeId × List Value)} (h : Lot W0 w L) (cs : Array Value) (T : TypeId) : Lot W0 (w.alloc (.cells cs T)) ((w.heap.size, T, cs.toList) :: L) := by
  refine ⟨below_alloc h.below _, fun x hx => ?_, ?_⟩
  · rcases List.mem_cons.1 hx with rfl | hx
    · exact ⟨Blk.new' rfl _ _ rfl, h.below.size⟩
    · exact ⟨(h.blk x hx).1.alloc _, (h.blk x hx).2⟩
  · rw [List.map_cons, List.nodup_cons]
    refine ⟨fun hm => ?_, h.apart⟩
    obtain ⟨x, hx, e⟩ := List.mem_map.1 hm
    have := (h.blk x hx).1.lt
    simp only at e
    omega
section
variable {P : Program} {ops : Array Oper} {o : Oper} {a : Go.Act} {w : World} {K : Go.Act → World → Prop} {Q : Exit → Go.Act → World → Prop} {E : Prop}
/-- no panic leaves: so the postcondition looks at no frame there -/
def noPanic (Q : Exit → Go.Act → World → Prop) : Exit → Go.Act → World → Prop
  | .panic _, _, _ => False
  | e, a, w => Q e a w
theorem wp_blind {c : Code} (h : c.wp P (noPanic Q) a w) : c.wp P Q a w := wp_mono h fun e a w h => by
  cases e <;> first | exact h | exact h.elim
/-- what makes a block, as one step of a region that draws -/
theorem step_new_lot (hgd : o.guard = none) (mk : Nat → Value) (Z : Array Value) (T : TypeId) (hrun : ∀ W, (execOp a.eval o).run P W = .ok (.value (mk W.heap.size)) (W.alloc (.cells Z T)))
    (W0 : World) (L : List (Nat × TypeId × List Value)) (hL : Lot W0 w L) (h : ∀ g w', Lot W0 w' ((g, T, Z.toList) :: L) → K (a.put o.dst (mk g)) w') :
    if Region.wanted o (yielded ops a.tmps) = true then Oper.wp P o a w K Q else E := by
  have hw : Region.wanted o (yielded ops a.tmps) = true := by simp [Region.wanted, hgd]
  rw [if_pos hw]
  unfold Oper.wp
  rw [hrun w]
  exact h _ _ (hL.alloc Z T)
/-- a store of all cells of a block -/
theorem step_store_lot (hgd : o.guard = none) (ty : TypeId) (x y : Operand) (ho : o.op = .store ty x y) (g : Nat) (cells : Array Value) (hx : a.eval x = .pointer (some ⟨g, 0, none⟩)) (hy : a.eval y = .agg cells)
    (W0 : World) (L : List (Nat × TypeId × List Value)) (hL : Lot W0 w L) (T : TypeId) (old : List Value) (hg : (g, T, old) ∈ L) (hi : (P.info? ty).map (·.size) = some cells.size) (hold : old.length = cells.size) (h1 : cells.all (·.oneCell') = true)
    (h : ∀ w', Below W0.heap.size W0 w' → Blk w' g T cells.toList → (∀ z ∈ L, z.1 ≠ g → Blk w' z.1 z.2.1 z.2.2) → K (a.put o.dst undef) w') :
    if Region.wanted o (yielded ops a.tmps) = true then Oper.wp P o a w K Q else E := by
  have hw : Region.wanted o (yielded ops a.tmps) = true := by simp [Region.wanted, hgd]
  rw [if_pos hw]
  have hb := hL.blk _ hg
  refine wp_store_row ty x y ho g cells hx hy T old.toArray hb.1 hi (by simpa using hold) h1 (h _ ?_ ?_ fun z hz hne => ?_)
  · exact ⟨hL.below.os, hL.below.tape, hL.below.output, by rw [size_setRow]; exact hL.below.size, fun k hk => by rw [setRow_other _ _ _ _ (by have := hb.2; simp only at this; omega)]; exact hL.below.block k hk⟩
  · have := setRow_heap w g old.toArray cells T (0, 0) hb.1
    unfold Blk
    simpa using this
  · exact (setRow_other w g z.1 cells hne).trans (hL.blk z hz).1
end

end Go.Proofs.YtlpjniejbblcnaaDoor

namespace Go.Proofs.YtlpjniejbblcnaaDoor
open Go.RowKit Go.Lib Go.Maps
attribute [local go_sem] after_cell
set_option linter.unusedVariables false

theorem boolInfo : (Tryd.prog.info? 4).map (fun i => (i.zero, i.size, i.bytes)) = some (some (.bool false), 1, 1) := by kernel_rfl
theorem zeros_int (n : Nat) : (madeCells (Value.int .i64 0).cells (n * 1)).toList = rowV (Value.int .i64) n zeroV := by
  apply List.ext_getElem
  · simp [rowV, size_madeCells]
  · intro i h1 h2
    have hi : i < n := by simpa [rowV] using h2
    simp [rowV, madeCells, Value.cells, zeroV, Nat.mod_one]
theorem zeros_bool (n : Nat) : (madeCells (Value.bool false).cells (n * 1)).toList = rowV Value.bool n (fun _ => false) := by
  apply List.ext_getElem
  · simp [rowV, size_madeCells]
  · intro i h1 h2
    have hi : i < n := by simpa [rowV] using h2
    simp [rowV, madeCells, Value.cells, Nat.mod_one]
theorem fresh_blk {w : World} {g : Nat} (h : w.heap.size ≤ g) (n c : Nat) : Fresh w (.slice (some ⟨g, 0, none⟩) n c) := fun b off n' c' e => by
  injection e with e1
  injection e1 with e2
  injection e2 with e3
  omega
theorem Fresh.mono {w w' : World} {v : Value} (h : Fresh w' v) (hw : w.heap.size ≤ w'.heap.size) : Fresh w v := fun b off n c e => Nat.le_trans hw (h b off n c e)
/-- the deferred function finds no panic -/
theorem fcatch_idle (p q : Addr) (w : World) : CallsD Tryd.prog 44 #[.pointer (some p), .pointer (some q)] .returning w fun e u' w' => e = .returned (.tuple #[]) ∧ u' = .returning ∧ w' = w := by
  refine callsD_of_wpS Tryd.func44 rfl fun c₀ cs hu => ?_
  apply wpS_seq
  apply wpS_region
  simp [wpOpsS, go_sem, recoverD, hu, Tryd.ntmps44, Exit.thenS]
  refine wpS_cond (t := false) (by simp [Act.eval, Array.replicate]) ?_
  simp only [Bool.false_eq_true, if_false]
  refine wpS_of_wp (wp_skip ?_)
  cases c₀
  simp_all [bodyPostS, results, Tryd.results44]

set_option maxRecDepth 100000 in
set_option maxHeartbeats 12800000 in
theorem fill_any {w : World} {n : Nat} {cv dv : Value} {c : Vec} {F : Vec → Bool} (hC : IsSl w 1 cv ((listV n c).map encZ)) (hF : FitsC w.heap.size w dv n F) (hO : FillOk n F) (hz : F zeroV = true) (hn : n ≤ 64) (hc : ∀ i, i < n → 0 ≤ c i ∧ c i ≤ 1099511627776) :
    Calls Tryd.prog 23 #[cv, .func (.func 24) #[dv] #[]] w fun e w' => ∃ v, e = .returned (.tuple #[v, .int .i64 0]) ∧ IsSl w' 1 v ((listV n (fillX n F c)).map encZ) ∧ Below w.heap.size w w' ∧ Fresh w v := by
  have hmf : ∀ (fn : Fn) (first cap : Array Value) (w : World), (Instr.makeFunc fn first cap).run Tryd.prog w = .ok (.func fn first cap) w := fun _ _ _ _ => rfl
  have hne : ∀ w : World, (binOp .eql 69 (.func (.func 24) #[dv] #[]) .nilFunc).run Tryd.prog w = .ok (.bool false) w := fun _ => by first | rfl | kernel_rfl
  have HC := Lib.hid hC
  obtain ⟨A, cc, rfl, hlc, hcm, hsl⟩ := hC
  have hlen : ((listV n c).map encZ).length = n := by simp [listV_len]
  rw [hlen] at HC hlc ⊢
  unfold maxLen at hcm
  have HS := Lib.hid hsl
  have HF := Lib.hid hF
  have HO := Lib.hid hO
  have HZ := Lib.hid hz
  have HB := Lib.hid hc
  clear hsl hF hO hz hc hlen
  obtain ⟨i0, hi0, hz0, hz1, hz2⟩ := info_parts intInfo
  obtain ⟨i1, hj0, hjz, hj1, hj2⟩ := info_parts boolInfo
  have hmk := fun W => run_make_rowZ (P := Tryd.prog) 22 3 i0 _ Tryd.underlying22 hi0 hz0 .i64 .i64 n n (n : Int) (n : Int) rfl rfl (by omega) (by rw [hz2]; omega) (by omega) W
  have hmb := fun W => run_make_rowZ (P := Tryd.prog) 97 4 i1 _ Tryd.underlying97 hj0 hjz .i64 .i64 n n (n : Int) (n : Int) rfl rfl (by omega) (by rw [hj2]; omega) (by omega) W
  rw [hz1] at hmk
  rw [hj1] at hmb
  have HZC := Lib.hid (zeros_int n)
  have HZB := Lib.hid (zeros_bool n)
  generalize madeCells _ (n * 1) = ZC at hmk HZC
  generalize madeCells _ (n * 1) = ZB at hmb HZB
  go_enter_defers Tryd.func23, Tryd.ntmps23
  go_wp2_with (go_at_call 25; refine (fcheck_ok (listV n c) _ _ (HC.out.below (below_alloc (below_alloc (Below.refl _ _) _) _)) (by rw [listV_len]; exact hn) (fun x hx => by obtain ⟨j, hj, rfl⟩ := List.mem_iff_getElem.1 hx; rw [listV_get]; exact HB.out j (by simpa [listV_len] using hj))).mono ?_; rintro e w' ⟨rfl, rfl⟩)
  obtain ⟨W0, hW0⟩ : ∃ W0, W0 = (w.alloc (.cells #[.slice none 0 0] 22)).alloc (.cells #[.int .i64 0] 37) := ⟨_, rfl⟩
  rw [← hW0]
  have hs0 : W0.heap.size = w.heap.size + 2 := by rw [hW0]; simp
  have hb0 : Below w.heap.size w W0 := by rw [hW0]; exact below_alloc (below_alloc (Below.refl _ _) _) _
  have hl0 : Blk W0 w.heap.size 22 [.slice none 0 0] := by rw [hW0]; exact (Blk.new' rfl _ _ rfl).alloc _
  have hl1 : Blk W0 (w.heap.size + 1) 37 [.int .i64 0] := by rw [hW0]; exact Blk.new' (by simp) _ _ rfl
  have hbr := Below.refl W0.heap.size W0
  have HL0 := Lib.hid (And.intro hl0 hl1)
  have HS0 := Lib.hid hs0
  clear hl0 hl1 hW0 hs0
  go_cut [8] from 20 to 29 (fun s8 wx => ∃ vb xb ab tb : Nat, s8 = .pointer (some ⟨vb, 0, none⟩) ∧ Below W0.heap.size W0 wx ∧ Blk wx vb 100 [.slice A n cc, .func (.func 24) #[dv] #[], .slice (some ⟨xb, 0, none⟩) n n, .slice (some ⟨ab, 0, none⟩) n n, .slice (some ⟨tb, 0, none⟩) n n] ∧
    Blk wx xb 3 ZC.toList ∧ Blk wx ab 4 ZB.toList ∧ Blk wx tb 3 ZC.toList ∧ W0.heap.size ≤ vb ∧ W0.heap.size ≤ xb ∧ W0.heap.size ≤ ab ∧ W0.heap.size ≤ tb ∧ vb ≠ xb ∧ vb ≠ ab ∧ vb ≠ tb ∧ xb ≠ ab ∧ xb ≠ tb ∧ ab ≠ tb)
  case first =>
    refine wp_blind ?_
    go_region
    all_goals simp only [noPanic]
    all_goals (go_wp2_with fail; go_meet)
    all_goals exact ⟨_, _, _, _, rfl, by repeat (first | exact Below.refl _ _ | refine below_alloc ?_ _ | refine below_drew ?_), by repeat (first | (refine Blk.new' ?_ _ _ rfl; simp; done) | refine Blk.alloc ?_ _ | refine Blk.drew ?_), by repeat (first | (refine Blk.new' ?_ _ _ rfl; simp; done) | refine Blk.alloc ?_ _ | refine Blk.drew ?_), by repeat (first | (refine Blk.new' ?_ _ _ rfl; simp; done) | refine Blk.alloc ?_ _ | refine Blk.drew ?_), by repeat (first | (refine Blk.new' ?_ _ _ rfl; simp; done) | refine Blk.alloc ?_ _ | refine Blk.drew ?_), by omega, by omega, by omega, by omega, by omega, by omega, by omega, by omega, by omega, by omega⟩
  case rest =>
    obtain ⟨vb, xb, ab, tb, rfl, hbc, kv, kx, ka, kt, lv, lx, la, lt, n1, n2, n3, n4, n5, n6⟩ := hcut
    rw [HZC.out] at kx kt
    rw [HZB.out] at ka
    have hs0 := HS0.out
    have HBl : Hid (DivB (w.heap.size + 2) n vb xb ab tb) := ⟨by omega, by omega, by omega, by omega, n1, n2, n3, n4, n5, n6, hn⟩
    have hbw := hb0.trans (hbc.mono (by omega))
    have hlowc : w.heap.size + 2 ≤ wc.heap.size := by have := hbc.size; omega
    have HD : Hid (DivSt wc (w.heap.size + 2) n A cc dv vb xb ab tb c zeroV (fun _ => false) zeroV) := ⟨((LowAt.of HS.out).below hbw).mono (by omega), kv, kx, ka, kt⟩
    have hm0 := HL0.out.1.below hbc (by omega)
    have hm1 := HL0.out.2.below hbc (by omega)
    have HF2 : Hid (FitsC (w.heap.size + 2) wc dv n F) := fun w2 h2 => HF.out w2 (hbw.trans (h2.mono (by omega)))
    have HCB : Hid (∀ i, i < n → c i ≤ 1099511627776) := fun i hi => (HB.out i hi).2
    have HCAP : Hid (Capped n c) := ⟨1099511627776, fun i hi => HB.out i hi⟩
    have HK := Lib.hid (HF2.out wc (Below.refl _ _) _ zeroV (blk_sl kt hn))
    rw [HZ.out] at HK
    obtain ⟨v0, v1, v2, v3, v4⟩ := HD.out.vs
    clear kv kx ka kt lv lx la lt hmk hmb hs0 hbr
    go_wp2_with (go_at_call 24; refine HK.out.mono ?_; rintro e w2 ⟨rfl, hb2⟩; have HD2 := Lib.hid (HD.out.below hb2 hlowc); have hbw2 := hb2.mono hlowc; clear v0 v1 v2 v3 v4 hb2; obtain ⟨v0, v1, v2, v3, v4⟩ := HD2.out.vs)
    clear v0 v1 v2 v3 v4
    go_loopw [39] (fun i wr => ∃ k : Nat, k ≤ n ∧ i = .int .i64 k ∧ Below (w.heap.size + 2) wc wr ∧ Hid (DivSt wr (w.heap.size + 2) n A cc dv vb xb ab tb c zeroV (fun j => decide (j < k)) zeroV)) (fun i _ => n - (intOf i).toNat)
    case atStart => exact ⟨0, by omega, rfl, hbw2, by have := HD2.out; simpa [Hid] using this⟩
    case round =>
      obtain ⟨k, hk, rfl, hbr, HE⟩ := hrel
      clear HD2 hbw2 HK
      by_cases hlt : k < n
      · have hki : (k : Int) < (n : Int) := by omega
        obtain ⟨v0, v1, v2, v3, v4⟩ := HE.out.vs
        have a0 := HE.out.ac hlt
        have fa := HE.out.a.free k
        have hbs := hbr.setCell (p := ⟨ab, k, none⟩) HBl.out.a (.bool true)
        have HE2 : Hid (DivSt (wr.setCell ⟨ab, k, none⟩ (.bool true)) (w.heap.size + 2) n A cc dv vb xb ab tb c zeroV (fun j => decide (j < k + 1)) zeroV) := by
          have h := HE.out.setA HBl.out hlt true
          rw [show updF (fun j => decide (j < k)) k true = fun j => decide (j < k + 1) from (by
            funext j
            unfold updF
            by_cases q : j = k
            · subst q; simp
            · rw [if_neg q]; simp; omega)] at h
          exact h
        go_wp2_with fail
        go_roundw
        case measure => simp [intOf]; omega
        case rel => exact ⟨k + 1, by omega, by go_num, hbs, HE2⟩
      · have hki : ¬ (k : Int) < (n : Int) := by omega
        have hkn : k = n := by omega
        have HE2 : Hid (DivSt wr (w.heap.size + 2) n A cc dv vb xb ab tb c (startF n).x (startF n).a zeroV) := by have h := HE.out; rw [hkn] at h; exact h
        have HOK0 := Lib.hid (start_ok HCAP.out HZ.out)
        clear HE hlt
        go_wp2_with fail
        go_loopw [48] (fun i wq => ∃ k : Nat, ∃ s : FSt, ∃ t' : Vec, k ≤ n ∧ i = .int .i64 k ∧ Below (w.heap.size + 2) wc wq ∧ Hid (DivSt wq (w.heap.size + 2) n A cc dv vb xb ab tb c s.x s.a t') ∧ Hid (s.ok n F c) ∧ Hid (fillN n F c (n - k) s = fillN n F c n (startF n))) (fun i _ => n - (intOf i).toNat)
        case atStart => exact ⟨0, startF n, zeroV, by omega, rfl, hbr, HE2, HOK0, rfl⟩
        case round =>
          obtain ⟨q, s, t', hq, rfl, hbq, HQ, HOK, HFN⟩ := hrel
          clear HE2 HOK0 hbr hki hkn hk
          by_cases hlt : q < n
          · have hki : (q : Int) < (n : Int) := by omega
            go_wp2_with (go_at_call 45; refine (together_any HQ.out HBl.out (HF2.out.below hbq) HO.out HOK.out HCB.out).mono ?_; rintro e w3 ⟨rfl, hb3, d, hd, t3, hD3⟩)
            have HR := Lib.hid (rnd_ok HO.out HOK.out hd)
            have HFN2 : Hid (fillN n F c (n - (q + 1)) (rndF n F c s d) = fillN n F c n (startF n)) := by
              unfold Hid
              rw [← HFN.out, show n - q = (n - (q + 1)) + 1 by omega, fill_step' HO.out HOK.out hd]
            have HSg := Lib.hid (single_any hD3 HBl.out (HF2.out.below (hbq.trans hb3)) HO.out (lev_ok HO.out HOK.out hd) HCB.out)
            cases hcn : decide (cntF (rndF n F c s d).a n = 0) with
            | true =>
              have HEQ : Hid (rndF n F c s d = fillN n F c n (startF n)) := by unfold Hid; rw [← HFN2.out, fill_done (of_decide_eq_true hcn)]
              unfold rndF at hcn
              rw [hcn] at HSg
              refine HSg.out.mono ?_
              rintro e w4 ⟨rfl, hb4, t4, hD4⟩
              have hbz := (hbq.trans hb3).trans hb4
              have m0 := hm0.below hbz (by omega)
              have m1 := hm1.below hbz (by omega)
              have z0 := (m0.cell 0).trans rfl
              have z1 := (m1.cell 0).trans rfl
              have y0 := m0.free 0
              have y1 := m1.free 0
              have HX : Hid (Blk ((w4.setCell ⟨w.heap.size, 0, none⟩ (.slice (some ⟨xb, 0, none⟩) n n)).setCell ⟨w.heap.size + 1, 0, none⟩ (.int .i64 0)) xb 3 (rowV (Value.int .i64) n (fillX n F c))) := by
                unfold Hid
                rw [fillX_eq HZ.out, ← (show passF F c ⟨levF s.x c s.a d, s.a⟩ n = fillN n F c n (startF n) from HEQ.out)]
                exact (hD4.x.other (by have := HBl.out.x; omega) _).other (by have := HBl.out.x; omega) _
              have hbf := ((hbw.trans (hbz.mono (by omega))).setCell (p := ⟨w.heap.size, 0, none⟩) (Nat.le_refl _) (.slice (some ⟨xb, 0, none⟩) n n)).setCell (p := ⟨w.heap.size + 1, 0, none⟩) (by simp) (.int .i64 0)
              obtain ⟨wf, hwf⟩ : ∃ wf, wf = (w4.setCell ⟨w.heap.size, 0, none⟩ (.slice (some ⟨xb, 0, none⟩) n n)).setCell ⟨w.heap.size + 1, 0, none⟩ (.int .i64 0) := ⟨_, rfl⟩
              have e0 : wf.cell? ⟨w.heap.size, 0, none⟩ = some (.slice (some ⟨xb, 0, none⟩) n n) := by rw [hwf, far_cell (by omega)]; exact (m0.set 0 _).cell 0
              have e1 : wf.cell? ⟨w.heap.size + 1, 0, none⟩ = some (.int .i64 0) := by rw [hwf]; exact ((m1.other (by omega) _).set 0 _).cell 0
              rw [← hwf] at HX hbf
              obtain ⟨v0, v1, v2, v3, v4⟩ := hD4.vs
              go_wp2_with fail
              refine leaves_cons (f := 44) (args := #[.pointer (some ⟨w.heap.size, 0, none⟩), .pointer (some ⟨w.heap.size + 1, 0, none⟩)]) (by simp) (by simp [go_sem]) ?_
              refine (fcatch_idle _ _ _).mono ?_
              rintro e u' w'' ⟨rfl, rfl, rfl⟩
              rw [← hwf]
              simp [Leaves, settle, results, Tryd.results23, go_sem, e0, e1]
              exact ⟨blk_sl HX.out hn, hbf, fresh_blk (by have := HBl.out.x; omega) _ _⟩
            | false =>
              unfold rndF at hcn
              rw [hcn] at HSg
              refine HSg.out.mono ?_
              rintro e w4 ⟨rfl, hb4, t4, hD4⟩
              have hbz := (hbq.trans hb3).trans hb4
              have HD4 := Lib.hid hD4
              go_wp2_with fail
              go_roundw
              case measure => simp [intOf]; omega
              case rel => exact ⟨q + 1, rndF n F c s d, t4, by omega, by go_num, hbz, HD4, HR, HFN2⟩
          · have hki : ¬ (q : Int) < (n : Int) := by omega
            have HEQ : Hid (s = fillN n F c n (startF n)) := by unfold Hid; rw [← HFN.out, show n - q = 0 by omega]; rfl
            have hDq := HQ.out
            have m0 := hm0.below hbq (by omega)
            have m1 := hm1.below hbq (by omega)
            have z0 := (m0.cell 0).trans rfl
            have z1 := (m1.cell 0).trans rfl
            have y0 := m0.free 0
            have y1 := m1.free 0
            have HX : Hid (Blk ((wr.setCell ⟨w.heap.size, 0, none⟩ (.slice (some ⟨xb, 0, none⟩) n n)).setCell ⟨w.heap.size + 1, 0, none⟩ (.int .i64 0)) xb 3 (rowV (Value.int .i64) n (fillX n F c))) := by
              unfold Hid
              rw [fillX_eq HZ.out, ← HEQ.out]
              exact (hDq.x.other (by have := HBl.out.x; omega) _).other (by have := HBl.out.x; omega) _
            have hbf := ((hbw.trans (hbq.mono (by omega))).setCell (p := ⟨w.heap.size, 0, none⟩) (Nat.le_refl _) (.slice (some ⟨xb, 0, none⟩) n n)).setCell (p := ⟨w.heap.size + 1, 0, none⟩) (by simp) (.int .i64 0)
            obtain ⟨wf, hwf⟩ : ∃ wf, wf = (wr.setCell ⟨w.heap.size, 0, none⟩ (.slice (some ⟨xb, 0, none⟩) n n)).setCell ⟨w.heap.size + 1, 0, none⟩ (.int .i64 0) := ⟨_, rfl⟩
            have e0 : wf.cell? ⟨w.heap.size, 0, none⟩ = some (.slice (some ⟨xb, 0, none⟩) n n) := by rw [hwf, far_cell (by omega)]; exact (m0.set 0 _).cell 0
            have e1 : wf.cell? ⟨w.heap.size + 1, 0, none⟩ = some (.int .i64 0) := by rw [hwf]; exact ((m1.other (by omega) _).set 0 _).cell 0
            rw [← hwf] at HX hbf
            obtain ⟨v0, v1, v2, v3, v4⟩ := hDq.vs
            go_wp2_with fail
            refine leaves_cons (f := 44) (args := #[.pointer (some ⟨w.heap.size, 0, none⟩), .pointer (some ⟨w.heap.size + 1, 0, none⟩)]) (by simp) (by simp [go_sem]) ?_
            refine (fcatch_idle _ _ _).mono ?_
            rintro e u' w'' ⟨rfl, rfl, rfl⟩
            rw [← hwf]
            simp [Leaves, settle, results, Tryd.results23, go_sem, e0, e1]
            exact ⟨blk_sl HX.out hn, hbf, fresh_blk (by have := HBl.out.x; omega) _ _⟩

end Go.Proofs.YtlpjniejbblcnaaDoor
