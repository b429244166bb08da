/-
  Walks: Next of the reference of contracts.
-/
import Derived.Test.YtpknjblgbpndlaaDoorWCon13
import Derived.Deep.RegionWith
namespace Go.Proofs.YtpknjblgbpndlaaDoor
open Go.RowKit Go.Lib Go.Maps
attribute [local go_sem] after_cell
set_option linter.unusedVariables false

/-- where the search for the next change stands: n are the next changes at u -/
def InnerSt (W0 : World) (l : List ConR) (z : ZoneR) (t f : Int) (s : Value) (wr : World) (u : Int) : Prop :=
  f ≤ u ∧ u ≤ 268435456 ∧ Quiet (difB l z) t u ∧ IsSl wr 1 s ((l.map (nxA z u)).map encZ) ∧ Below W0.heap.size W0 wr

set_option maxRecDepth 100000 in
set_option maxHeartbeats 12800000 in
theorem refConNext_any (l : List ConR) (v : Value) (z : ZoneR) (t : Int) (w : World) (hL : IsSl w 8 v (l.map ConR.cells)) (hlen : l.length ≤ 1000) :
    Calls Tryd.prog 22 #[v, .agg #[.int .i64 z.off, .bool z.sum], .int .i64 t] w fun e w' => e = .returned (.int .i64 (conA l z t)) ∧ Below w.heap.size w w' := by
  obtain ⟨W0, hW0, hb0, hg0, hx0⟩ := box1 w #[.int .i64 z.off, .bool z.sum] 26
  replace hL := hL.below hb0
  obtain ⟨A, c, rfl, hlc, hcm, hsl⟩ := hL
  rw [List.length_map] at hlc
  have HIS : Hid (IsSl W0 8 (.slice A l.length c) (l.map ConR.cells)) := by
    have : IsSl W0 8 (.slice A (l.map ConR.cells).length c) (l.map ConR.cells) := ⟨A, c, rfl, by rw [List.length_map]; exact hlc, hcm, hsl⟩
    rw [List.length_map] at this
    exact this
  unfold maxLen at hcm
  simp only [List.length_map]
  clear hsl
  by_cases hout : ¬ (0 ≤ t ∧ t ≤ 268435456)
  · have HE := Lib.hid (conA_out (l := l) (z := z) hout)
    have hcase : t < 0 ∨ (¬ t < 0 ∧ 268435456 < t) := by omega
    clear hout
    rcases hcase with h1 | ⟨h1, h2⟩
    all_goals
      go_enter Tryd.func22, Tryd.ntmps22
      go_wp2_with fail
      go_ret
      exact ⟨ret_int HE.out.symm, by rw [← hW0]; exact hb0⟩
  have h0 : 0 ≤ t := by omega
  have h1 : t ≤ 268435456 := by omega
  have h00 : ¬ t < 0 := by omega
  have h11 : ¬ 268435456 < t := by omega
  clear hout
  have HRES := Lib.hid (fun r (h : NextP (difB l z) t r) => conA_of (l := l) (z := z) h0 h1 h)
  have HCN := Lib.hid (cntE_le t l)
  go_enter Tryd.func22, Tryd.ntmps22
  go_wp2_with fail
  rw [← hW0]
  clear hW0
  go_loopw [7, 8, 9] (fun sf sb sr wr => ∃ (f b : Int) (r : Nat), sf = .int .i64 f ∧ sb = .int .i64 b ∧ sr = .int .i64 r ∧ 0 ≤ f ∧ f ≤ b ∧ b - 1 ≤ f ∧ t ≤ f ∧ b ≤ 268435456 ∧ r + cntE l b ≤ 2 * l.length ∧ Hid (Quiet (difB l z) t f) ∧ Below W0.heap.size W0 wr) (fun _ _ sr _ => 2 * l.length + 2 - (intOf sr).toNat)
  case atStart => exact ⟨t, t, 0, rfl, rfl, rfl, h0, Int.le_refl _, by omega, Int.le_refl _, h1, by have := HCN.out; omega, Quiet.refl _ _, Below.refl _ _⟩
  case round =>
    obtain ⟨f, b, r, rfl, rfl, rfl, f0, fb, bf, tf, b1, hr, HQ, hbw⟩ := hrel
    obtain ⟨hc, hf⟩ := bcell hbw
    have q1 : IntKind.i64.wrap (2 * (l.length : Int)) = 2 * (l.length : Int) := IntWalk.i64_in _ (by omega)
    have q2 : IntKind.i64.wrap (2 * (l.length : Int) + 1) = 2 * (l.length : Int) + 1 := IntWalk.i64_in _ (by omega)
    have q3 : (r : Int) ≤ 2 * (l.length : Int) + 1 := by omega
    have q4 : IntKind.i64.wrap (f + 21600) = f + 21600 := IntWalk.i64_in _ (by omega)
    go_wp2_with fail
    refine (refChanges_any l _ z f _ (HIS.out.below hbw) hlen).mono ?_
    rintro e w2 ⟨s2, rfl, hs2, hb2⟩
    have hbw2 := below_step hbw hb2
    clear hc hf q1 q2 q3
    go_wp2_with fail
    have hst0 : InnerSt W0 l z t f s2 w2 f := ⟨Int.le_refl _, by omega, HQ.out, hs2, hbw2⟩
    clear hs2 hb2 hbw2 hbw
    go_loopw [10] (fun s wx => ∃ u, InnerSt W0 l z t f s wx u) (fun s wx => mesE (InnerSt W0 l z t f s wx))
    case atStart => exact ⟨f, hst0⟩
    case round =>
      clear hst0
      obtain ⟨⟨u, hR, hme⟩, hmin⟩ := mesE_is hrel
      clear hrel hmin
      obtain ⟨fu, u1, hQu, hs, hbw⟩ := hR
      have u0 : 0 ≤ u := by omega
      have HS := Lib.hid hs
      have HQU := Lib.hid hQu
      have HME := Lib.hid hme
      have hfi := fst_is l z u0 u1
      have HFQ := Lib.hid (fun h => fst_quiet (l := l) (z := z) u0 u1 h)
      have HFN := Lib.hid (fun h x => fst_none (l := l) (z := z) u0 u1 h x)
      have HF1 : Hid (∀ w', IsSl w' 1 u10 ((l.map (nxA z u)).map encZ) → Calls Tryd.prog 42 #[u10] w' fun e w'' => e = .returned (.int .i64 (fstF l z u)) ∧ Below w'.heap.size w' w'') := fun w' h => refFirC_any _ _ _ h
      have HLT : Hid (∀ w' x, x = fstF l z u → 0 ≤ x → IsSl w' 8 (.slice A l.length c) (l.map ConR.cells) → IsSl w' 1 u10 ((l.map (nxA z u)).map encZ) → Calls Tryd.prog 44 #[.slice A l.length c, .agg #[.int .i64 z.off, .bool z.sum], u10, .int .i64 x] w' (TimesPost w' (l.map (nxA z x)))) := fun w' x hx h0 h1 h2 => refLater_any l _ _ z u x w' h1 h2 hlen u0 u1 hx h0
      clear hs hQu hme
      obtain ⟨x, hx⟩ : ∃ x, x = fstF l z u := ⟨_, rfl⟩
      have HX := Lib.hid hx
      rw [← hx] at HF1 HFQ HFN hfi
      clear hx
      have y1 : ∀ j, wr.cell? ⟨w.heap.size, j, none⟩ = (#[.int .i64 z.off, .bool z.sum] : Array Value)[j]? := fun j => ((bcell hbw).1 _ _ hg0).trans (hx0 j)
      have y2 : w.heap.size < wr.heap.size := Nat.lt_of_lt_of_le hg0 hbw.size
      go_wp2_with fail
      refine (HF1.out _ HS.out).mono ?_
      rintro e w3 ⟨rfl, hb3⟩
      have hbw3 := below_step hbw hb3
      rcases hfi with ⟨k1, _⟩ | ⟨k1, k2, _⟩
      · have hxn : ¬ 0 ≤ x := by omega
        have hd1 : decide (0 ≤ x) = false := decide_eq_false hxn
        have HQF : Hid (Quiet (difB l z) f (f + 21600)) := fun v a b q => by
          by_cases h : v ≤ u
          · exact HQU.out v (by omega) h q
          · exact HFN.out (by omega) (f + 21600) v (by omega) b q
        have hbz : 0 ≤ b := by omega
        have hbd := bord_cases l (t := b) hbz
        go_wp2_with fail
        refine (refBorder_any l _ b _ (HIS.out.below hbw3)).mono ?_
        rintro e w5 ⟨rfl, hb5⟩
        have hbw5 := below_step hbw3 hb5
        generalize bordF l b = b' at *
        rcases hbd with ⟨rfl, hne⟩ | ⟨e1, e2, hne, hcn⟩
        · have HE := Lib.hid (HRES.out (-1) ((HQ.out.trans (ref_quiet f0 bf fb hne (by omega) HQF.out)).none (by omega)))
          clear hne
          go_wp2_with fail
          go_ret
          exact ⟨ret_int HE.out.symm, below_step hb0 hbw5⟩
        · have HQ2 := Lib.hid (HQ.out.trans (ref_quiet f0 bf fb hne e1 HQF.out))
          have q5 : IntKind.i64.wrap (b' - 1) = b' - 1 := IntWalk.i64_in _ (by omega)
          clear hne
          go_wp2_with fail
          go_roundw
          case measure => simp [intOf]; omega
          case rel => exact ⟨b' - 1, b', r + 1, rfl, rfl, by go_num, by omega, by omega, by omega, by omega, e2, by omega, HQ2, hbw5⟩
      · have hxp : 0 ≤ x := by omega
        have hd1 : decide (0 ≤ x) = true := decide_eq_true hxp
        have HQX := Lib.hid (HQU.out.trans (HFQ.out hxp))
        have z1 : ∀ j, w3.cell? ⟨w.heap.size, j, none⟩ = (#[.int .i64 z.off, .bool z.sum] : Array Value)[j]? := fun j => ((bcell hb3).1 _ _ y2).trans (y1 j)
        have z2 : w.heap.size < w3.heap.size := Nat.lt_of_lt_of_le y2 hb3.size
        go_wp2_with fail
        refine (HF1.out _ (HS.out.below hb3)).mono ?_
        rintro e w4 ⟨rfl, hb4⟩
        have hb34 := below_step hb3 hb4
        have hbw4 := below_step hbw hb34
        have v1 : ∀ j, w4.cell? ⟨w.heap.size, j, none⟩ = (#[.int .i64 z.off, .bool z.sum] : Array Value)[j]? := fun j => ((bcell hb4).1 _ _ z2).trans (z1 j)
        have v2 : w.heap.size < w4.heap.size := Nat.lt_of_lt_of_le z2 hb4.size
        have HS4 := Lib.hid (HS.out.below hb34)
        clear y1 y2 z1 z2 hb3 hb4 hb34 hbw3 hbw
        by_cases hxf : x ≤ f + 21600
        · have hbr := Below.refl w4.heap.size w4
          cases hdx : difB l z x with
          | true =>
            have HE := Lib.hid (HRES.out x (HQX.out.found (by omega) k2 hdx))
            have HDC : Hid (∀ w', IsSl w' 8 (.slice A l.length c) (l.map ConR.cells) → Calls Tryd.prog 43 #[.slice A l.length c, .agg #[.int .i64 z.off, .bool z.sum], .int .i64 x] w' fun e w'' => e = .returned (.bool true) ∧ Below w'.heap.size w' w'') := fun w' h => by
              have := refDiffers_any l _ z x w' h hxp (by omega)
              rw [hdx] at this
              exact this
            clear hdx
            go_wp2_with fail
            (refine wp_region_kept w4 (by kernel_rfl) (by kernel_rfl) (by assumption) ?_; (repeat (go_big_quiet_step ((first | (go_at_call 42; exact kept_call (HF1.out _ (HS4.out.below (after_kept _).2))) | (go_at_call 43; exact kept_call (HDC.out _ (HIS.out.below (below_step hbw4 (after_kept _).2)))))))); refine wpQuiet_nil ?_; intro _ hw'; obtain ⟨x9, hw''⟩ := hw'; subst hw''; have hk9 := after_kept x9; generalize after x9 = w9 at *)
            obtain ⟨hc9, hb9⟩ := hk9
            go_wp2_with fail
            refine (HF1.out _ (HS4.out.below hb9)).mono ?_
            rintro e w6 ⟨rfl, hb6⟩
            go_wp2_with fail
            go_ret
            exact ⟨ret_int HE.out.symm, below_step hb0 (below_step hbw4 (below_step hb9 hb6))⟩
          | false =>
            have HQ3 := Lib.hid (HQX.out.with hdx)
            have HDC : Hid (∀ w', IsSl w' 8 (.slice A l.length c) (l.map ConR.cells) → Calls Tryd.prog 43 #[.slice A l.length c, .agg #[.int .i64 z.off, .bool z.sum], .int .i64 x] w' fun e w'' => e = .returned (.bool false) ∧ Below w'.heap.size w' w'') := fun w' h => by
              have := refDiffers_any l _ z x w' h hxp (by omega)
              rw [hdx] at this
              exact this
            clear hdx
            go_wp2_with fail
            (refine wp_region_kept w4 (by kernel_rfl) (by kernel_rfl) (by assumption) ?_; (repeat (go_big_quiet_step ((first | (go_at_call 42; exact kept_call (HF1.out _ (HS4.out.below (after_kept _).2))) | (go_at_call 43; exact kept_call (HDC.out _ (HIS.out.below (below_step hbw4 (after_kept _).2)))))))); refine wpQuiet_nil ?_; intro _ hw'; obtain ⟨x9, hw''⟩ := hw'; subst hw''; have hk9 := after_kept x9; generalize after x9 = w9 at *)
            obtain ⟨hc9, hb9⟩ := hk9
            have s1 : ∀ j, w9.cell? ⟨w.heap.size, j, none⟩ = (#[.int .i64 z.off, .bool z.sum] : Array Value)[j]? := fun j => (hc9 _ _ v2).trans (v1 j)
            have s2' : w.heap.size < w9.heap.size := Nat.lt_of_lt_of_le v2 hb9.size
            have hbw9 := below_step hbw4 hb9
            have HS9 := Lib.hid (HS4.out.below hb9)
            clear hc9 v1 v2 hb9 hbr
            go_wp2_with fail
            go_region_with ((first
              | (go_at_call 44; refine (HLT.out _ x HX.out hxp (HIS.out.below hbw7) (HS9.out.below hb97)).mono ?_; rintro e w8 ⟨s8, rfl, hs8, hb8⟩; have hbw8 := below_step hbw7 hb8)
              | (go_at_call 42; refine (HF1.out _ (HS9.out.below (Below.refl _ _).drew)).mono ?_; rintro e w7 ⟨rfl, hb7⟩; have hb97 := below_step (Below.refl w9.heap.size w9).drew hb7; have hbw7 := below_step hbw9 hb97; obtain ⟨hc7, hf7⟩ := bcell hb97)))
            all_goals
              have hin : InnerSt W0 l z t f s8 w8 x := ⟨by omega, k2, HQ3.out, hs8, hbw8⟩
              go_wp2_with fail
              (try go_simp)
              go_roundw
              case measure =>
                rw [HME.out]
                have := (mesE_is ⟨x, hin⟩).2 x hin
                omega
              case rel => exact ⟨x, hin⟩
        · have HQF : Hid (Quiet (difB l z) f (f + 21600)) := fun v a b q => HQX.out v (by omega) (by omega) q
          have hbz : 0 ≤ b := by omega
          have hbd := bord_cases l (t := b) hbz
          go_wp2_with fail
          refine (refBorder_any l _ b _ (HIS.out.below hbw4)).mono ?_
          rintro e w5 ⟨rfl, hb5⟩
          have hbw5 := below_step hbw4 hb5
          generalize bordF l b = b' at *
          rcases hbd with ⟨rfl, hne⟩ | ⟨e1, e2, hne, hcn⟩
          · have HE := Lib.hid (HRES.out (-1) ((HQ.out.trans (ref_quiet f0 bf fb hne (by omega) HQF.out)).none (by omega)))
            clear hne
            go_wp2_with fail
            go_ret
            exact ⟨ret_int HE.out.symm, below_step hb0 hbw5⟩
          · have HQ2 := Lib.hid (HQ.out.trans (ref_quiet f0 bf fb hne e1 HQF.out))
            have q5 : IntKind.i64.wrap (b' - 1) = b' - 1 := IntWalk.i64_in _ (by omega)
            clear hne
            go_wp2_with fail
            go_roundw
            case measure => simp [intOf]; omega
            case rel => exact ⟨b' - 1, b', r + 1, rfl, rfl, by go_num, by omega, by omega, by omega, by omega, e2, by omega, HQ2, hbw5⟩

end Go.Proofs.YtpknjblgbpndlaaDoor
