/-
  Walks: the law TokenFinds.
-/
import Derived.Test.YtkbkemjghbajiaaDoorPFinds
import Derived.Test.YtkbkemjghbajiaaDoorAscCase
namespace Go.Proofs.YtkbkemjghbajiaaDoor
open Go.RowKit Go.Lib Go.Joins
attribute [local go_sem] after_cell
set_option linter.unusedVariables false

theorem capU_idem (b : UInt8) : capU (capU b) = capU b := by
  apply UInt8.toNat_inj.1
  have h1 := capU_capI b
  have h2 := capU_capI (capU b)
  rw [h1] at h2
  unfold capI at h1 h2
  (repeat' split at h1) <;> (repeat' split at h2) <;> omega
theorem capCap (l : List UInt8) : capL (capL l) = capL l := by
  unfold capL
  rw [List.map_map]
  exact List.map_congr_left (fun b _ => capU_idem b)

def idsF (t : Tok) (k : Nat) : ByteArray := if k = 0 then t.id else if k = 1 then capS t.id else lowS t.id
theorem idsF_cap (t : Tok) (k : Nat) : capL (idsF t k).data.toList = capL t.id.data.toList := by
  unfold idsF
  split
  · rfl
  · split
    · rw [capS_data]; exact capCap _
    · exact cap_low _

set_option maxRecDepth 100000 in
set_option maxHeartbeats 6400000 in
theorem lawFinds (l : List OpT) (v : Value) (t : Tok) (w : World) (hv : IsSl w 7 v (l.map OpT.cells)) (hs : ∀ o ∈ l, o.tok.fits) (hft : t.fits) :
    Calls Tryd.prog 3 #[v, .agg #[.string t.id, .string t.group, .string t.contract, .int .i64 t.kind, .int .i64 t.status, .int .i64 t.expiry]] w fun e w' => e = .returned (.bool true) ∧ Below w.heap.size w w' := by
  obtain ⟨A, c, rfl, hlc, hcm, hsl0⟩ := islen' hv
  have HS := Lib.hid hs
  unfold maxLen at hcm
  have hlm : l.length ≤ 9223372036854775807 := by omega
  clear hv hs hcm hlc
  obtain ⟨W0, hW0, hb0, hg0, hx0⟩ := box1 w #[.string t.id, .string t.group, .string t.contract, .int .i64 t.kind, .int .i64 t.status, .int .i64 t.expiry] 24
  have hsl := hsl0.below hb0
  clear hsl0
  by_cases hlen : 100 < l.length
  · skip
    go_enter Tryd.func3, Tryd.ntmps3
    go_wp2_with fail
    rw [← hW0]
    clear hW0
    refine (tokExample_any _).mono ?_
    rintro e w9 ⟨rfl, hb9⟩
    go_wp2_with fail
    go_ret
    exact ⟨rfl, below_step hb0 hb9⟩
  have hlen' : l.length ≤ 100 := by omega
  clear hlen hlm
  cases hq : longTB t with
  | true =>
    go_enter Tryd.func3, Tryd.ntmps3
    go_wp2_with fail
    rw [← hW0]
    clear hW0
    refine (longTok_any t _ hft).mono ?_
    rintro e w1 ⟨rfl, hb1⟩
    rw [hq]
    go_wp2_with fail
    refine (tokExample_any _).mono ?_
    rintro e w9 ⟨rfl, hb9⟩
    go_wp2_with fail
    go_ret
    exact ⟨rfl, below_step hb0 (below_step hb1 hb9)⟩
  | false =>
  have hsm := (longT_iff t).1 hq
  go_enter Tryd.func3, Tryd.ntmps3
  go_wp2_with fail
  rw [← hW0]
  clear hW0
  refine (longTok_any t _ hft).mono ?_
  rintro e w1 ⟨rfl, hb1⟩
  rw [hq]
  clear hq
  go_wp2_with fail
  go_loopw [5, 26] (fun ua i wr => ∃ k : Nat, k ≤ l.length ∧ i = .int .i64 k ∧ Below W0.heap.size W0 wr ∧ Hid (IsSl wr 6 ua ((playT (l.take k)).map Tok.cells))) (fun _ i _ => l.length - (intOf i).toNat)
  case atStart => exact ⟨0, by omega, rfl, hb1, IsSl.nil _ _⟩
  case round =>
    obtain ⟨k, hk, rfl, hbw, HA⟩ := hrel
    obtain ⟨hc, hf⟩ := bcell hbw
    by_cases hlt : k < l.length
    · have hki : (k : Int) < (l.length : Int) := by omega
      have HT := Lib.hid (playT_take hlt)
      have HG := Lib.hid (GoodT.play (l := l.take k) (fun o ho => HS.out o (List.mem_of_mem_take ho)))
      have hxf := HS.out _ (List.getElem_mem hlt)
      obtain ⟨b, off, rfl, hbb, c0, c1, c2, c3, c4, c5, c6⟩ := opt_at (hsl.below hbw) hlt
      generalize hx : l[k] = x at *
      clear hx
      generalize playT (l.take k) = L at *
      have hLl := HG.out.len
      have HLF := Lib.hid HG.out.fits
      cases hq : longTB x.tok with
      | true =>
        go_wp2_with fail
        refine (longTok_any x.tok _ hxf).mono ?_
        rintro e w2 ⟨rfl, hb2⟩
        rw [hq]
        go_wp2_with fail
        refine (tokExample_any _).mono ?_
        rintro e w9 ⟨rfl, hb9⟩
        go_wp2_with fail
        go_ret
        exact ⟨rfl, below_step hb0 (below_step hbw (below_step hb2 hb9))⟩
      | false =>
        cases hd : x.drop with
        | true =>
          have HP : Hid (stepT L x = dropTL L x.tok.id) := by unfold Hid stepT; rw [hd]; rfl
          rw [hd] at c0
          go_wp2_with fail
          refine (longTok_any x.tok _ hxf).mono ?_
          rintro e w2 ⟨rfl, hb2⟩
          rw [hq]
          have hbr := hb2
          replace hbw := hbw.trans (hb2.mono hbw.size)
          replace HA := Lib.hid (HA.out.below hb2)
          clear hc hf hb2
          obtain ⟨hc, hf⟩ := bcell hbr
          go_wp2_with fail
          refine (drop_any L _ x.tok.id _ (by omega) HA.out HLF.out).mono ?_
          rintro e w3 ⟨ua, rfl, ha, hb3⟩
          replace hbw := hbw.trans (hb3.mono hbw.size)
          go_wp2_with fail
          go_roundw
          case measure => simp [intOf]; omega
          case rel => exact ⟨k + 1, by omega, by go_num, hbw, by show IsSl _ _ _ _; rw [HT.out, HP.out]; exact ha⟩
        | false =>
          have HP : Hid (stepT L x = putTL L x.tok) := by unfold Hid stepT; rw [hd]; rfl
          rw [hd] at c0
          go_wp2_with fail
          refine (longTok_any x.tok _ hxf).mono ?_
          rintro e w2 ⟨rfl, hb2⟩
          rw [hq]
          have hbr := hb2
          replace hbw := hbw.trans (hb2.mono hbw.size)
          replace HA := Lib.hid (HA.out.below hb2)
          clear hc hf hb2
          obtain ⟨hc, hf⟩ := bcell hbr
          go_wp2_with fail
          refine (tput_any L _ x.tok _ (by omega) HA.out HLF.out hxf).mono ?_
          rintro e w3 ⟨ua, rfl, ha, hb3⟩
          replace hbw := hbw.trans (hb3.mono hbw.size)
          go_wp2_with fail
          go_roundw
          case measure => simp [intOf]; omega
          case rel => exact ⟨k + 1, by omega, by go_num, hbw, by show IsSl _ _ _ _; rw [HT.out, HP.out]; exact ha⟩
    · have ha := HA.out
      rw [playT_full hlt] at ha
      have HG := Lib.hid (GoodT.play HS.out)
      have hLl := Nat.le_trans (playT_len l) hlen'
      generalize playT l = L at *
      have HLF := Lib.hid HG.out.fits
      have HM := Lib.hid (HG.out.put hft)
      clear HA
      go_wp2_with fail
      refine (tput_any L _ t _ (by omega) ha HLF.out hft).mono ?_
      rintro e w2 ⟨ub, rfl, hu2, hb2⟩
      replace hbw := hbw.trans (hb2.mono hbw.size)
      clear hc hf
      obtain ⟨hc, hf⟩ := bcell hbw
      by_cases hpe : putTE L t = 0
      rotate_left 1
      · obtain ⟨e1, e2⟩ := put_err hLl hpe
        have hne : (putTE L t != 0) = true := by simpa using hpe
        have hev : (putTE L t == validT t) = true := by simpa using e1
        rw [e2] at hu2
        replace ha := ha.below hb2
        clear e1 e2
        go_wp2_with fail
        refine (tvalid_any t _ hft).mono ?_
        rintro e w3 ⟨rfl, hb3⟩
        go_wp2_with fail
        refine (tokEqual_any L L _ _ _ (by omega) (by omega) (ha.below hb3) (hu2.below hb3)).mono ?_
        rintro e w4 ⟨rfl, hb4⟩
        replace hb4 := drewN_below hb4
        rw [tokEqL_t rfl]
        go_wp2_with fail
        refine (tokExample_any _).mono ?_
        rintro e w9 ⟨rfl, hb9⟩
        go_wp2_with fail
        go_ret
        exact ⟨rfl, below_step hb0 (below_step hbw (below_step hb3 (below_step hb4 hb9)))⟩
      · have hne : (putTE L t != 0) = false := by simpa using hpe
        have hval := valid_asc (valid_id (put_valid hpe))
        have HPF := Lib.hid (fun (id : ByteArray) (hk : capL id.data.toList = capL t.id.data.toList) => put_found HG.out.sorted hpe hk)
        have HPD := Lib.hid (put_drop HG.out.sorted hpe (id := lowS t.id) (cap_low _))
        have hbr := Below.refl w2.heap.size w2
        have hgx : w.heap.size < w2.heap.size := Nat.lt_of_lt_of_le hg0 hbw.size
        have HU2 := Lib.hid hu2
        clear hu2 ha
        go_wp2_with fail
        go_region_held3 (fun w' => (∀ b o, b < w2.heap.size → w'.cell? ⟨b, o, none⟩ = w2.cell? ⟨b, o, none⟩) ∧ Below w2.heap.size w2 w') (first | exact ⟨(bcell (W := w2) (by assumption)).1, by assumption⟩ | exact ⟨(bcell (W := w2) (Below.drew (by assumption))).1, Below.drew (by assumption)⟩ | exact ⟨(bcell (W := w2) (below_alloc (by assumption) _)).1, below_alloc (by assumption) _⟩) ((first | (go_at_call 11; refine (upperA_any t.id _ hsm.1 hval).mono ?_; rintro e w4 ⟨rfl, hb4⟩; have hb4' := below_step (w := w2) (And.right (by assumption)) hb4) | (go_at_call 12; refine (lowerA_any t.id _ hsm.1 hval).mono ?_; rintro e w5 ⟨rfl, hb5⟩; have hb5' := below_step (w := w2) (And.right (by assumption)) hb5)))
        all_goals
          first
            | (have _z : Below w4.heap.size w4 w5 := hb5; generalize w5 = wl at *)
            | (generalize w4 = wl at *)
          have hbl : Below w2.heap.size w2 wl := by assumption
          obtain ⟨W6, hW6, hb6, hg6, hx6⟩ := box1 wl #[.string t.id, .string (capS t.id), .string (lowS t.id)] 9
          go_wp2_with fail
          rw [← hW6]
          have hb26 := below_step hbl hb6
          have hb06 := below_step hbw hb26
          have HU6 := Lib.hid (HU2.out.below hb26)
          have HMF := Lib.hid HM.out.fits
          have hlp := HM.out.len
          have heg := fun w => run_eqGuard_agg (P := Tryd.prog) w .neq 24 (.tmp 106) (.tmp 107) #[.string t.id, .string t.group, .string t.contract, .int .i64 t.kind, .int .i64 t.status, .int .i64 t.expiry] #[.string t.id, .string t.group, .string t.contract, .int .i64 t.kind, .int .i64 t.status, .int .i64 t.expiry] Tryd.eqGuardType24
          have hnq := tokNeq_run t t
          rw [show tokEqX t t = true from (tokEqX_iff _ _).2 rfl] at hnq
          clear hW6 hc hf hbl hb26 hbr hgx HU2
          go_loopw [93] (fun i wr => ∃ k : Nat, k ≤ 3 ∧ i = .int .i64 k ∧ Below W6.heap.size W6 wr) (fun i _ => 3 - (intOf i).toNat)
          case atStart => exact ⟨0, by omega, rfl, Below.refl _ _⟩
          case round =>
          obtain ⟨k, hk, rfl, hbq⟩ := hrel
          obtain ⟨hc6, hf6⟩ := bcell hbq
          obtain ⟨hc0, hf0⟩ := bcell (below_step hb06 hbq)
          have HUr := Lib.hid (HU6.out.below hbq)
          rcases (by omega : k = 0 ∨ k = 1 ∨ k = 2 ∨ k = 3) with rfl | rfl | rfl | rfl
          · skip
            go_wp2_with fail
            refine (find_any (putTL L t) _ t.id _ (by omega) HUr.out HMF.out).mono ?_
            rintro e w7 ⟨rfl, hb7⟩
            rw [(HPF.out t.id (idsF_cap t 0)).1, (HPF.out t.id (idsF_cap t 0)).2]
            replace hbq := hbq.trans (hb7.mono hbq.size)
            clear hc6 hf6 hc0 hf0
            obtain ⟨hc0, hf0⟩ := bcell (below_step hb06 hbq)
            have hg7 : w.heap.size < w7.heap.size := Nat.lt_of_lt_of_le hg0 (below_step hb06 hbq).size
            go_wp2_with fail
            go_roundw
            case measure => simp [intOf]
            case rel => exact ⟨1, by omega, by go_num, by repeat (first | exact hbq | refine below_alloc ?_ _ | refine below_drew ?_ | refine below_drewN ?_ _)⟩
          · skip
            go_wp2_with fail
            refine (find_any (putTL L t) _ (capS t.id) _ (by omega) HUr.out HMF.out).mono ?_
            rintro e w7 ⟨rfl, hb7⟩
            rw [(HPF.out (capS t.id) (idsF_cap t 1)).1, (HPF.out (capS t.id) (idsF_cap t 1)).2]
            replace hbq := hbq.trans (hb7.mono hbq.size)
            clear hc6 hf6 hc0 hf0
            obtain ⟨hc0, hf0⟩ := bcell (below_step hb06 hbq)
            have hg7 : w.heap.size < w7.heap.size := Nat.lt_of_lt_of_le hg0 (below_step hb06 hbq).size
            go_wp2_with fail
            go_roundw
            case measure => simp [intOf]
            case rel => exact ⟨2, by omega, by go_num, by repeat (first | exact hbq | refine below_alloc ?_ _ | refine below_drew ?_ | refine below_drewN ?_ _)⟩
          · skip
            go_wp2_with fail
            refine (find_any (putTL L t) _ (lowS t.id) _ (by omega) HUr.out HMF.out).mono ?_
            rintro e w7 ⟨rfl, hb7⟩
            rw [(HPF.out (lowS t.id) (idsF_cap t 2)).1, (HPF.out (lowS t.id) (idsF_cap t 2)).2]
            replace hbq := hbq.trans (hb7.mono hbq.size)
            clear hc6 hf6 hc0 hf0
            obtain ⟨hc0, hf0⟩ := bcell (below_step hb06 hbq)
            have hg7 : w.heap.size < w7.heap.size := Nat.lt_of_lt_of_le hg0 (below_step hb06 hbq).size
            go_wp2_with fail
            go_roundw
            case measure => simp [intOf]
            case rel => exact ⟨3, by omega, by go_num, by repeat (first | exact hbq | refine below_alloc ?_ _ | refine below_drew ?_ | refine below_drewN ?_ _)⟩
          · obtain ⟨A2, c2, rfl, hlc2, hcm2, hsl2⟩ := islen' HUr.out
            go_wp2_with fail
            refine (lowerA_any t.id _ hsm.1 hval).mono ?_
            rintro e w7 ⟨rfl, hb7⟩
            have HU7 := Lib.hid (HUr.out.below hb7)
            replace hbq := hbq.trans (hb7.mono hbq.size)
            clear hc6 hf6 hc0 hf0 HUr
            obtain ⟨hc0, hf0⟩ := bcell (below_step hb06 hbq)
            go_wp2_with fail
            refine (drop_any (putTL L t) _ (lowS t.id) _ (by omega) HU7.out HMF.out).mono ?_
            rintro e w8 ⟨uc, rfl, hc8, hb8⟩
            obtain ⟨A3, c3, rfl, hlc3, hcm3, hsl3⟩ := islen' hc8
            rw [HPD.out.1]
            replace hbq := hbq.trans (hb8.mono hbq.size)
            clear hc0 hf0
            obtain ⟨hc0, hf0⟩ := bcell (below_step hb06 hbq)
            have hfd := HPD.out.2.2
            have hld := HPD.out.2.1
            have hle : ((dropTL (putTL L t) (lowS t.id)).length : Int) = ((putTL L t).length : Int) - 1 := by omega
            have hlq : (((dropTL (putTL L t) (lowS t.id)).length : Int) == ((putTL L t).length : Int) - 1) = true := by simpa using hle
            have HDF := Lib.hid (HM.out.drop (lowS t.id)).fits
            go_wp2_with fail
            refine (find_any (dropTL (putTL L t) (lowS t.id)) _ t.id _ (by omega) hc8 HDF.out).mono ?_
            rintro e w9 ⟨rfl, hb9⟩
            rw [hfd]
            replace hbq := hbq.trans (hb9.mono hbq.size)
            go_wp2_with fail
            go_ret
            exact ⟨rfl, below_step hb0 (by repeat (first | exact below_step hb06 hbq | refine below_alloc ?_ _ | refine below_drew ?_ | refine below_drewN ?_ _))⟩

end Go.Proofs.YtkbkemjghbajiaaDoor
