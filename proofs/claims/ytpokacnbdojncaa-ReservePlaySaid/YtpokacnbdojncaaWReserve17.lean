/-
  Walks: the law ReservePlay.
-/
import Derived.Test.YtpokacnbdojncaaWReserve15
import Derived.Test.YtpokacnbdojncaaWReserve10
namespace Go.Proofs.Ytpokacnbdojncaa
open Go.RowKit Go.Lib Go.Joins
set_option linter.unusedVariables false

set_option maxRecDepth 100000 in
set_option maxHeartbeats 6400000 in
theorem lawPlay (l : List OpR) (v : Value) (w : World) (hv : IsSl w 7 v (l.map OpR.cells)) (hs : ∀ o ∈ l, o.fits) :
    Calls Try.prog 4 #[v] w fun e w' => e = .returned (.bool true) ∧ Below w.heap.size w w' := by
  cases hq : longLB l with
  | true =>
    go_enter Try.func4, Try.ntmps4
    go_wp2_with fail
    refine (longOps_any l v _ hv hs).mono ?_
    rintro e w1 ⟨rfl, hb⟩
    rw [hq]
    go_wp2_with fail
    refine (example_any _).mono ?_
    rintro e w2 ⟨rfl, hb2⟩
    go_wp2_with fail
    go_ret
    exact ⟨rfl, below_step hb hb2⟩
  | false =>
    obtain ⟨hl, ho⟩ := longL_f hq
    go_enter Try.func4, Try.ntmps4
    go_wp2_with fail
    refine (longOps_any l v _ hv hs).mono ?_
    rintro e w1 ⟨rfl, hb⟩
    rw [hq]
    replace hv := hv.below hb
    obtain ⟨A, c, rfl, hlc, hcm, hsl⟩ := hv
    rw [List.length_map] at *
    have HO := Lib.hid ho
    clear ho hlc hcm hs
    go_wp2_with fail
    go_loopw [3, 4, 18] (fun ua ub i wr => ∃ k : Nat, k ≤ l.length ∧ i = .int .i64 k ∧ Below w1.heap.size w1 wr ∧ Hid (IsSl wr 5 ua ((playL (l.take k)).map Resv.cells)) ∧ Hid (IsSl wr 5 ub ((playL (l.take k)).map Resv.cells))) (fun _ _ i _ => l.length - (intOf i).toNat)
    case atStart => exact ⟨0, by omega, rfl, Below.refl _ _, IsSl.nil _ _, IsSl.nil _ _⟩
    case round =>
      obtain ⟨k, hk, rfl, hbw, HA, HB⟩ := hrel
      by_cases hlt : k < l.length
      · have HT := Lib.hid (play_take hlt)
        have hpl : (playL (l.take k)).length ≤ 100 := by
          have h1 := play_len (l.take k)
          have h2 : (l.take k).length ≤ k := List.length_take_le _ _
          omega
        have HG := Lib.hid (Good.play (l := l.take k) (fun o ho => HO.out o (List.mem_of_mem_take ho)))
        have hsx := stepL_len (playL (l.take k)) l[k]
        have hr := HO.out _ (List.getElem_mem hlt)
        have hki : (k : Int) < (l.length : Int) := by omega
        obtain ⟨b, off, rfl, hbl, c0, c1, c2, c3, c4, c5, c6⟩ := op_at (hsl.below hbw) hlt
        have hc12 : wr.cell? ⟨b, off + k * 7 + 2, none⟩ = some (.int .i64 l[k].r.conn) := c2
        have hc13 : wr.cell? ⟨b, off + k * 7 + 3, none⟩ = some (.string l[k].r.token) := c3
        have hc14 : wr.cell? ⟨b, off + k * 7 + 4, none⟩ = some (.string l[k].r.group) := c4
        have hc15 : wr.cell? ⟨b, off + k * 7 + 5, none⟩ = some (.int .i64 l[k].r.expiry) := c5
        clear c2 c3 c4 c5
        generalize hx : l[k] = x at *
        clear hx
        generalize playL (l.take k) = L at *
        obtain ⟨W1, hW1, hb1, hg1, hbx⟩ := box1 wr #[.int .i64 x.kind, .int .i64 x.r.id, .int .i64 x.r.conn, .string x.r.token, .string x.r.group, .int .i64 x.r.expiry, .int .i64 x.now] 32
        have HA1 := Lib.hid (HA.out.below hb1)
        have HB1 := Lib.hid (HB.out.below hb1)
        replace hbw := below_step hbw hb1
        by_cases h1 : x.kind = 1
        · have q1 : (x.kind == 1) = true := by simpa using h1
          have HP : Hid (stepL L x = putL L x.r x.now) := by unfold Hid stepL; rw [if_pos h1]
          rw [HP.out] at hsx
          have hee : (putE L x.r x.now != putE L x.r x.now) = false := by simp
          clear h1
          go_wp2_with fail
          rw [← hW1]
          clear hW1
          refine (put_any L _ x.r x.now _ (by omega) HA1.out hr).mono ?_
          rintro e w2 ⟨ua, rfl, ha, hb2⟩
          obtain ⟨hc, hf⟩ := bcell hb2
          have hz2 := hb2.size
          have hz3 : wr.heap.size < w2.heap.size := by omega
          go_wp2_with fail
          refine (refPut_any L _ x.r x.now _ (by omega) (HB1.out.below hb2) hr HG.out.ids).mono ?_
          rintro e w3 ⟨ub, rfl, hb', hb3⟩
          replace ha := ha.below hb3
          replace hbw := below_step hbw (below_step hb2 hb3)
          go_wp2_with fail
          refine (equal_any (putL L x.r x.now) (putL L x.r x.now) _ _ _ (by omega) (by omega) ha hb').mono ?_
          rintro e w9 ⟨rfl, hb9⟩
          replace hb9 := drewN_below hb9
          rw [eqL_t rfl]
          go_wp2_with fail
          go_roundw
          case measure => simp [intOf]; omega
          case rel => exact ⟨k + 1, by omega, by go_num, below_step hbw hb9, by show IsSl _ _ _ _; rw [HT.out, HP.out]; exact ha.below hb9, by show IsSl _ _ _ _; rw [HT.out, HP.out]; exact hb'.below hb9⟩
        · have q1 : (x.kind == 1) = false := by simpa using h1
          by_cases h2 : x.kind = 2
          · have q2 : (x.kind == 2) = true := by simpa using h2
            have HP : Hid (stepL L x = restL L x.r.id) := by unfold Hid stepL; rw [if_neg h1, if_pos h2]
            rw [HP.out] at hsx
            have hee : (cancE L x.r.id != cancE L x.r.id) = false := by simp
            clear h1 h2
            go_wp2_with fail
            rw [← hW1]
            clear hW1
            go_wp2_with fail
            refine (cancel_any L _ x.r.id _ (by omega) HA1.out).mono ?_
            rintro e w2 ⟨ua, rfl, ha, hb2⟩
            obtain ⟨hc, hf⟩ := bcell hb2
            have hz2 := hb2.size
            have hz3 : wr.heap.size < w2.heap.size := by omega
            go_wp2_with fail
            refine (refCancel_any L _ x.r.id _ (by omega) (HB1.out.below hb2)).mono ?_
            rintro e w3 ⟨ub, rfl, hb', hb3⟩
            replace ha := ha.below hb3
            replace hbw := below_step hbw (below_step hb2 hb3)
            go_wp2_with fail
            refine (equal_any (restL L x.r.id) (restL L x.r.id) _ _ _ (by omega) (by omega) ha hb').mono ?_
            rintro e w9 ⟨rfl, hb9⟩
            replace hb9 := drewN_below hb9
            rw [eqL_t rfl]
            go_wp2_with fail
            go_roundw
            case measure => simp [intOf]; omega
            case rel => exact ⟨k + 1, by omega, by go_num, below_step hbw hb9, by show IsSl _ _ _ _; rw [HT.out, HP.out]; exact ha.below hb9, by show IsSl _ _ _ _; rw [HT.out, HP.out]; exact hb'.below hb9⟩
          · have q2 : (x.kind == 2) = false := by simpa using h2
            by_cases h3 : x.kind = 3
            · have q3 : (x.kind == 3) = true := by simpa using h3
              have HP : Hid (stepL L x = heldL L x.now) := by unfold Hid stepL; rw [if_neg h1, if_neg h2, if_pos h3]
              rw [HP.out] at hsx
              have hll : (lostL L x.now).length ≤ 1000000 := by have := held_len L x.now; omega
              clear h1 h2 h3
              go_wp2_with fail
              rw [← hW1]
              clear hW1
              go_wp2_with fail
              refine (expire_any L _ x.now _ (by omega) HA1.out).mono ?_
              rintro e w2 ⟨ua, na, rfl, ha, hna, hb2⟩
              obtain ⟨hc, hf⟩ := bcell hb2
              have hz2 := hb2.size
              have hz3 : wr.heap.size < w2.heap.size := by omega
              go_wp2_with fail
              refine (refExpire_any L _ x.now _ (by omega) (HB1.out.below hb2)).mono ?_
              rintro e w3 ⟨ub, nb, rfl, hb', hnb, hb3⟩
              replace ha := ha.below hb3
              replace hna := hna.below hb3
              replace hbw := below_step hbw (below_step hb2 hb3)
              go_wp2_with fail
              refine (equal_any (lostL L x.now) (lostL L x.now) _ _ _ hll hll hna hnb).mono ?_
              rintro e w4 ⟨rfl, hb4⟩
              replace hb4 := drewN_below hb4
              rw [eqL_t rfl]
              replace ha := ha.below hb4
              replace hb' := hb'.below hb4
              replace hbw := below_step hbw hb4
              go_wp2_with fail
              refine (equal_any (heldL L x.now) (heldL L x.now) _ _ _ (by omega) (by omega) ha hb').mono ?_
              rintro e w9 ⟨rfl, hb9⟩
              replace hb9 := drewN_below hb9
              rw [eqL_t rfl]
              go_wp2_with fail
              go_roundw
              case measure => simp [intOf]; omega
              case rel => exact ⟨k + 1, by omega, by go_num, below_step hbw hb9, by show IsSl _ _ _ _; rw [HT.out, HP.out]; exact ha.below hb9, by show IsSl _ _ _ _; rw [HT.out, HP.out]; exact hb'.below hb9⟩
            · have q3 : (x.kind == 3) = false := by simpa using h3
              have HP : Hid (stepL L x = L) := by unfold Hid stepL; rw [if_neg h1, if_neg h2, if_neg h3]
              have ha := HA1.out
              have hb' := HB1.out
              clear h1 h2 h3
              go_wp2_with fail
              rw [← hW1]
              clear hW1
              go_wp2_with fail
              refine (equal_any L L _ _ _ (by omega) (by omega) ha hb').mono ?_
              rintro e w9 ⟨rfl, hb9⟩
              replace hb9 := drewN_below hb9
              rw [eqL_t rfl]
              go_wp2_with fail
              go_roundw
              case measure => simp [intOf]; omega
              case rel => exact ⟨k + 1, by omega, by go_num, below_step hbw hb9, by show IsSl _ _ _ _; rw [HT.out, HP.out]; exact ha.below hb9, by show IsSl _ _ _ _; rw [HT.out, HP.out]; exact hb'.below hb9⟩
      · go_wp2_with fail
        refine (example_any _).mono ?_
        rintro e w3 ⟨rfl, hb3⟩
        go_wp2_with fail
        go_ret
        exact ⟨rfl, below_step (below_step hb hbw) hb3⟩

end Go.Proofs.Ytpokacnbdojncaa
