/-
  Walks: At of package limits.
-/
import Derived.Test.YtlpjniejbblcnaaDoorWLmt6K
import Derived.Test.YtlpjniejbblcnaaDoorM4
namespace Go.Proofs.YtlpjniejbblcnaaDoor
open Go.RowKit Go.Lib Go.Maps
attribute [local go_sem] after_cell
set_option linter.unusedVariables false

set_option maxRecDepth 100000 in
theorem limTime_any (t : Int) (w : World) : Calls Tryd.prog 39 #[.int .i64 t] w fun e w' => e = .returned (.bool (timeB t)) ∧ w = w' := by
  go_enter Tryd.func39, Tryd.ntmps39
  go_wp2
  all_goals go_ret
  all_goals exact ⟨ret_bool (by rw [Bool.eq_iff_iff, timeB_iff]; simp; omega), rfl⟩

/-- the error of At, and the caps -/
def atE (r : RulR) (t : Int) : Int := if limE r ≠ 0 then limE r else if timeB t = false then 2 else 0
noncomputable def atL (r : RulR) (t : Int) : List CapR := if atE r t = 0 then capsL r t else []
theorem atE_bad {r : RulR} {t : Int} (h : limE r ≠ 0) : atE r t = limE r := if_pos h
theorem atE_time {r : RulR} {t : Int} (h : limE r = 0) (g : timeB t = false) : atE r t = 2 := by unfold atE; rw [if_neg (by rw [h]; decide), if_pos g]
theorem atE_ok {r : RulR} {t : Int} (h : limE r = 0) (g : timeB t = true) : atE r t = 0 := by unfold atE; rw [if_neg (by rw [h]; decide), if_neg (by rw [g]; decide)]
theorem atL_none {r : RulR} {t : Int} (h : atE r t ≠ 0) : atL r t = [] := if_neg h
theorem atL_ok {r : RulR} {t : Int} (h : atE r t = 0) : atL r t = capsL r t := if_pos h
/-- what At hands back -/
def AtPost (w : World) (r : RulR) (t : Int) (e : Ending) (w' : World) : Prop := ∃ v, e = .returned (.tuple #[v, .int .i64 (atE r t)]) ∧ IsSl w' 4 v ((atL r t).map CapR.cells) ∧ Below w.heap.size w w'
theorem AtPost.mk {w : World} {r : RulR} {t c : Int} {L : List CapR} {v : Value} {w' : World} (h : atE r t = c) (hl : atL r t = L) (hs : IsSl w' 4 v (L.map CapR.cells)) (hb : Below w.heap.size w w') : AtPost w r t (.returned (.tuple #[v, .int .i64 c])) w' :=
  ⟨v, by rw [h], by rw [hl]; exact hs, hb⟩
/-- the first k caps are there -/
noncomputable def capsK (r : RulR) (t : Int) (k : Nat) : List CapR := (capsL r t).take k ++ List.replicate (r.S.F.length - k) zeroC
theorem capsK_len {r : RulR} {t : Int} {k : Nat} (h : k ≤ r.S.F.length) : (capsK r t k).length = r.S.F.length := by
  unfold capsK
  rw [List.length_append, List.length_take, capsL_len, List.length_replicate]; omega
theorem capsK_zero (r : RulR) (t : Int) : capsK r t 0 = List.replicate r.S.F.length zeroC := by unfold capsK; simp
theorem capsK_full (r : RulR) (t : Int) : capsK r t r.S.F.length = capsL r t := by
  unfold capsK
  rw [List.take_of_length_le (by rw [capsL_len]; exact Nat.le_refl _)]; simp
theorem capsK_at {r : RulR} {t : Int} {k : Nat} (h : k < r.S.F.length) : (capsK r t k)[k]? = some zeroC := by
  unfold capsK
  have hl : ((capsL r t).take k).length = k := by rw [List.length_take, capsL_len]; omega
  rw [List.getElem?_append_right (by omega), hl, Nat.sub_self, List.getElem?_replicate, if_pos (by omega)]
theorem capsK_set {r : RulR} {t : Int} {k : Nat} (h : k < r.S.F.length) : (capsK r t k).set k (capFd r t r.S.F[k] k) = capsK r t (k + 1) := by
  unfold capsK
  have hl : ((capsL r t).take k).length = k := by rw [List.length_take, capsL_len]; omega
  obtain ⟨m, hm⟩ : ∃ m, r.S.F.length - k = m + 1 := ⟨r.S.F.length - k - 1, by omega⟩
  have hm2 : r.S.F.length - (k + 1) = m := by omega
  rw [List.set_append_right _ _ (by omega), hl, Nat.sub_self, hm, List.replicate_succ, List.set_cons_zero, hm2, List.take_succ_eq_append_getElem (by rw [capsL_len]; exact h), capsL_at]
  simp
theorem capsK_step {r : RulR} {t : Int} {k : Nat} (h : k < r.S.F.length) : setAll ((capsK r t k).flatMap CapR.cells) (k * 4) (capFd r t r.S.F[k] k).cells = (capsK r t (k + 1)).flatMap CapR.cells := by
  rw [set_row CapR.cells_len (by omega) _ k (by rw [capsK_len (by omega)]; exact h), capsK_set h]

set_option maxRecDepth 100000 in
set_option maxHeartbeats 12800000 in
theorem limAt_any (r : RulR) (fv pv cv uv : Value) (t : Int) (w : World) (hv : LenV w) (hI : LimIn w r fv pv cv uv) :
    Calls Tryd.prog 18 #[.agg #[.string r.S.name, fv, pv, .int .i64 r.z.off, .bool r.z.sum, cv, uv], .int .i64 t] w (AtPost w r t) := by
  have HI := Lib.hid hI
  obtain ⟨A, B, C, D, a, b, c, d, rfl, rfl, rfl, rfl, hA⟩ := hI.ad
  obtain ⟨W0, hW0, hb0, hg0, hx0⟩ := box1 w #[.string r.S.name, .slice A r.S.F.length a, .slice B r.S.P.length b, .int .i64 r.z.off, .bool r.z.sum, .slice C r.C.length c, .slice D r.U.length d] 56
  have hfm := Nat.le_trans hA.lF.1 hA.lF.2
  unfold maxLen at hfm
  have HI0 := Lib.hid (HI.out.below hb0)
  have HV0 := Lib.hid (hv.below hb0)
  clear hA hI hv
  go_enter Tryd.func18, Tryd.ntmps18
  go_wp2_with fail
  rw [← hW0]
  clear hW0
  refine (limValid_any r _ _ _ _ W0 HI0.out).mono ?_
  rintro e w1 ⟨rfl, hb1⟩
  have y0 : ∀ j, w1.cell? ⟨w.heap.size, j, none⟩ = _ := fun j => (hb1.cell (p := ⟨w.heap.size, j, none⟩) hg0).trans (hx0 j)
  have y1 : w.heap.size < w1.heap.size := Nat.lt_of_lt_of_le hg0 hb1.size
  have HI1 := Lib.hid (HI0.out.below hb1)
  have HV1 := Lib.hid (HV0.out.below hb1)
  have hb01 := below_step hb0 hb1
  clear hx0 hg0 hb1 HI0 HV0
  by_cases he : limE r = 0
  · have HE := Lib.hid he
    have HOK := Lib.hid (LimOk.of he)
    rw [he]
    clear he
    cases ht : timeB t with
    | false =>
      have HAE := Lib.hid (atE_time HE.out ht)
      have HAL := Lib.hid (atL_none (r := r) (t := t) (by rw [HAE.out]; decide))
      have HT := Lib.hid ht
      clear ht
      go_wp2_with fail
      refine (limTime_any t _).mono ?_
      rintro e w2 ⟨rfl, rfl⟩
      rw [HT.out]
      go_wp2_with fail
      go_ret2
      exact AtPost.mk HAE.out HAL.out (IsSl.nil _ _) hb01
    | true =>
      have HAE := Lib.hid (atE_ok HE.out ht)
      have HAL := Lib.hid (atL_ok HAE.out)
      have HT := Lib.hid ht
      clear ht
      obtain ⟨i0, hi0, hz0, hz1, hz2⟩ := info_parts capInfo
      have hlen := HOK.out.lens.1
      have hmk := fun W => run_make_rowZ (P := Tryd.prog) 42 41 i0 _ Tryd.underlying42 hi0 hz0 .i64 .i64 r.S.F.length r.S.F.length (r.S.F.length : Int) (r.S.F.length : Int) rfl rfl (by omega) (by rw [hz2]; omega) (by omega) W
      rw [hz1] at hmk
      have HZC := Lib.hid (zero_cells r.S.F.length)
      generalize madeCells _ (r.S.F.length * 4) = ZC at hmk HZC
      have hb2 : Below w1.heap.size w1 (w1.alloc (.cells ZC 41)) := below_alloc (Below.refl _ _) _
      have z0 : ∀ j, (w1.alloc (.cells ZC 41)).cell? ⟨w.heap.size, j, none⟩ = _ := fun j => (hb2.cell (p := ⟨w.heap.size, j, none⟩) y1).trans (y0 j)
      have z1 : w.heap.size < (w1.alloc (.cells ZC 41)).heap.size := Nat.lt_of_lt_of_le y1 hb2.size
      have HB1 : Hid (Blk (w1.alloc (.cells ZC 41)) w1.heap.size 41 ((capsK r t 0).flatMap CapR.cells)) := by
        refine Blk.new' rfl _ _ ?_
        rw [HZC.out, capsK_zero]
      have hg2 : w1.heap.size < (w1.alloc (.cells ZC 41)).heap.size := by simp
      go_wp2_with fail
      refine (limTime_any t _).mono ?_
      rintro e w2 ⟨rfl, rfl⟩
      rw [HT.out]
      go_wp2_with fail
      generalize w1.alloc (.cells ZC 41) = W2 at *
      clear hmk HZC
      generalize hg : w1.heap.size = g at *
      go_loopw [24] (fun i wr => ∃ k : Nat, k ≤ r.S.F.length ∧ i = .int .i64 k ∧ Below g w1 wr ∧ g < wr.heap.size ∧ Hid (Blk wr g 41 ((capsK r t k).flatMap CapR.cells))) (fun i _ => r.S.F.length - (intOf i).toNat)
      case atStart => exact ⟨0, by omega, rfl, hb2, hg2, HB1⟩
      case round =>
        obtain ⟨k, hk, rfl, hbw, hgm, HB⟩ := hrel
        by_cases hlt : k < r.S.F.length
        · have hki : (k : Int) < (r.S.F.length : Int) := by omega
          have v0 : ∀ j, wr.cell? ⟨w.heap.size, j, none⟩ = _ := fun j => (hbw.cell (p := ⟨w.heap.size, j, none⟩) y1).trans (y0 j)
          have v1 : w.heap.size < wr.heap.size := by omega
          have hbw' : Below w1.heap.size w1 wr := by rw [hg]; exact hbw
          have HCA := Lib.hid (capAt_any r _ _ _ _ k t wr (HV1.out.below hbw') (HI1.out.below hbw') hlt HOK.out.rated)
          have HST := Lib.hid (capsK_step (t := t) hlt)
          have HAT := Lib.hid (fun j u hu => flat_at CapR.cells 4 CapR.cells_len (capsK r t k) k zeroC (capsK_at hlt) j u hu)
          generalize hx : r.S.F[k] = x at *
          clear hx
          go_wp2_with fail
          refine HCA.out.mono ?_
          rintro e w4 ⟨rfl, hb4⟩
          have HB4 := Lib.hid (HB.out.below hb4 hgm)
          have k0 := (HB4.out.cell (k * 4)).trans (HAT.out 0 _ rfl)
          have k1 := (HB4.out.cell (k * 4 + 1)).trans (HAT.out 1 _ rfl)
          have k2 := (HB4.out.cell (k * 4 + 2)).trans (HAT.out 2 _ rfl)
          have k3 := (HB4.out.cell (k * 4 + 3)).trans (HAT.out 3 _ rfl)
          have hf := fun j => HB4.out.free j
          have hg4 : g < w4.heap.size := Nat.lt_of_lt_of_le hgm hb4.size
          have hbw4 : Below g w1 w4 := hbw.trans (hb4.mono (Nat.le_of_lt hgm))
          generalize hcp : capF r.lim k t = cp at *
          go_wp2_with fail
          obtain ⟨w5, hw5⟩ : ∃ w5, w5 = storeRow w4 g (k * 4) [.int .i64 x.a, .int .i64 x.b, .int .i64 x.c, .int .i64 cp] := ⟨_, rfl⟩
          rw [show (((w4.setCell ⟨g, k * 4, none⟩ (.int .i64 x.a)).setCell ⟨g, k * 4 + 1, none⟩ (.int .i64 x.b)).setCell ⟨g, k * 4 + 2, none⟩ (.int .i64 x.c)).setCell ⟨g, k * 4 + 3, none⟩ (.int .i64 cp) = w5 from hw5.symm]
          have HB5 : Hid (Blk w5 g 41 ((capsK r t (k + 1)).flatMap CapR.cells)) := by
            rw [hw5]
            have := HB4.out.store [.int .i64 x.a, .int .i64 x.b, .int .i64 x.c, .int .i64 cp] (k * 4)
            rw [← HST.out]
            unfold capFd CapR.cells
            rw [hcp]
            exact this
          have hb5 : Below g w1 w5 := by rw [hw5]; exact storeRow_below (Nat.le_refl _) _ _ _ hbw4
          have hg5 : g < w5.heap.size := by rw [hw5, storeRow_size]; exact hg4
          go_roundw
          case measure => simp [intOf]; omega
          case rel => exact ⟨k + 1, by omega, by go_num, hb5, hg5, HB5⟩
        · have hki : ¬ (k : Int) < (r.S.F.length : Int) := by omega
          obtain rfl : k = r.S.F.length := by omega
          have HB2 := HB.out
          rw [capsK_full] at HB2
          have HB3 := Lib.hid HB2
          clear HB2
          go_wp2_with fail
          go_ret2
          exact AtPost.mk HAE.out HAL.out (Blk.isSl CapR.cells_len HB3.out (capsL_len r t) (by unfold maxLen; omega)) (below_step hb01 (by rw [hg]; exact hbw))
  · have HE := Lib.hid (atE_bad (t := t) he)
    have HL := Lib.hid (atL_none (r := r) (t := t) (by rw [HE.out]; exact he))
    have hne : (limE r != 0) = true := by simpa using he
    go_wp2_with fail
    go_ret2
    exact AtPost.mk HE.out HL.out (IsSl.nil _ _) hb01

end Go.Proofs.YtlpjniejbblcnaaDoor
