/-
  Walks: the law SiteAdds.
-/
import Derived.Test.YtkjggfhbnhpdnaaDoorWSite17
import Derived.Test.YtkjggfhbnhpdnaaDoorPSite4
import Derived.Test.YtkjggfhbnhpdnaaDoorWSite22
namespace Go.Proofs.YtkjggfhbnhpdnaaDoor
open Go.RowKit Go.Lib Go.Maps
attribute [local go_sem] after_cell
set_option linter.unusedVariables false

theorem IsSl.take' {α : Type} {enc : α → List Value} {size : Nat} {w : World} {A : Option Addr} {c K : Nat} {l : List α} (h : IsSl w size (.slice A l.length c) (l.map enc)) (hK : K ≤ l.length) : IsSl w size (.slice A K c) ((l.take K).map enc) := by
  obtain ⟨A2, c2, e, h1, h2, h3⟩ := h
  injection e with e1 e2 e3
  subst e1; subst e3
  rw [List.length_map] at h1
  refine IsSl.mk ?_ (by rw [List.length_map, List.length_take]; omega) (by omega) h2
  rw [List.map_take]; exact h3.take K
theorem IsSl.drop' {α : Type} {enc : α → List Value} {size : Nat} {w : World} {A A2 : Option Addr} {c K : Nat} {l : List α} (h : IsSl w size (.slice A l.length c) (l.map enc)) (hK : K ≤ l.length) (hA : subAddr A c K size = A2) : IsSl w size (.slice A2 (l.length - K) (c - K)) ((l.drop K).map enc) := by
  obtain ⟨A3, c2, e, h1, h2, h3⟩ := h
  injection e with e1 e2 e3
  subst e1; subst e3
  rw [List.length_map] at h1
  refine IsSl.mk ?_ (by rw [List.length_map, List.length_drop]) (by omega) (by omega)
  rw [List.map_drop, ← hA]; exact subAddr_at h3 (by rw [List.length_map]; exact h1)

theorem load_zero {args : Array Value} {S : SiteR} {W : List WantR} {Z : List Int} {w : World} {L : List CapR} (h : loadE S W Z = 0) (hl : loadsOf S W Z = L)
    (hc : Calls Tryd.prog 21 args w fun e w' => ∃ v, e = .returned (.tuple #[v, .int .i64 (loadE S W Z)]) ∧ IsSl w' 4 v ((loadsOf S W Z).map CapR.cells) ∧ Below w.heap.size w w') :
    Calls Tryd.prog 21 args w fun e w' => ∃ v, e = .returned (.tuple #[v, .int .i64 0]) ∧ IsSl w' 4 v (L.map CapR.cells) ∧ Below w.heap.size w w' := by
  rw [h, hl] at hc; exact hc

/-- what a round of the law reads -/
structure AddsAt (S : SiteR) (Zp : List (WantR × Int)) (K i : Nat) (x y : CapR) : Prop where
  a : (loadL S.F S.P (Zp.take K))[i]? = some x
  b : (loadL S.F S.P (Zp.drop K))[i]? = some y
  l : (loadL S.F S.P Zp)[i]? = some (plusC x y)
  ox : CapOk 1048576000 x
  oy : CapOk 1048576000 y
theorem addsAt {S : SiteR} {Zp : List (WantR × Int)} (hall : Zp.all (wantB S.P) = true) (hl : Zp.length ≤ 1000) (K : Nat) {i : Nat} (hi : i < S.F.length) : AddsAt S Zp K i (capAt S.F S.P i (Zp.take K)) (capAt S.F S.P i (Zp.drop K)) := by
  obtain ⟨h1, h2⟩ := all_take_drop hall K
  refine ⟨loadL_get hi _, loadL_get hi _, by rw [loadL_get hi, ← capAt_split], (capAt_ok (take_bd h1)).mono ?_, (capAt_ok (take_bd h2)).mono ?_⟩
  · rw [List.length_take]; omega
  · rw [List.length_drop]; omega
theorem row_at {w : World} {A : Option Addr} {l : List CapR} (h : SlAt w 4 A (l.map CapR.cells)) {k : Nat} {x : CapR} (hk : l[k]? = some x) :
    ∃ b off, A = some ⟨b, off, none⟩ ∧ b < w.heap.size ∧ w.cell? ⟨b, off + k * 4, none⟩ = some (.int .i64 x.a) ∧ w.cell? ⟨b, off + k * 4 + 1, none⟩ = some (.int .i64 x.b) ∧ w.cell? ⟨b, off + k * 4 + 2, none⟩ = some (.int .i64 x.c) ∧
      w.cell? ⟨b, off + k * 4 + 3, none⟩ = some (.int .i64 x.t) := by
  obtain ⟨hl, rfl⟩ := List.getElem?_eq_some_iff.1 hk
  exact cap_at h hl

set_option maxRecDepth 100000 in
set_option maxHeartbeats 12800000 in
theorem lawAdds (a : CaseV) (k : Int) (w : World) (ha : CaseIn w a) : Calls Tryd.prog 7 #[.agg #[.string a.s.S.name, a.s.fv, a.s.pv, a.cv, a.wv, a.zv], .int .i64 k] w fun e w' => e = .returned (.bool true) ∧ Below w.heap.size w w' := by
  obtain ⟨⟨S, fv, pv⟩, C, W, Z, cv, wv, zv⟩ := a
  obtain ⟨⟨hF, hP, hn, fF, fP⟩, hC, hW, hZ, fW⟩ := ha
  simp only at hF hP hn fF fP hC hW hZ fW ⊢
  obtain ⟨A, c, rfl, hlc, hcm, hsl⟩ := islen' hF
  obtain ⟨B, d, rfl, hld, hdm, _⟩ := islen' hP
  obtain ⟨C', c', rfl, hlc', hcm', _⟩ := islen' hC
  obtain ⟨D, d', rfl, hld', hdm', hsw⟩ := islen' hW
  obtain ⟨E, e', rfl, hle', hem', hsz⟩ := islen' hZ
  obtain ⟨W0, hW0, hb0, hg0, hx0⟩ := box1 w #[.string S.name, .slice A S.F.length c, .slice B S.P.length d, .slice C' C.length c', .slice D W.length d', .slice E Z.length e'] 31
  have HSF := Lib.hid (hsl.below hb0)
  have HF := Lib.hid (hF.below hb0)
  have HP := Lib.hid (hP.below hb0)
  have HW := Lib.hid (hW.below hb0)
  have HZ := Lib.hid (hZ.below hb0)
  have HSM := Lib.hid (fun w => small_any S.name A B C' D E S.F.length c S.P.length d C.length c' W.length d' Z.length e' w (by unfold maxLen at *; omega))
  have mW : W.length ≤ 9223372036854775807 := by unfold maxLen at *; omega
  clear hF hP hC hW hZ hsl hsw hsz
  cases hs : smallB S.F.length S.P.length W.length Z.length C.length with
  | false =>
    go_enter Tryd.func7, Tryd.ntmps7
    go_wp2_with fail
    rw [← hW0]
    clear hW0
    refine (HSM.out _).mono ?_
    rintro e w1 ⟨rfl, hb1⟩
    rw [hs]
    go_wp2_with fail
    refine (siteHolds_any _).mono ?_
    rintro e w2 ⟨rfl, hb2⟩
    go_wp2_with fail
    go_ret
    exact ⟨rfl, below_step hb0 (below_step hb1 hb2)⟩
  | true =>
  by_cases hk0 : k < 0
  · skip
    go_enter Tryd.func7, Tryd.ntmps7
    go_wp2_with fail
    rw [← hW0]
    clear hW0
    refine (HSM.out _).mono ?_
    rintro e w1 ⟨rfl, hb1⟩
    rw [hs]
    go_wp2_with fail
    refine (siteHolds_any _).mono ?_
    rintro e w2 ⟨rfl, hb2⟩
    go_wp2_with fail
    go_ret
    exact ⟨rfl, below_step hb0 (below_step hb1 hb2)⟩
  by_cases hk1 : (W.length : Int) < k
  · skip
    go_enter Tryd.func7, Tryd.ntmps7
    go_wp2_with fail
    rw [← hW0]
    clear hW0
    refine (HSM.out _).mono ?_
    rintro e w1 ⟨rfl, hb1⟩
    rw [hs]
    obtain ⟨hc, hf⟩ := bcell hb1
    go_wp2_with fail
    refine (siteHolds_any _).mono ?_
    rintro e w2 ⟨rfl, hb2⟩
    go_wp2_with fail
    go_ret
    exact ⟨rfl, below_step hb0 (below_step hb1 hb2)⟩
  obtain ⟨l1, l2, l3, l4, l5⟩ := small_t hs
  obtain ⟨K, rfl⟩ : ∃ K : Nat, k = K := ⟨k.toNat, by omega⟩
  have hKW : K ≤ W.length := by omega
  have hKi : (K : Int) ≤ (W.length : Int) := by omega
  have hNF := Lib.hid (And.intro hn (And.intro fF (And.intro fP fW)))
  clear hk0 hk1 mW hn fF fP fW
  have HLD := Lib.hid (fun (w1 : World) (hb : Below W0.heap.size W0 w1) => load_any S W Z _ _ _ _ w1 (HF.out.below hb) (HP.out.below hb) (HW.out.below hb) (HZ.out.below hb) hNF.out.1 hNF.out.2.1 hNF.out.2.2.1 hNF.out.2.2.2 (by omega) (by omega))
  cases hv : (loadE S W Z != 0) with
  | true =>
    have HN := Lib.hid (loadsOf_no (by simpa using hv : loadE S W Z ≠ 0))
    go_enter Tryd.func7, Tryd.ntmps7
    go_wp2_with fail
    rw [← hW0]
    clear hW0
    refine (HSM.out _).mono ?_
    rintro e w1 ⟨rfl, hb1⟩
    rw [hs]
    obtain ⟨hc, hf⟩ := bcell hb1
    go_wp2_with fail
    refine (HLD.out _ hb1).mono ?_
    rintro e w2 ⟨v2, rfl, hv2, hb2⟩
    rw [HN.out] at hv2
    obtain ⟨A2, c2, rfl, _, _, _⟩ := hv2
    go_wp2_with fail
    refine (siteHolds_any _).mono ?_
    rintro e w3 ⟨rfl, hb3⟩
    go_wp2_with fail
    go_ret
    exact ⟨rfl, below_step hb0 (below_step hb1 (below_step hb2 hb3))⟩
  | false =>
  have h0 : loadE S W Z = 0 := by simpa using hv
  obtain ⟨hs0, hlen, hall⟩ := loadE_zero h0
  have hOK := siteE_ok hs0
  have HOK := Lib.hid hOK
  have HAD := Lib.hid (addsOk h0 K)
  have HAT := Lib.hid (fun (i : Nat) (hi : i < S.F.length) => addsAt hall (by simp; omega) K hi)
  have HUP := Lib.hid (fun (i p : Nat) (hi : i < S.F.length) (he : S.F[i].parent = (p : Int)) => capAt_up hOK hi he (W.zip Z) (take_bd hall))
  have HGT := Lib.hid (fun (i : Nat) (hi : i < S.F.length) => loadL_get (P := S.P) hi (W.zip Z))
  have HCS := Lib.hid (fun (i : Nat) => capAt_split S.F S.P i (W.zip Z) K)
  have hKZ : K ≤ Z.length := by omega
  have hne : ((Z.length : Int) != (W.length : Int)) = false := by simp; omega
  have HLF : Hid (∀ l, (loadL S.F S.P l).length = S.F.length) := fun l => loadL_len _ _ _
  clear h0 hs0 hall hOK
  obtain ⟨D2, hD2⟩ : ∃ D2, (if d' = K then D else Option.map (fun x => x.add (K * 3)) D) = D2 := ⟨_, rfl⟩
  obtain ⟨E2, hE2⟩ : ∃ E2, (if e' = K then E else Option.map (fun x => x.add K) E) = E2 := ⟨_, rfl⟩
  have HW2 : Hid (IsSl W0 3 (.slice D2 (W.length - K) (d' - K)) ((W.drop K).map WantR.cells)) := HW.out.drop' hKW hD2
  have HZ2 : Hid (IsSl W0 1 (.slice E2 (Z.length - K) (e' - K)) ((Z.drop K).map encZ)) := HZ.out.drop' hKZ (by unfold subAddr; simp only [Nat.mul_one]; exact hE2)
  have HW1 : Hid (IsSl W0 3 (.slice D K d') ((W.take K).map WantR.cells)) := HW.out.take' hKW
  have HZ1 : Hid (IsSl W0 1 (.slice E K e') ((Z.take K).map encZ)) := HZ.out.take' hKZ
  have hKd : (K : Int) ≤ (d' : Int) := by omega
  have hKe : (K : Int) ≤ (e' : Int) := by omega
  have hKz : (K : Int) ≤ (Z.length : Int) := by omega
  have HLA := Lib.hid (fun (w1 : World) (hb : Below W0.heap.size W0 w1) => load_zero HAD.out.ea HAD.out.la <| load_any S (W.take K) (Z.take K) _ _ _ _ w1 (HF.out.below hb) (HP.out.below hb) (HW1.out.below hb) (HZ1.out.below hb) hNF.out.1 hNF.out.2.1 hNF.out.2.2.1 (fun x hx => hNF.out.2.2.2 x (List.mem_of_mem_take hx)) (by rw [List.length_take]; omega) (by rw [List.length_take]; omega))
  have HLB := Lib.hid (fun (w1 : World) (hb : Below W0.heap.size W0 w1) => load_zero HAD.out.eb HAD.out.lb <| load_any S (W.drop K) (Z.drop K) _ _ _ _ w1 (HF.out.below hb) (HP.out.below hb) (HW2.out.below hb) (HZ2.out.below hb) hNF.out.1 hNF.out.2.1 hNF.out.2.2.1 (fun x hx => hNF.out.2.2.2 x (List.mem_of_mem_drop hx)) (by rw [List.length_drop]; omega) (by rw [List.length_drop]; omega))
  have HLEN := Lib.hid hlen
  clear hlen
  go_enter Tryd.func7, Tryd.ntmps7
  go_wp2_with fail
  rw [← hW0]
  clear hW0
  refine (HSM.out _).mono ?_
  rintro e w1 ⟨rfl, hb1⟩
  rw [hs]
  obtain ⟨hc, hf⟩ := bcell hb1
  go_wp2_with fail
  refine (HLD.out _ hb1).mono ?_
  rintro e w2 ⟨v2, rfl, hv2, hb2⟩
  rw [HAD.out.l] at hv2
  obtain ⟨A2, c2, rfl, _, _, hs2⟩ := islen' hv2
  have HS2 := Lib.hid hs2
  have hb02 := below_step hb1 hb2
  clear hc hf hv2 hs2 hs HSM HLD
  obtain ⟨hc, hf⟩ := bcell hb02
  rw [HLF.out]
  go_wp2_with fail
  have hx2 : ∀ j, w2.cell? ⟨w.heap.size, j, none⟩ = (#[.string S.name, .slice A S.F.length c, .slice B S.P.length d, .slice C' C.length c', .slice D W.length d', .slice E Z.length e'] : Array Value)[j]? := fun j => (hb02.cell (p := ⟨w.heap.size, j, none⟩) hg0).trans (hx0 j)
  have hg2 : w.heap.size < w2.heap.size := Nat.lt_of_lt_of_le hg0 hb02.size
  have hbr := Below.refl w2.heap.size w2
  clear hc hf
  go_region_held3 (fun w' => (∀ b o, b < w2.heap.size → w'.cell? ⟨b, o, none⟩ = w2.cell? ⟨b, o, none⟩) ∧ Below w2.heap.size w2 w') (first | exact ⟨(bcell (W := w2) (by assumption)).1, by assumption⟩ | exact ⟨(bcell (W := w2) (Below.drew (by assumption))).1, Below.drew (by assumption)⟩) ((first | (go_at_call 21; refine (HLA.out _ (below_step hb02 (And.right (by assumption)))).mono ?_; rintro e w3 ⟨v3, rfl, hv3, hb3⟩; have hb3' := below_step (w := w2) (And.right (by assumption)) hb3)))
  have hbw3 : Below w2.heap.size w2 w3 := hb3'
  clear hb3'
  have hx3 : ∀ j, w3.cell? ⟨w.heap.size, j, none⟩ = (#[.string S.name, .slice A S.F.length c, .slice B S.P.length d, .slice C' C.length c', .slice D W.length d', .slice E Z.length e'] : Array Value)[j]? := fun j => (hbw3.cell (p := ⟨w.heap.size, j, none⟩) hg2).trans (hx2 j)
  have hg3 : w.heap.size < w3.heap.size := Nat.lt_of_lt_of_le hg2 hbw3.size
  have hb03 := below_step hb02 hbw3
  have hbr3 := Below.refl w3.heap.size w3
  obtain ⟨A3, c3, rfl, _, _, hs3⟩ := islen' hv3
  have HS3 := Lib.hid hs3
  clear hv3 hs3
  go_wp2_with fail
  go_region_held3 (fun w' => (∀ b o, b < w3.heap.size → w'.cell? ⟨b, o, none⟩ = w3.cell? ⟨b, o, none⟩) ∧ Below w3.heap.size w3 w') (first | exact ⟨(bcell (W := w3) (by assumption)).1, by assumption⟩ | exact ⟨(bcell (W := w3) (Below.drew (by assumption))).1, Below.drew (by assumption)⟩) ((first | (go_at_call 21; refine (HLB.out _ (below_step hb03 (And.right (by assumption)))).mono ?_; rintro e w4 ⟨v4, rfl, hv4, hb4⟩; have hb4' := below_step (w := w3) (And.right (by assumption)) hb4)))
  have hbw4 : Below w3.heap.size w3 w4 := hb4'
  clear hb4'
  have hbw24 := below_step hbw3 hbw4
  have hx4 : ∀ j, w4.cell? ⟨w.heap.size, j, none⟩ = (#[.string S.name, .slice A S.F.length c, .slice B S.P.length d, .slice C' C.length c', .slice D W.length d', .slice E Z.length e'] : Array Value)[j]? := fun j => (hbw4.cell (p := ⟨w.heap.size, j, none⟩) hg3).trans (hx3 j)
  have hg4 : w.heap.size < w4.heap.size := Nat.lt_of_lt_of_le hg3 hbw4.size
  obtain ⟨A4, c4, rfl, _, _, hs4⟩ := islen' hv4
  have HS4 := Lib.hid hs4
  have HS24 := Lib.hid (HS2.out.below hbw24)
  have HS34 := Lib.hid (HS3.out.below hbw4)
  have HSF4 := Lib.hid (HSF.out.below (below_step hb02 hbw24))
  have hb04 := below_step hb0 (below_step hb02 hbw24)
  have hlF := HOK.out.lF
  clear hv4 hs4 hx0 hx2 hx3 hg0 hg2 hg3 HS2 HS3 HSF hb1 hb2 hb3 hb4 hb02 hb03 hbw3 hbw4 hbw24 hbr hbr3 HLA HLB HW HZ HW1 HZ1 HW2 HZ2 HF HP hD2 hE2
  rw [HLF.out, HLF.out]
  go_wp2_with fail
  go_loopw [112] (fun i wr => ∃ n : Nat, n ≤ S.F.length ∧ i = .int .i64 n ∧ Below w4.heap.size w4 wr) (fun i _ => S.F.length - (intOf i).toNat)
  case atStart => exact ⟨0, by omega, rfl, Below.refl _ _⟩
  case round =>
    obtain ⟨n, hn, rfl, hbw⟩ := hrel
    obtain ⟨hc, hf⟩ := bcell hbw
    by_cases hlt : n < S.F.length
    · have hni : (n : Int) < (S.F.length : Int) := by omega
      have HA := HAT.out n hlt
      obtain ⟨b3, o3, rfl, g3, a0, a1, a2, a3⟩ := row_at HS34.out HA.a
      obtain ⟨b4, o4, rfl, g4, d0, d1, d2, d3⟩ := row_at HS4.out HA.b
      obtain ⟨b2, o2, rfl, g2, m0, m1, m2, m3⟩ := row_at HS24.out HA.l
      obtain ⟨bf, of, rfl, gf, _, f1, _, _, _⟩ := feed_at HSF4.out hlt
      have hpar := HOK.out.par n hlt
      have HU := Lib.hid (HUP.out n)
      have HCSn := Lib.hid (HCS.out n)
      obtain ⟨ax0, ax1, bx0, bx1, cx0, cx1, tx⟩ := HA.ox
      obtain ⟨ay0, ay1, by0, by1, cy0, cy1, ty⟩ := HA.oy
      have tx0 : 0 ≤ (capAt S.F S.P n ((W.zip Z).take K)).t := by omega
      have tx1 : (capAt S.F S.P n ((W.zip Z).take K)).t ≤ 3145728000 := by omega
      have ty0 : 0 ≤ (capAt S.F S.P n ((W.zip Z).drop K)).t := by omega
      have ty1 : (capAt S.F S.P n ((W.zip Z).drop K)).t ≤ 3145728000 := by omega
      have HPAR : Hid (∀ p : Nat, S.F[n].parent = (p : Int) → (plusC (capAt S.F S.P n ((W.zip Z).take K)) (capAt S.F S.P n ((W.zip Z).drop K))).t ≤ (capAt S.F S.P p (W.zip Z)).t ∧ (plusC (capAt S.F S.P n ((W.zip Z).take K)) (capAt S.F S.P n ((W.zip Z).drop K))).a ≤ (capAt S.F S.P p (W.zip Z)).a) := fun p h => by
        rw [← HCSn.out]; exact HU.out p hlt h
      clear tx ty HA HU HCSn
      simp only [plusC] at m0 m1 m2 m3
      generalize capAt S.F S.P n ((W.zip Z).take K) = x at *
      generalize capAt S.F S.P n ((W.zip Z).drop K) = y at *
      generalize S.F[n].parent = par at *
      have wa : IntKind.i64.wrap (x.a + y.a) = x.a + y.a := IntWalk.i64_in _ (by omega)
      have wb : IntKind.i64.wrap (x.b + y.b) = x.b + y.b := IntWalk.i64_in _ (by omega)
      have wc : IntKind.i64.wrap (x.c + y.c) = x.c + y.c := IntWalk.i64_in _ (by omega)
      have wt : IntKind.i64.wrap (x.t + y.t) = x.t + y.t := IntWalk.i64_in _ (by omega)
      go_wp2_with fail
      refine wp_region_quiet_lit (by kernel_rfl) (by exact Option.some.inj adds_lex) ?_
      simp only [List.append]
      repeat (go_big_quiet_step (fail))
      refine wpQuiet_nil ?_
      intro _ hw'
      obtain ⟨nq, hw''⟩ := hw'
      subst hw''
      clear wa wb wc wt a0 a1 a2 a3 d0 d1 d2 d3 m1 m2
      by_cases hp : par < 0
      · obtain rfl : par = -1 := by omega
        clear hp hpar
        go_wp2_with fail
        go_quiet (fail)
        go_wp2_with fail
        go_roundw
        case measure => simp [intOf]; omega
        case rel => exact ⟨n + 1, by omega, by go_num, below_drewN hbw _⟩
      · obtain ⟨p, rfl⟩ : ∃ p : Nat, par = p := ⟨par.toNat, by omega⟩
        have hpn : p < n := by omega
        have hpl : p < S.F.length := by omega
        have hpi : (p : Int) < (S.F.length : Int) := by omega
        obtain ⟨h1, h2⟩ := HPAR.out p rfl
        simp only [plusC] at h1 h2
        obtain ⟨_, _, e9, _, p0, p1, p2, p3⟩ := row_at HS24.out (HGT.out p hpl)
        injection e9 with e9
        injection e9 with e91 e92 _
        subst e91
        subst e92
        generalize capAt S.F S.P p (W.zip Z) = z at *
        have e0 : decide (p < n) = true := by simpa using hpn
        have e1 : decide (z.t < x.t + y.t) = false := by simp; omega
        have e2 : decide (z.a < x.a + y.a) = false := by simp; omega
        clear hp hpar h1 h2 hpn
        go_wp2_with fail
        go_quiet (fail)
        go_wp2_with fail
        go_roundw
        case measure => simp [intOf]; omega
        case rel => exact ⟨n + 1, by omega, by go_num, below_drewN hbw _⟩
    · have hkF : n = S.F.length := by omega
      subst hkF
      go_wp2_with fail
      refine (siteHolds_any _).mono ?_
      rintro e w5 ⟨rfl, hb5⟩
      go_wp2_with fail
      go_ret
      exact ⟨rfl, below_step hb04 (below_step hbw hb5)⟩

end Go.Proofs.YtkjggfhbnhpdnaaDoor
