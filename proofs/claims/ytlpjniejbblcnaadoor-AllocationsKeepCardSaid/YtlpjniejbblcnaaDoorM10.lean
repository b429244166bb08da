/-
  Walks: changed, level of the reference of package allocate, and Carries.
  Plain functions: the filling of the reference: steps of powers of two; rounds until none is active.
  The memory of allocate.Run: the division's block, the rows of paths, of the greatest powers and of the shares, all apart.
-/
import Derived.Test.YtlpjniejbblcnaaDoorM8
import Derived.Test.YtlpjniejbblcnaaDoorM4
import Derived.Test.YtlpjniejbblcnaaDoorM9
import Derived.Test.YtlpjniejbblcnaaDoorM6

namespace Go.Proofs.YtlpjniejbblcnaaDoor
open Go.RowKit Go.Lib Go.Maps
attribute [local go_sem] after_cell
set_option linter.unusedVariables false

/-- powers that a call gives -/
def VecPost (w : World) (n : Nat) (x : Vec) (e : Ending) (w' : World) : Prop := ∃ v, e = .returned v ∧ w'.ownsRow w.heap.size 3 1 v n ((listV n x).flatMap encZ) ∧ Below w.heap.size w w'
theorem encZ_single (x : Int) : ∀ u ∈ encZ x, u.oneCell' = true := fun u hu => by
  simp [encZ] at hu; subst hu; rfl
theorem flatZ_set (l : List Int) (k : Nat) (u : Int) : (l.flatMap encZ).set k (.int .i64 u) = (l.set k u).flatMap encZ := by
  have e : ∀ l : List Int, l.flatMap encZ = l.map (Value.int .i64) := fun l => by
    induction l with
    | nil => rfl
    | cons x l ih => rw [List.flatMap_cons, ih]; rfl
  rw [e, e, List.map_set]
theorem flatZ_at {l : List Int} {k : Nat} (h : k < l.length) : (l.flatMap encZ)[k]? = some (.int .i64 l[k]) := by
  have := flat_at encZ 1 encZ_len l k l[k] (List.getElem?_eq_getElem h) 0 _ rfl
  simpa using this

set_option maxRecDepth 100000 in
set_option maxHeartbeats 6400000 in
theorem changed_any (n : Nat) (x : Vec) (k : Nat) (t : Int) (zv : Value) (w : World) (hZ : IsSl w 1 zv ((listV n x).map encZ)) (hk : k < n) (hn : n ≤ 1000) :
    Calls Tryd.prog 33 #[zv, .int .i64 k, .int .i64 t] w (VecPost w n (updF x k t)) := by
  obtain ⟨A, c, rfl, hlc, hcm, hsl⟩ := islen' hZ
  rw [listV_len] at hlc ⊢
  obtain ⟨i0, hi, hz0, hz1, hz2⟩ := info_parts intInfo
  have HS := Lib.hid hsl
  have HL : Hid ((listV n x).length = n) := listV_len n x
  have HU : Hid (listV n (updF x k t) = (listV n x).set k t) := listV_upd hk t
  have hki : (k : Int) < (n : Int) := by omega
  clear hZ hsl hcm hlc
  generalize listV n x = Z at *
  go_enter Tryd.func33, Tryd.ntmps33
  go_wp2_with (at_builtin; refine wpList_append_list _ rfl (.tmp 8) (.tmp 9) _ rfl w.heap.size 3 i0 _ 1 8 Tryd.underlying22 hi hz0 hz1 hz2 rfl (by decide) encZ_len encZ_single (.slice (some ⟨w.heap.size, 0, none⟩) 0 0) 0 [] rfl (World.ownsRow_lit _ #[] 0 (Nat.le_refl _) (by decide) rfl) A c Z (by show _ = Value.slice A Z.length c; rw [HL.out]; rfl) (HS.out.below ((Below.refl _ _).alloc (Nat.le_refl _) _)) (by have := HL.out; unfold maxLen; omega) (by have := HL.out; omega) (by simp) ?_; intro v3 w3 hown3 hgrow3 hnil3 hblk3; rw [Nat.zero_add, List.nil_append, HL.out] at hown3; obtain ⟨g, cap, rfl, hgb, hgl, hcap, hcap2, hcl⟩ := own_split hown3 (by omega); have y0 := hcl k _ (flatZ_at (by rw [HL.out]; exact hk)); have f0 := hown3.frozenAt k)
  have hb3 := below_grown (below_alloc (Below.refl _ _) (.cells #[] 3)) (World.ownsRow_lit w #[] 0 (Nat.le_refl _) (by decide) rfl (e := 3) (size := 1)) (Nat.le_refl _) hgrow3
  obtain ⟨hs1, hs2⟩ := hown3.stored k (.int .i64 t)
  rw [flatZ_set] at hs1
  have hbs := hb3.setCell (p := ⟨g, k, none⟩) hgb (.int .i64 t)
  go_ret
  exact ⟨_, rfl, by rw [HU.out]; exact hs1, hbs⟩

/-- the level behind k rounds -/
def mixF (x c : Vec) (a : Act) (d : Int) (k : Nat) : Vec := fun i => if i < k then levF x c a d i else x i
theorem mix_zero (x c : Vec) (a : Act) (d : Int) : mixF x c a d 0 = x := by funext i; simp [mixF]
theorem mix_all (n : Nat) (x c : Vec) (a : Act) (d : Int) : listV n (mixF x c a d n) = listV n (levF x c a d) := listV_congr fun i hi => by simp [mixF, hi]
theorem mix_up {n k : Nat} {x c : Vec} {a : Act} {d u : Int} (hk : k < n) (h : u = levF x c a d k) : (listV n (mixF x c a d k)).set k u = listV n (mixF x c a d (k + 1)) := by
  rw [← listV_upd hk]
  refine listV_congr fun i hi => ?_
  by_cases q : i = k
  · subst q; rw [upd_same, h]; simp [mixF]
  · rw [upd_other q]
    unfold mixF
    by_cases q2 : i < k
    · rw [if_pos q2, if_pos (by omega)]
    · rw [if_neg q2, if_neg (by omega)]
theorem mix_off {n k : Nat} {x c : Vec} {a : Act} {d : Int} (h : a k = false) : listV n (mixF x c a d k) = listV n (mixF x c a d (k + 1)) := by
  refine listV_congr fun i hi => ?_
  unfold mixF
  by_cases q : i = k
  · subst q; simp [levF, h]
  · by_cases q2 : i < k
    · rw [if_pos q2, if_pos (by omega)]
    · rw [if_neg q2, if_neg (by omega)]

set_option maxRecDepth 100000 in
set_option maxHeartbeats 6400000 in
theorem level_any (n : Nat) (x c : Vec) (a : Act) (d : Int) (ab : Nat) (zv cv : Value) (w : World) (hZ : IsSl w 1 zv ((listV n x).map encZ)) (hC : IsSl w 1 cv ((listV n c).map encZ)) (hA : Blk w ab 4 (rowV Value.bool n a)) (hn : n ≤ 1000)
    (hx : ∀ i, i < n → 0 ≤ x i ∧ x i ≤ 1099511627776) (hd : 0 ≤ d ∧ d ≤ 1099511627776) :
    Calls Tryd.prog 51 #[zv, cv, .slice (some ⟨ab, 0, none⟩) n n, .int .i64 d] w (VecPost w n (levF x c a d)) := by
  obtain ⟨A, cc, rfl, hlc, hcm, hsl⟩ := islen' hZ
  obtain ⟨B, cd, rfl, hld, hdm, hsc⟩ := islen' hC
  rw [listV_len] at hlc hld
  obtain ⟨i0, hi, hz0, hz1, hz2⟩ := info_parts intInfo
  have HS := Lib.hid hsl
  have HSC := Lib.hid hsc
  have HAB := Lib.hid hA
  have HX := Lib.hid hx
  have HL : Hid ((listV n x).length = n) := listV_len n x
  clear hZ hsl hcm hlc hC hsc hld hdm hA hx
  simp only [listV_len]
  go_enter Tryd.func51, Tryd.ntmps51
  go_wp2_with (at_builtin; refine wpList_append_list _ rfl (.tmp 11) (.tmp 12) _ rfl w.heap.size 3 i0 _ 1 8 Tryd.underlying22 hi hz0 hz1 hz2 rfl (by decide) encZ_len encZ_single (.slice (some ⟨w.heap.size, 0, none⟩) 0 0) 0 [] rfl (World.ownsRow_lit _ #[] 0 (Nat.le_refl _) (by decide) rfl) A cc (listV n x) (by show _ = Value.slice A (listV n x).length cc; rw [HL.out]; rfl) (HS.out.below ((Below.refl _ _).alloc (Nat.le_refl _) _)) (by have := HL.out; unfold maxLen; omega) (by have := HL.out; omega) (by simp) ?_; intro v3 w3 hown3 hgrow3 hnil3 hblk3; rw [Nat.zero_add, List.nil_append, HL.out] at hown3; obtain ⟨A3, c3, rfl⟩ := own_shape hown3)
  have hb3 := below_grown (below_alloc (Below.refl _ _) (.cells #[] 3)) (World.ownsRow_lit w #[] 0 (Nat.le_refl _) (by decide) rfl (e := 3) (size := 1)) (Nat.le_refl _) hgrow3
  clear hgrow3 hnil3 hblk3
  go_loopw [10] (fun i wr => ∃ k : Nat, k ≤ n ∧ i = .int .i64 k ∧ Below w.heap.size w wr ∧ wr.ownsRow w.heap.size 3 1 (.slice A3 n c3) n ((listV n (mixF x c a d k)).flatMap encZ)) (fun i _ => n - (intOf i).toNat)
  case atStart => exact ⟨0, by omega, rfl, hb3, by rw [mix_zero]; exact hown3⟩
  case round =>
    obtain ⟨k, hk, rfl, hbw, hown⟩ := hrel
    clear hown3 hb3
    obtain ⟨hc, hf⟩ := bcell hbw
    by_cases hlt : k < n
    · have hki : (k : Int) < (n : Int) := by omega
      obtain ⟨bx, offx, rfl, hbx, x0⟩ := vec_at HS.out hlt
      obtain ⟨bc, offc, rfl, hbc, c0⟩ := vec_at HSC.out hlt
      have ab0 := (HAB.out.cell k).trans (rowV_at hlt)
      have hab := HAB.out.lt
      obtain ⟨g, cap, e, hgb, hgl, hcap, hcap2, hcl⟩ := own_split hown (by omega)
      injection e with e1 e2 e3
      subst e1 e3
      have y0 := hcl k _ (flatZ_at (by rw [listV_len]; exact hlt))
      have f0 := hown.frozenAt k
      obtain ⟨hx0, hx1⟩ := HX.out k hlt
      have q1 : IntKind.i64.wrap (x k + d) = x k + d := IntWalk.i64_in _ (by omega)
      have X0 := (hbw.cell (p := ⟨bx, offx + k, none⟩) hbx).trans x0
      have C0 := (hbw.cell (p := ⟨bc, offc + k, none⟩) hbc).trans c0
      have AB0 := (hbw.cell (p := ⟨ab, k, none⟩) hab).trans ab0
      have HO := Lib.hid hown
      clear hcl hc hf x0 c0 ab0 hown
      cases ha : a k with
      | true =>
        rw [ha] at AB0
        have HLV : Hid (min (x k + d) (c k) = levF x c a d k) := by unfold Hid levF; rw [if_pos ha]
        have hod : wr.drew.ownsRow w.heap.size 3 1 (.slice (some ⟨g, 0, none⟩) n c3) n ((listV n (mixF x c a d k)).flatMap encZ) := HO.out
        obtain ⟨hs1, hs2⟩ := hod.stored k (.int .i64 (min (x k + d) (c k)))
        rw [flatZ_set, mix_up hlt HLV.out] at hs1
        have HS1 := Lib.hid hs1
        have HBS := Lib.hid (hbw.drew.setCell (p := ⟨g, k, none⟩) hgb (.int .i64 (min (x k + d) (c k))))
        clear hs1 hs2 hod
        go_wp2_with fail
        (refine wp_still_tail 14 (by kernel_rfl) (by kernel_rfl) ?_; simp only [List.take_succ_cons, List.take_zero, List.drop_succ_cons, List.drop_zero]; (repeat still_step); (try refine wpStill_nil ?_))
        go_wp2_with fail
        go_roundw
        case measure => simp [intOf]; omega
        case rel => exact ⟨k + 1, by omega, by go_num, HBS.out, HS1.out⟩
      | false =>
        rw [ha] at AB0
        rw [mix_off ha] at HO
        go_wp2_with fail
        go_roundw
        case measure => simp [intOf]; omega
        case rel => exact ⟨k + 1, by omega, by go_num, hbw, HO.out⟩
    · have hki : ¬ (k : Int) < (n : Int) := by omega
      have hkn : k = n := by omega
      rw [hkn, mix_all] at hown
      have HO := Lib.hid hown
      clear hown
      go_wp2_with fail
      go_ret
      exact ⟨_, rfl, HO.out, hbw⟩

/-- a want's power is in its range -/
theorem pow_in {P : List Pnt} {x : WantR} {v : Int} {j : Nat} (hj : j < P.length) (e : x.point = j) (ht : x.top ≤ 1048576) : (0 ≤ v ∧ v ≤ greatW P x) ↔ (powB v = true ∧ v ≤ x.top ∧ v ≤ P[j].rated) := by
  have hp : pntOf P x = P[j] := by rw [pntOf_eq (by rw [e]; simpa using hj)]; simp only [e, Int.toNat_natCast]
  unfold greatW
  rw [hp, powB_iff]
  omega
theorem carry_all {S : SiteR} {C : List CapR} {W : List WantR} (h : AllocOk S C W) {x : Vec} (hr : ∀ i (hi : i < W.length), 0 ≤ x i ∧ x i ≤ greatW S.P W[i]) : (W.zip (listV W.length x)).all (wantB S.P) = true := by
  rw [List.all_eq_true]
  intro y hy
  obtain ⟨j, hj, rfl⟩ := List.mem_iff_getElem.1 hy
  have hj1 : j < W.length := by simp [listV_len] at hj; omega
  rw [List.getElem_zip, listV_get]
  have := hr j hj1
  have := great_bd h hj1
  exact wantB_iff.2 ((h.want hj1).1.right (by omega) (by omega))
theorem len_zero {α : Type} (l : List α) : ((l.length : Int) == 0) = decide (l = []) := by
  cases l with
  | nil => rfl
  | cons a l =>
    simp
    omega

set_option maxRecDepth 100000 in
set_option maxHeartbeats 6400000 in
theorem carries_any (S : SiteR) (C : List CapR) (W : List WantR) (x : Vec) (fv pv cv wv zv : Value) (w : World) (hF : IsSl w 5 fv (S.F.map Feed.cells)) (hP : IsSl w 5 pv (S.P.map Pnt.cells)) (hC : IsSl w 4 cv (C.map CapR.cells)) (hW : IsSl w 3 wv (W.map WantR.cells)) (hZ : IsSl w 1 zv ((listV W.length x).map encZ))
    (hA : AllocOk S C W) (hlW : W.length ≤ 1000) :
    Calls Tryd.prog 50 #[.agg #[.string S.name, fv, pv], cv, wv, zv] w fun e w' => e = .returned (.bool (siteV S C W x)) ∧ Below w.heap.size w w' := by
  obtain ⟨A, c, rfl, hlc, hcm, hsl⟩ := islen' hF
  obtain ⟨B, d, rfl, hld, hdm, hsp⟩ := islen' hP
  obtain ⟨C', c', rfl, hlc', hcm', hsc⟩ := islen' hC
  obtain ⟨D, d', rfl, hld', hdm', hsw⟩ := islen' hW
  obtain ⟨E, e', rfl, hle', hem', hsz⟩ := islen' hZ
  rw [listV_len] at hZ
  simp only [listV_len]
  obtain ⟨W0, hW0, hb0, hg0, hx0⟩ := box1 w #[.string S.name, .slice A S.F.length c, .slice B S.P.length d] 30
  have HF0 := Lib.hid (hF.below hb0)
  have HP0 := Lib.hid (hP.below hb0)
  have HC0 := Lib.hid (hC.below hb0)
  have HW0' := Lib.hid (hW.below hb0)
  have HZ0 := Lib.hid (hZ.below hb0)
  have HSP := Lib.hid (hsp.below hb0)
  have HSW := Lib.hid (hsw.below hb0)
  have HSZ := Lib.hid (hsz.below hb0)
  have HA := Lib.hid hA
  have HOK := Lib.hid (siteE_ok hA.site)
  have HRG := Lib.hid (fun (k : Nat) (hk : k < W.length) => fits_range hA (x := x) hk)
  have HIF := Lib.hid (siteV_iff hA x)
  have HCL := Lib.hid hA.len
  have hlF := HOK.out.lF
  have hlC : C.length ≤ 32 := by have := hA.len; omega
  clear hF hP hC hW hZ hsl hsp hsc hsw hsz hlc hld hlc' hld' hcm hdm hcm' hdm' hle' hem' hA
  go_enter Tryd.func50, Tryd.ntmps50
  go_wp2_with fail
  rw [← hW0]
  clear hW0
  go_loopw [9] (fun i wr => ∃ k : Nat, k ≤ W.length ∧ i = .int .i64 k ∧ Below W0.heap.size W0 wr ∧ Hid (∀ j (h : j < W.length), j < k → 0 ≤ x j ∧ x j ≤ greatW S.P W[j])) (fun i _ => W.length - (intOf i).toNat)
  case atStart => exact ⟨0, by omega, rfl, Below.refl _ _, fun j _ h => by omega⟩
  case round =>
    obtain ⟨k, hk, rfl, hbw, HG⟩ := hrel
    obtain ⟨hc, hf⟩ := bcell hbw
    by_cases hlt : k < W.length
    · have hki : (k : Int) < (W.length : Int) := by omega
      have HWT := Lib.hid (HA.out.want hlt).1
      have hp0 := HWT.out.p0
      obtain ⟨j, hj⟩ : ∃ j : Nat, W[k].point = j := ⟨W[k].point.toNat, by omega⟩
      have hjl : j < S.P.length := by have := HWT.out.p1; rw [hj] at this; simpa using this
      have hjli : (j : Int) < (S.P.length : Int) := by omega
      obtain ⟨bw, offw, rfl, hbb, c0, c1, c2⟩ := want_at HSW.out hlt
      obtain ⟨bp, offp, rfl, hbp, e0, e1, e2, e3, e4⟩ := pnt_at HSP.out hjl
      obtain ⟨bz, offz, rfl, hbz, z0⟩ := vec_at HSZ.out hlt
      rw [hj] at c0
      have HPI := Lib.hid (pow_in (v := x k) hjl hj HWT.out.t1)
      have HRK := Lib.hid (HRG.out k hlt)
      have HGN : Hid (0 ≤ x k ∧ x k ≤ greatW S.P W[k] → ∀ j (h : j < W.length), j < k + 1 → 0 ≤ x j ∧ x j ≤ greatW S.P W[j]) := fun h j hj hjk => by
        by_cases q : j = k
        · subst q; exact h
        · exact HG.out j hj (by omega)
      have C0 := (hbw.cell (p := ⟨bw, offw + k * 3, none⟩) hbb).trans c0
      have C2 := (hbw.cell (p := ⟨bw, offw + k * 3 + 2, none⟩) hbb).trans c2
      have E3 := (hbw.cell (p := ⟨bp, offp + j * 5 + 3, none⟩) hbp).trans e3
      have Z0 := (hbw.cell (p := ⟨bz, offz + k, none⟩) hbz).trans z0
      have Y0 : ∀ j, wr.cell? ⟨w.heap.size, j, none⟩ = (#[.string S.name, .slice A S.F.length c, .slice (some ⟨bp, offp, none⟩) S.P.length d] : Array Value)[j]? := fun j => (hbw.cell (p := ⟨w.heap.size, j, none⟩) hg0).trans (hx0 j)
      have hz := hbw.size
      have g1 : bw < wr.heap.size := by omega
      have g2 : bp < wr.heap.size := by omega
      have g3 : bz < wr.heap.size := by omega
      have g4 : w.heap.size < wr.heap.size := by omega
      have hbr := Below.refl wr.heap.size wr
      clear hc hf c0 c1 c2 e0 e1 e2 e3 e4 z0
      generalize hgv : greatW S.P W[k] = gv at *
      generalize W[k].top = tp at *
      generalize S.P[j].rated = rt at *
      generalize x k = v at *
      cases hpv : powB v with
      | false =>
        have HE : Hid (siteV S C W x = false) := HRK.out (by have h := mt HPI.out.1 (by rw [hpv]; simp); omega)
        go_wp2_with fail
        (refine wp_region_kept wr (by kernel_rfl) (by kernel_rfl) (by assumption) ?_; (repeat (go_big_quiet_step ((first | (go_at_call 64; exact kept_same (in_pow _ _ hpv)))))); refine wpQuiet_nil ?_; intro _ hw'; obtain ⟨x9, hw''⟩ := hw'; subst hw''; have hk9 := after_kept x9; generalize after x9 = w9 at *)
        obtain ⟨hc9, hb9⟩ := hk9
        clear hc9
        go_wp2_with fail
        go_ret
        exact ⟨ret_bool HE.out.symm, below_step hb0 (below_step hbw hb9)⟩
      | true =>
        have hcase : (tp < v) ∨ (¬ tp < v ∧ rt < v) ∨ (¬ tp < v ∧ ¬ rt < v) := by omega
        rcases hcase with h1 | ⟨h1, h2⟩ | ⟨h1, h2⟩
        · have HE : Hid (siteV S C W x = false) := HRK.out (by have h := mt HPI.out.1 (by omega); omega)
          have d1 : decide (tp < v) = true := decide_eq_true h1
          go_wp2_with fail
          (refine wp_region_kept wr (by kernel_rfl) (by kernel_rfl) (by assumption) ?_; (repeat (go_big_quiet_step ((first | (go_at_call 64; exact kept_same (in_pow _ _ hpv)))))); refine wpQuiet_nil ?_; intro _ hw'; obtain ⟨x9, hw''⟩ := hw'; subst hw''; have hk9 := after_kept x9; generalize after x9 = w9 at *)
          obtain ⟨hc9, hb9⟩ := hk9
          clear hc9
          go_wp2_with fail
          go_ret
          exact ⟨ret_bool HE.out.symm, below_step hb0 (below_step hbw hb9)⟩
        · have HE : Hid (siteV S C W x = false) := HRK.out (by have h := mt HPI.out.1 (by omega); omega)
          have d1 : decide (tp < v) = false := decide_eq_false h1
          have d2 : decide (rt < v) = true := decide_eq_true h2
          go_wp2_with fail
          (refine wp_region_kept wr (by kernel_rfl) (by kernel_rfl) (by assumption) ?_; (repeat (go_big_quiet_step ((first | (go_at_call 64; exact kept_same (in_pow _ _ hpv)))))); refine wpQuiet_nil ?_; intro _ hw'; obtain ⟨x9, hw''⟩ := hw'; subst hw''; have hk9 := after_kept x9; generalize after x9 = w9 at *)
          obtain ⟨hc9, hb9⟩ := hk9
          clear hc9
          go_wp2_with fail
          go_ret
          exact ⟨ret_bool HE.out.symm, below_step hb0 (below_step hbw hb9)⟩
        · have HN := Lib.hid (HGN.out (HPI.out.2 ⟨hpv, by omega, by omega⟩))
          have d1 : decide (tp < v) = false := decide_eq_false h1
          have d2 : decide (rt < v) = false := decide_eq_false h2
          go_wp2_with fail
          (refine wp_region_kept wr (by kernel_rfl) (by kernel_rfl) (by assumption) ?_; (repeat (go_big_quiet_step ((first | (go_at_call 64; exact kept_same (in_pow _ _ hpv)))))); refine wpQuiet_nil ?_; intro _ hw'; obtain ⟨x9, hw''⟩ := hw'; subst hw''; have hk9 := after_kept x9; generalize after x9 = w9 at *)
          obtain ⟨hc9, hb9⟩ := hk9
          clear hc9
          go_wp2_with fail
          go_roundw
          case measure => simp [intOf] <;> omega
          case rel => exact ⟨k + 1, by omega, by go_num, below_step hbw hb9, HN.out⟩
    · have hki : ¬ (k : Int) < (W.length : Int) := by omega
      have HGA : Hid (∀ j (h : j < W.length), 0 ≤ x j ∧ x j ≤ greatW S.P W[j]) := fun j h => HG.out j h (by omega)
      have HSM := Lib.hid (sums_any S W (listV W.length x) _ _ _ _ wr (HF0.out.below hbw) (HP0.out.below hbw) (HW0'.out.below hbw) (HZ0.out.below hbw) HOK.out (by rw [listV_len]) (carry_all HA.out HGA.out) hlW)
      have HRV : Hid (siteV S C W x = ((((overL C (loadL S.F S.P (W.zip (listV W.length x)))).length : Int)) == 0)) := by
        unfold Hid
        rw [len_zero, Bool.eq_iff_iff, HIF.out, decide_eq_true_eq]
        exact ⟨fun h => h.2, fun h => ⟨HGA.out, h⟩⟩
      clear HG HRG
      go_wp2_with (go_at_call 66; refine HSM.out.mono ?_; rintro e w3 ⟨v3, rfl, hs3, hb3⟩)
      refine (refOver_any C _ _ _ w3 ((HC0.out.below hbw).below hb3) hs3 (by omega) (by rw [loadL_len]; omega)).mono ?_
      rintro e w4 ⟨v4, rfl, hs4, hb4⟩
      obtain ⟨A4, c4, rfl, _, _, _⟩ := islen' hs4
      go_wp2_with fail
      go_ret
      exact ⟨ret_bool HRV.out.symm, below_step hb0 (below_step (below_step hbw hb3) hb4)⟩

end Go.Proofs.YtlpjniejbblcnaaDoor

namespace Go.Proofs.YtlpjniejbblcnaaDoor
set_option linter.unusedVariables false

/-- the search of the greatest level: d serves, and less than twice the step is wanting -/
structure SeekF (n : Nat) (F : Vec → Bool) (c : Vec) (s : FSt) (step d : Int) : Prop where
  d0 : 0 ≤ d
  top : d + 2 * step ≤ 2097152
  fit : F (levF s.x c s.a d) = true
  stp : (step = 0 ∧ (F (levF s.x c s.a (d + 1)) = false ∨ 2097152 ≤ d + 1)) ∨ (∃ j : Nat, j ≤ 20 ∧ step = ((2 ^ j : Nat) : Int) ∧ (F (levF s.x c s.a (d + 2 * step)) = false ∨ 2097152 ≤ d + 2 * step))
theorem SeekF.start {n : Nat} {F : Vec → Bool} {c : Vec} {s : FSt} (hF : FillOk n F) (hs : s.ok n F c) : SeekF n F c s 1048576 0 :=
  ⟨Int.le_refl _, by decide, by rw [hF.congr (fun i hi => (lev_le hs.rng (d := 0) (e := 0) (by omega) (by omega) i hi).1) (lev_zero hs.rng)]; exact hs.fit, .inr ⟨20, by omega, by decide, .inr (by decide)⟩⟩
section
variable {n : Nat} {F : Vec → Bool} {c : Vec} {s : FSt} {step d : Int}
theorem SeekF.pos (h : SeekF n F c s step d) (h0 : 0 < step) : ∃ j : Nat, j ≤ 20 ∧ step = ((2 ^ j : Nat) : Int) ∧ (F (levF s.x c s.a (d + 2 * step)) = false ∨ 2097152 ≤ d + 2 * step) := by
  rcases h.stp with ⟨a, _⟩ | a
  · omega
  · exact a
theorem SeekF.bd (h : SeekF n F c s step d) : 0 ≤ step ∧ step ≤ 1048576 ∧ d ≤ 2097152 := by
  have := h.top
  have := h.d0
  rcases h.stp with ⟨a, _⟩ | ⟨j, hj, e, _⟩
  · omega
  · have : (0 : Int) < ((2 ^ j : Nat) : Int) := by exact_mod_cast Nat.pow_pos (by omega)
    omega
theorem half_pow (j : Nat) : (j = 0 ∧ ((2 ^ j : Nat) : Int) / 2 = 0 ∧ ((2 ^ j : Nat) : Int) = 1) ∨ (∃ i, j = i + 1 ∧ ((2 ^ j : Nat) : Int) / 2 = ((2 ^ i : Nat) : Int) ∧ ((2 ^ j : Nat) : Int) = 2 * ((2 ^ i : Nat) : Int)) := by
  cases j with
  | zero => exact .inl ⟨rfl, by decide, rfl⟩
  | succ i =>
    right
    have : (2 ^ (i + 1) : Nat) = 2 * 2 ^ i := by rw [Nat.pow_succ, Nat.mul_comm]
    refine ⟨i, rfl, ?_, ?_⟩ <;> rw [this] <;> omega
theorem SeekF.yes (h : SeekF n F c s step d) (h0 : 0 < step) (hf : F (levF s.x c s.a (d + step)) = true) : SeekF n F c s (step / 2) (d + step) := by
  obtain ⟨j, hj, e, g⟩ := h.pos h0
  have ht := h.top
  have hd := h.d0
  rcases half_pow j with ⟨rfl, e1, e2⟩ | ⟨i, rfl, e1, e2⟩
  · rw [e] at hf g ht h0 ⊢
    rw [e1]
    rw [e2] at hf g ht ⊢
    refine ⟨by omega, by omega, hf, .inl ⟨rfl, ?_⟩⟩
    rw [show d + 1 + 1 = d + 2 * 1 by omega]; exact g
  · rw [e] at hf g ht h0 ⊢
    rw [e1]
    rw [e2] at hf g ht h0 ⊢
    refine ⟨by omega, by omega, hf, .inr ⟨i, by omega, rfl, ?_⟩⟩
    rw [show d + 2 * ((2 ^ i : Nat) : Int) + 2 * ((2 ^ i : Nat) : Int) = d + 2 * (2 * ((2 ^ i : Nat) : Int)) by omega]; exact g
theorem SeekF.no (h : SeekF n F c s step d) (h0 : 0 < step) (hf : F (levF s.x c s.a (d + step)) = false) : SeekF n F c s (step / 2) d := by
  obtain ⟨j, hj, e, g⟩ := h.pos h0
  have ht := h.top
  have hd := h.d0
  have hfit := h.fit
  rcases half_pow j with ⟨rfl, e1, e2⟩ | ⟨i, rfl, e1, e2⟩
  · rw [e] at hf ht ⊢
    rw [e1]
    rw [e2] at hf ht
    exact ⟨hd, by omega, hfit, .inl ⟨rfl, .inl hf⟩⟩
  · rw [e] at hf ht h0 ⊢
    rw [e1]
    rw [e2] at hf ht h0
    exact ⟨hd, by omega, hfit, .inr ⟨i, by omega, rfl, .inl hf⟩⟩
theorem SeekF.stop (h : SeekF n F c s step d) (h0 : ¬ 0 < step) (hs : s.ok n F c) (hc : ∀ i, i < n → c i ≤ 1048576) : IsTop n F c s d := by
  refine ⟨h.d0, h.fit, ?_⟩
  rcases h.stp with ⟨rfl, g | g⟩ | ⟨j, hj, e, _⟩
  · exact .inr g
  · left
    intro i hi _
    have := hc i hi
    have := hs.rng i hi
    omega
  · have : (0 : Int) < ((2 ^ j : Nat) : Int) := by exact_mod_cast Nat.pow_pos (by omega)
    omega
end

/-- rounds: what is left to do leads to the end -/
def RndsF (n : Nat) (F : Vec → Bool) (c : Vec) (s : FSt) : Prop := ∃ k, cntF s.a n ≤ k ∧ fillN n F c k s = fillN n F c n (startF n)
theorem RndsF.start (n : Nat) (F : Vec → Bool) (c : Vec) : RndsF n F c (startF n) := ⟨n, cnt_top _ n, rfl⟩
theorem RndsF.next {n : Nat} {F : Vec → Bool} {c : Vec} {s : FSt} (h : RndsF n F c s) (hF : FillOk n F) (hs : s.ok n F c) (h0 : cntF s.a n ≠ 0) {d : Int} (hd : IsTop n F c s d) : RndsF n F c (rndF n F c s d) ∧ cntF (rndF n F c s d).a n < cntF s.a n := by
  obtain ⟨k, hk, e⟩ := h
  have hc := rnd_cnt hF hs h0 hd
  obtain ⟨m, rfl⟩ : ∃ m, k = m + 1 := ⟨k - 1, by omega⟩
  rw [fill_step hF hs h0 hd] at e
  exact ⟨⟨m, by omega, e⟩, hc⟩
theorem RndsF.stop {n : Nat} {F : Vec → Bool} {c : Vec} {s : FSt} (h : RndsF n F c s) (h0 : cntF s.a n = 0) : s = fillN n F c n (startF n) := by
  obtain ⟨k, hk, e⟩ := h
  rw [← e, fill_done h0]
theorem cnt_start (n : Nat) : ∀ k, k ≤ n → cntF (startF n).a k = k
  | 0, _ => rfl
  | k + 1, h => by
    have := cnt_start n k (by omega)
    unfold cntF
    rw [this]
    have : (startF n).a k = true := by exact decide_eq_true (show k < n by omega)
    rw [this]; rfl
/-- a step counts at most one less -/
theorem cnt_off {a : Act} {i : Nat} (ha : a i = true) : ∀ n, i < n → cntF (updF a i false) n + 1 = cntF a n
  | n + 1, h => by
    unfold cntF
    by_cases q : i = n
    · subst q
      have : ∀ k, k ≤ i → cntF (updF a i false) k = cntF a k := by
        intro k
        induction k with
        | zero => intro _; rfl
        | succ k ih =>
          intro hk
          unfold cntF
          rw [ih (by omega), upd_other (by omega)]
      rw [this i (Nat.le_refl _), upd_same, ha]; rfl
    · have := cnt_off ha n (by omega)
      rw [upd_other (Ne.symm q)]
      split <;> omega
end Go.Proofs.YtlpjniejbblcnaaDoor

namespace Go.Proofs.YtlpjniejbblcnaaDoor
open Go.RowKit Go.Lib Go.Maps
set_option linter.unusedVariables false

/-- a slice, as its parts -/
abbrev SlH := Option Addr × Nat × Nat
def SlH.val (x : SlH) : Value := .slice x.1 x.2.1 x.2.2
def encSl (x : SlH) : List Value := [x.val]
theorem encSl_len (x : SlH) : (encSl x).length = 1 := rfl
theorem encSl_one (x : SlH) : ∀ u ∈ encSl x, u.oneCell' = true := fun u hu => by
  simp [encSl] at hu; subst hu; rfl
theorem own_val {w : World} {B s n : Nat} {e : TypeId} {v : Value} {xs : List Value} (h : w.ownsRow B e s v n xs) : ∃ x : SlH, v = x.val := by
  rcases h.2 with ⟨rfl, _⟩ | ⟨g, cap, cur, rfl, _⟩
  · exact ⟨(none, 0, 0), rfl⟩
  · exact ⟨(some ⟨g, 0, none⟩, n, cap), rfl⟩
/-- a path of the call's own, apart from other blocks -/
structure PathM (w : World) (N db : Nat) (pv gv sv : Value) (u : Value) (l : List Nat) : Prop where
  own : w.ownsRow N 3 1 u l.length (l.flatMap encN)
  p : Apart pv u
  g : Apart gv u
  s : Apart sv u
  d : u.ownBlock ≠ some db
structure RunM (w : World) (N db : Nat) (cv wv pv gv sv : Value) (us : List SlH) (ps : List (List Nat)) (gs ss : List Int) : Prop where
  d : Blk w db 66 [cv, wv, pv, gv]
  dN : N ≤ db
  p : w.ownsRow N 22 1 pv us.length (us.flatMap encSl)
  g : w.ownsRow N 3 1 gv gs.length (gs.flatMap encZ)
  s : w.ownsRow N 3 1 sv ss.length (ss.flatMap encZ)
  apg : Apart pv gv
  aps : Apart pv sv
  ags : Apart gv sv
  pd : pv.ownBlock ≠ some db
  gd : gv.ownBlock ≠ some db
  sd : sv.ownBlock ≠ some db
  len : us.length = ps.length
  u : ∀ (k : Nat) (x : SlH) (l : List Nat), us[k]? = some x → ps[k]? = some l → PathM w N db pv gv sv x.val l
theorem own_new_block {v : Value} {w : World} {B s n : Nat} {e : TypeId} {xs : List Value} (h : w.ownsRow B e s v n xs) : ∀ g, v.ownBlock = some g → B ≤ g ∧ g < w.heap.size := fun g hg => h.lt g hg
section
variable {w w' : World} {N db : Nat} {cv wv pv gv sv : Value} {us : List SlH} {ps : List (List Nat)} {gs ss : List Int}
theorem PathM.below {u : Value} {l : List Nat} (h : PathM w N db pv gv sv u l) (hb : Below w.heap.size w w') : PathM w' N db pv gv sv u l := ⟨own_below h.own hb, h.p, h.g, h.s, h.d⟩
theorem RunM.below (h : RunM w N db cv wv pv gv sv us ps gs ss) (hb : Below w.heap.size w w') : RunM w' N db cv wv pv gv sv us ps gs ss :=
  ⟨h.d.below hb h.d.lt, h.dN, own_below h.p hb, own_below h.g hb, own_below h.s hb, h.apg, h.aps, h.ags, h.pd, h.gd, h.sd, h.len, fun k x l h1 h2 => (h.u k x l h1 h2).below hb⟩
theorem kept_nb {row : Option Nat} {T : TypeId} {cur : List Value} (h : Blk w db T cur) (hg : w.grownBy w' row) (hn : row ≠ some db) : Blk w' db T cur :=
  (hg.block db h.lt (fun e => hn e.symm)).trans h
theorem kept_own {B s n : Nat} {e : TypeId} {v : Value} {xs : List Value} {row : Option Nat} (h : w.ownsRow B e s v n xs) (hg : w.grownBy w' row) (hn : ∀ g, row = some g → v.ownBlock ≠ some g) : w'.ownsRow B e s v n xs := by
  refine h.kept hg ?_
  cases hb : v.ownBlock with
  | none => exact .inl rfl
  | some g => exact .inr (fun e => hn g e.symm hb)
theorem grown_nb {v v' : Value} (hv : v.ownBlock ≠ some db) (hd : db < w.heap.size) (hat : ∀ g, v'.ownBlock = some g → v.ownBlock = some g ∨ w.heap.size ≤ g) : v'.ownBlock ≠ some db := fun e => by
  rcases hat db e with h | h
  · exact hv h
  · omega
theorem grown_apart {v v' u : Value} {B s n : Nat} {e : TypeId} {xs : List Value} (hu : w.ownsRow B e s u n xs) (ha : Apart v u) (hat : ∀ g, v'.ownBlock = some g → v.ownBlock = some g ∨ w.heap.size ≤ g) : Apart v' u := fun g hg hu' => by
  rcases hat g hg with h | h
  · exact ha g h hu'
  · have := (hu.lt g hu').2; omega
/-- the shares grow -/
theorem RunM.snocS (h : RunM w N db cv wv pv gv sv us ps gs ss) {sv' : Value} {c : Int} (hg : w.grownBy w' sv.ownBlock) (hown : w'.ownsRow N 3 1 sv' (ss.length + 1) (ss.flatMap encZ ++ encZ c)) (hat : ∀ g, sv'.ownBlock = some g → sv.ownBlock = some g ∨ w.heap.size ≤ g) :
    RunM w' N db cv wv pv gv sv' us ps gs (ss ++ [c]) := by
  refine ⟨kept_nb h.d hg h.sd, h.dN, kept_own h.p hg (fun g e => ?_), kept_own h.g hg (fun g e => ?_), ?_, h.apg, ?_, ?_, h.pd, h.gd, grown_nb h.sd h.d.lt hat, h.len, fun k x l h1 h2 => ?_⟩
  · exact fun e2 => h.aps g e2 e
  · exact fun e2 => h.ags g e2 e
  · rw [List.length_append, List.flatMap_append]; simpa using hown
  · exact (grown_apart h.p h.aps.symm hat).symm
  · exact (grown_apart h.g h.ags.symm hat).symm
  · have hu := h.u k x l h1 h2
    exact ⟨kept_own hu.own hg (fun g e => hu.s g e), hu.p, hu.g, grown_apart hu.own hu.s hat, hu.d⟩
/-- the greatest powers grow, and are laid into the division -/
theorem RunM.snocG (h : RunM w N db cv wv pv gv sv us ps gs ss) {gv' : Value} {c : Int} (hg : w.grownBy w' gv.ownBlock) (hown : w'.ownsRow N 3 1 gv' (gs.length + 1) (gs.flatMap encZ ++ encZ c)) (hat : ∀ g, gv'.ownBlock = some g → gv.ownBlock = some g ∨ w.heap.size ≤ g) :
    RunM (w'.setCell ⟨db, 3, none⟩ gv') N db cv wv pv gv' sv us ps (gs ++ [c]) ss := by
  have hd' := grown_nb h.gd h.d.lt hat
  have hset : w'.grownBy (w'.setCell ⟨db, 3, none⟩ gv') (some db) := grown_set ⟨rfl, rfl, rfl, Nat.le_refl _, fun _ _ _ => rfl⟩ _ _
  have hne : ∀ {v : Value}, v.ownBlock ≠ some db → ∀ g, some db = some g → v.ownBlock ≠ some g := fun hv g e => by injection e with e; subst e; exact hv
  refine ⟨(kept_nb h.d hg h.gd).set 3 gv', h.dN, kept_own (kept_own h.p hg (fun g e => ?_)) hset (hne h.pd), ?_, kept_own (kept_own h.s hg (fun g e => h.ags g e)) hset (hne h.sd), ?_, h.aps, ?_, h.pd, hd', h.sd, h.len, fun k x l h1 h2 => ?_⟩
  · exact fun e2 => h.apg g e2 e
  · refine kept_own ?_ hset (hne hd')
    rw [List.length_append, List.flatMap_append]; simpa using hown
  · exact (grown_apart h.p h.apg.symm hat).symm
  · exact grown_apart h.s h.ags hat
  · have hu := h.u k x l h1 h2
    exact ⟨kept_own (kept_own hu.own hg (fun g e => hu.g g e)) hset (hne hu.d), hu.p, grown_apart hu.own hu.g hat, hu.s, hu.d⟩
/-- a path is laid beside the others -/
theorem RunM.snocP (h : RunM w N db cv wv pv gv sv us ps gs ss) {pv' : Value} {x : SlH} {l : List Nat} (hx : w.ownsRow N 3 1 x.val l.length (l.flatMap encN)) (hnew : ∀ g, x.val.ownBlock = some g → pv.ownBlock ≠ some g ∧ gv.ownBlock ≠ some g ∧ sv.ownBlock ≠ some g ∧ g ≠ db)
    (hg : w.grownBy w' pv.ownBlock) (hown : w'.ownsRow N 22 1 pv' (us.length + 1) (us.flatMap encSl ++ encSl x)) (hat : ∀ g, pv'.ownBlock = some g → pv.ownBlock = some g ∨ w.heap.size ≤ g) :
    RunM (w'.setCell ⟨db, 2, none⟩ pv') N db cv wv pv' gv sv (us ++ [x]) (ps ++ [l]) gs ss := by
  have hd' := grown_nb h.pd h.d.lt hat
  have hset : w'.grownBy (w'.setCell ⟨db, 2, none⟩ pv') (some db) := grown_set ⟨rfl, rfl, rfl, Nat.le_refl _, fun _ _ _ => rfl⟩ _ _
  have hne : ∀ {v : Value}, v.ownBlock ≠ some db → ∀ g, some db = some g → v.ownBlock ≠ some g := fun hv g e => by injection e with e; subst e; exact hv
  have hxp : Apart pv x.val := fun g h1 h2 => (hnew g h2).1 h1
  refine ⟨(kept_nb h.d hg h.pd).set 2 pv', h.dN, ?_, kept_own (kept_own h.g hg (fun g e => h.apg g e)) hset (hne h.gd), kept_own (kept_own h.s hg (fun g e => h.aps g e)) hset (hne h.sd), grown_apart h.g h.apg hat, grown_apart h.s h.aps hat, h.ags, hd', h.gd, h.sd, by simp [h.len], fun k y m h1 h2 => ?_⟩
  · refine kept_own ?_ hset (hne hd')
    rw [List.length_append, List.flatMap_append]; simpa using hown
  · by_cases q : k < us.length
    · rw [List.getElem?_append_left q] at h1
      rw [List.getElem?_append_left (by rw [← h.len]; exact q)] at h2
      have hu := h.u k y m h1 h2
      exact ⟨kept_own (kept_own hu.own hg (fun g e => hu.p g e)) hset (hne hu.d), grown_apart hu.own hu.p hat, hu.g, hu.s, hu.d⟩
    · have hk : k = us.length := by have := (List.getElem?_eq_some_iff.1 h1).1; simp at this; omega
      subst hk
      have hy : x = y := by simpa using h1
      have hm : l = m := by rw [h.len] at h2; simpa using h2
      subst hy hm
      have hxd : x.val.ownBlock ≠ some db := fun e => (hnew db e).2.2.2 rfl
      exact ⟨kept_own (kept_own hx hg (fun g e => hxp g e)) hset (hne hxd), grown_apart hx hxp hat, fun g h1 h2 => (hnew g h2).2.1 h1, fun g h1 h2 => (hnew g h2).2.2.1 h1, hxd⟩
/-- a share is put out -/
theorem RunM.setS {b cap i n : Nat} (h : RunM w N db cv wv pv gv (.slice (some ⟨b, 0, none⟩) n cap) us ps gs ss) (hn : ss.length = n) (hi : i < ss.length) (c : Int) : RunM (w.setCell ⟨b, i, none⟩ (.int .i64 c)) N db cv wv pv gv (.slice (some ⟨b, 0, none⟩) n cap) us ps gs (ss.set i c) := by
  subst hn
  obtain ⟨hs, hg⟩ := h.s.stored i (.int .i64 c)
  have hb : (Value.slice (some (⟨b, 0, none⟩ : Addr)) ss.length cap).ownBlock = some b := rfl
  have hset : (ss.flatMap encZ).set i (.int .i64 c) = (ss.set i c).flatMap encZ := by
    have e : ∀ l : List Int, l.flatMap encZ = l.map (Value.int .i64) := fun l => by
      induction l with
      | nil => rfl
      | cons x l ih => rw [List.flatMap_cons, ih]; rfl
    rw [e, e, List.map_set]
  refine ⟨kept_nb h.d hg (fun e => h.sd (hb.trans e)), h.dN, kept_own h.p hg (fun g e => ?_), kept_own h.g hg (fun g e => ?_), ?_, h.apg, h.aps, h.ags, h.pd, h.gd, h.sd, h.len, fun k x l h1 h2 => ?_⟩
  · exact fun e2 => h.aps g e2 (hb.trans e)
  · exact fun e2 => h.ags g e2 (hb.trans e)
  · rw [List.length_set, ← hset]; exact hs
  · have hu := h.u k x l h1 h2
    exact ⟨kept_own hu.own hg (fun g e => hu.s g (hb.trans e)), hu.p, hu.g, hu.s, hu.d⟩
/-- the division that the filling asks -/
theorem RunM.divIn {S : SiteR} {C : List CapR} {W : List WantR} (h : RunM w N db cv wv pv gv sv us (W.map (wantPath S.F S.P)) (W.map (greatW S.P)) ss) (hc : IsSl w 4 cv (C.map CapR.cells)) (hw : IsSl w 3 wv (W.map WantR.cells)) : DivIn w S C W cv wv pv gv := by
  have hl : us.length = W.length := by have := h.len; rwa [List.length_map] at this
  obtain ⟨A, c, e, h1, h2, h3⟩ := IsSl.of_own encSl_len h.p rfl
  rw [List.length_map] at e h1
  refine ⟨hc, hw, ⟨A, c, by rw [e, hl], by omega, h2, fun k l hk => ?_⟩, ?_⟩
  · have hkl : k < us.length := by rw [hl]; have := (List.getElem?_eq_some_iff.1 hk).1; simpa using this
    obtain ⟨b, off, hA, hb, hcell⟩ := h3 k (encSl us[k]) (by rw [List.getElem?_map, List.getElem?_eq_getElem hkl]; rfl)
    refine ⟨b, off, us[k].val, hA, hb, ?_, IsSl.of_own encN_len (h.u k us[k] l (List.getElem?_eq_getElem hkl) hk).own rfl⟩
    have := hcell 0 _ rfl
    simpa using this
  · have := IsSl.of_own (l := W.map (greatW S.P)) encZ_len h.g rfl
    exact this
end

theorem RunM.start {w : World} {N : Nat} (cv wv : Value) (hN : N ≤ w.heap.size) : RunM (w.alloc (.cells #[cv, wv, .slice none 0 0, .slice none 0 0] 66)) N w.heap.size cv wv (.slice none 0 0) (.slice none 0 0) (.slice none 0 0) [] [] [] [] :=
  ⟨Blk.new' rfl _ _ rfl, hN, World.ownsRow_nil _ _ _ _, World.ownsRow_nil _ _ _ _, World.ownsRow_nil _ _ _ _, fun g h => by simp [Value.ownBlock] at h, fun g h => by simp [Value.ownBlock] at h, fun g h => by simp [Value.ownBlock] at h, by simp [Value.ownBlock], by simp [Value.ownBlock], by simp [Value.ownBlock], rfl, fun k x l h => by simp at h⟩
/-- a path made by a call -/
theorem RunM.path {w0 w1 w2 : World} {N db : Nat} {cv wv pv gv sv : Value} {us : List SlH} {ps : List (List Nat)} {gs ss : List Int} (h : RunM w0 N db cv wv pv gv sv us ps gs ss) (hb : Below w0.heap.size w0 w1) {v : Value} {l : List Nat}
    (hown : w2.ownsRow w1.heap.size 3 1 v l.length (l.flatMap encN)) (hb2 : Below w1.heap.size w1 w2) (hN : N ≤ w0.heap.size) :
    ∃ (xa : Option Addr) (xn xc : Nat), v = .slice xa xn xc ∧ RunM w2 N db cv wv pv gv sv us ps gs ss ∧ w2.ownsRow N 3 1 (.slice xa xn xc) l.length (l.flatMap encN) ∧ ∀ g, (Value.slice xa xn xc).ownBlock = some g → pv.ownBlock ≠ some g ∧ gv.ownBlock ≠ some g ∧ sv.ownBlock ≠ some g ∧ g ≠ db := by
  obtain ⟨x, rfl⟩ := own_val hown
  have hz := hb.size
  refine ⟨x.1, x.2.1, x.2.2, rfl, h.below (below_step hb hb2), own_mono hown (by omega), fun g hg => ?_⟩
  have h1 := (hown.lt g hg).1
  have hlt : ∀ {v : Value} {B s n : Nat} {e : TypeId} {xs : List Value}, w0.ownsRow B e s v n xs → v.ownBlock ≠ some g := fun ho e => by
    have := (ho.lt g e).2; omega
  exact ⟨hlt h.p, hlt h.g, hlt h.s, by have := h.d.lt; omega⟩
theorem RunM.alloc {w : World} {N db : Nat} {cv wv pv gv sv : Value} {us : List SlH} {ps : List (List Nat)} {gs ss : List Int} (h : RunM w N db cv wv pv gv sv us ps gs ss) (o : Obj) : RunM (w.alloc o) N db cv wv pv gv sv us ps gs ss := h.below (below_alloc (Below.refl _ _) _)
theorem lit_one (w : World) (v : Value) (T : TypeId) : SlAt (w.alloc (.cells #[v] T)) 1 (some ⟨w.heap.size, 0, none⟩) [[v]] := fun k row hk => by
  match k, hk with
  | 0, hk =>
    simp at hk; subst hk
    refine ⟨_, 0, rfl, by simp, fun j u hu => ?_⟩
    rw [World.cell?_alloc_mark w #[v] T (0, 0)]
    simpa using hu
  | k + 1, hk => simp at hk

end Go.Proofs.YtlpjniejbblcnaaDoor
