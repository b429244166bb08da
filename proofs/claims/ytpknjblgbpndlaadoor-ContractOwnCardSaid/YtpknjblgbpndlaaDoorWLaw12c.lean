/-
  Walks: the law ContractOwn.
-/
import Derived.Test.YtpknjblgbpndlaaDoorWConB
import Derived.Test.YtpknjblgbpndlaaDoorAp2
namespace Go.Proofs.YtpknjblgbpndlaaDoor
open Go.RowKit Go.Lib Go.Maps
set_option linter.unusedVariables false

section
variable {P : Program} (w : World)
/-- as step_append_list, of an operation behind a guard -/
theorem step_append_list_w {α : Type} {enc : α → List Value} {ops : Array Oper} {o : Oper} {a : Act} {K : Act → World → Prop} {Q : Exit → Act → World → Prop} {E : Prop} (hw : Region.wanted o (yielded ops a.tmps) = true) (s x : Operand) (t : TypeId)
    (ho : o.op = .call { callee := .builtin .append, args := #[s, x], argTypes := #[t, t] })
    (base : Nat) (e : TypeId) (i : TypeInfo) (z : Value) (size bytes : Nat) (ht : P.underlying t = some (.slice e)) (hi : P.info? e = some i) (hz : i.zero = some z)
    (hsize : i.size = size) (hby : i.bytes = bytes) (hzs : z.cells.size = size) (hsz : 0 < size) (henc : ∀ x, (enc x).length = size) (hone : ∀ x, ∀ u ∈ enc x, u.oneCell' = true)
    (v : Value) (n : Nat) (xs : List Value) (hs : a.eval s = v) (hown : w.ownsRow base e size v n xs) (A : Option Addr) (c m : Nat) (l : List α) (hm : l.length = m) (hx : a.eval x = .slice A m c) (hsl : SlAt w size A (l.map enc))
    (h63 : n + m ≤ maxLen) (hbytes : (n + m) * bytes ≤ 140737488355328) (hbase : base ≤ w.heap.size)
    (h : ∀ v' w', w'.ownsRow base e size v' (n + m) (xs ++ l.flatMap enc) → w.grownBy w' v.ownBlock → (v' = .slice none 0 0 ↔ v = .slice none 0 0 ∧ m = 0) → (∀ g, v'.ownBlock = some g → v.ownBlock = some g ∨ w.heap.size ≤ g) → K (a.put o.dst v') w') :
    if Region.wanted o (yielded ops a.tmps) = true then Oper.wp P o a w K Q else E := by
  subst hm
  rw [if_pos hw]
  obtain ⟨v', w', hrun, h2, h3, h4, h5⟩ := run_append_list (P := P) w base t o.type e i z size bytes ht hi hz hsize hby hzs hsz henc hone v n xs hown A c l hsl h63 hbytes hbase
  unfold Oper.wp execOp
  simp only [ho, resolve, invoke, builtin, Sem.run_bind, Sem.run_pure, Result.andThen_ok, List.map_toArray, List.map_cons, List.map_nil, hs, hx, hrun]
  refine h v' w' h2 h3 h4 (fun g hg => ?_)
  rcases h5 with h5 | h5
  · exact .inl (h5 ▸ hg)
  · rw [h5] at hg
    injection hg with hg
    right; omega
end

/-- the contracts of a feeder from place j on, the last one first -/
def revC (l : List ConR) (f : Int) (j : Nat) : List ConR := (l.drop j).reverse.filter (fun c => c.fd == f)
theorem revC_end (l : List ConR) (f : Int) : revC l f l.length = [] := by unfold revC; simp
theorem revC_step {l : List ConR} {f : Int} {j : Nat} (h : j < l.length) : revC l f j = if l[j].fd = f then revC l f (j + 1) ++ [l[j]] else revC l f (j + 1) := by
  unfold revC
  rw [List.drop_eq_getElem_cons h, List.reverse_cons, List.filter_append]
  by_cases e : l[j].fd = f
  · rw [if_pos e]; simp [e]
  · rw [if_neg e]; simp [e]
theorem revC_len (l : List ConR) (f : Int) (j : Nat) : (revC l f j).length ≤ l.length := by
  unfold revC
  refine Nat.le_trans (List.length_filter_le _ _) ?_
  rw [List.length_reverse, List.length_drop]
  omega
theorem revC_at (l : List ConR) (z : ZoneR) (f t : Int) : cAt (revC l f 0) z f t = cAt l z f t :=
  cAt_same fun m => by
    constructor
    · rintro ⟨c, hc, h1, h2⟩
      have := (List.mem_filter.1 hc).1
      exact ⟨c, by simpa using this, h1, h2⟩
    · rintro ⟨c, hc, h1, h2⟩
      exact ⟨c, List.mem_filter.2 ⟨by simpa using hc, by simpa using (cOn_iff.1 h1).1⟩, h1, h2⟩
theorem more_le (l : List ConR) (x : ConR) (z : ZoneR) (f t : Int) : cAt (l ++ [x]) z f t ≤ cAt l z f t := by rw [cAt_snoc]; exact cStep_le _ _ _ _ _
theorem one_con (w : World) (T : TypeId) (x : ConR) : SlAt (w.alloc (.cells #[.string x.nm, .int .i64 x.fd, .int .i64 x.w.dy, .int .i64 x.w.st, .int .i64 x.w.en, .int .i64 x.w.fr, .int .i64 x.w.to, .int .i64 x.tot] T)) 8 (some ⟨w.heap.size, 0, none⟩) ([x].map ConR.cells) :=
  rows_lit ConR.cells_len w T [x] _ (by simp [ConR.cells])

set_option maxRecDepth 100000 in
set_option maxHeartbeats 12800000 in
theorem lawConOwn (l : List ConR) (v : Value) (z : ZoneR) (t : Int) (mo : ConR) (w : World) (hv : LenV w) (hL : IsSl w 8 v (l.map ConR.cells)) :
    Calls Tryd.prog 9 #[v, .agg #[.int .i64 z.off, .bool z.sum], .int .i64 t, .agg #[.string mo.nm, .int .i64 mo.fd, .int .i64 mo.w.dy, .int .i64 mo.w.st, .int .i64 mo.w.en, .int .i64 mo.w.fr, .int .i64 mo.w.to, .int .i64 mo.tot]] w fun e w' => e = .returned (.bool true) ∧ Below w.heap.size w w' := by
  obtain ⟨W0, hW0, hb0, hg1, hg0, hx0, hy0⟩ := box2 w #[.int .i64 z.off, .bool z.sum] 26 #[.string mo.nm, .int .i64 mo.fd, .int .i64 mo.w.dy, .int .i64 mo.w.st, .int .i64 mo.w.en, .int .i64 mo.w.fr, .int .i64 mo.w.to, .int .i64 mo.tot] 43
  have HV := Lib.hid (hv.below hb0)
  replace hL := hL.below hb0
  clear hv
  have HIS := Lib.hid hL
  obtain ⟨A, c, rfl, hlc, hcm, hsl⟩ := hL
  rw [List.length_map] at hlc
  unfold maxLen at hcm
  simp only [List.length_map] at HIS ⊢
  by_cases h1 : (6 : Int) < (l.length : Int)
  · go_enter Tryd.func9, Tryd.ntmps9
    go_wp2_with fail
    rw [← hW0]
    clear hW0
    refine (awake12_any _ HV.out).mono ?_
    rintro e w2 ⟨rfl, hb2⟩
    go_wp2_with fail
    go_ret
    exact ⟨rfl, below_step hb0 hb2⟩
  have hl6 : l.length ≤ 6 := by omega
  obtain ⟨i0, hi, hz0, hz1, hz2⟩ := info_parts conInfo
  go_enter Tryd.func9, Tryd.ntmps9
  go_wp2_with fail
  rw [← hW0]
  clear hW0
  go_loopw [9] (fun i wr => ∃ k : Nat, k ≤ l.length ∧ i = .int .i64 k ∧ Below W0.heap.size W0 wr) (fun i _ => l.length - (intOf i).toNat)
  case atStart => exact ⟨0, by omega, rfl, Below.refl _ _⟩
  case round =>
    obtain ⟨k, hk, rfl, hbw⟩ := hrel
    obtain ⟨hc, hf⟩ := bcell hbw
    by_cases hlt : k < l.length
    · have hki : (k : Int) < (l.length : Int) := by omega
      obtain ⟨b, off, rfl, hb, c0, c1, c2, c3, c4, c5, c6, c7⟩ := con_at (hsl.below hbw) hlt
      have hwl : IntKind.i64.wrap ((l.length : Int) - 1) = (l.length : Int) - 1 := IntWalk.i64_in _ (by omega)
      have HLT := Lib.hid hlt
      have HAT := Lib.hid (fun f => revC_at l z f t)
      generalize l[k].fd = f at *
      generalize wr = wm at *
      go_wp2_with fail
      clear c0 c1 c2 c3 c4 c5 c6 c7 hwl
      go_loopw [11, 12] (fun y j wx => ∃ m : Nat, m ≤ l.length ∧ j = .int .i64 ((m : Int) - 1) ∧ Below wm.heap.size wm wx ∧ wx.ownsRow wm.heap.size 43 8 y (revC l f m).length ((revC l f m).flatMap ConR.cells)) (fun _ j _ => (intOf j + 1).toNat)
      case atStart => exact ⟨l.length, Nat.le_refl _, rfl, Below.refl _ _, by rw [revC_end]; exact World.ownsRow_nil _ _ _ _⟩
      case round =>
        clear hc hf
        obtain ⟨m, hm, rfl, hbx, hy⟩ := hrel
        have hbw2 := below_step hbw hbx
        obtain ⟨hc, hf⟩ := bcell hbw2
        rcases Nat.eq_zero_or_pos m with hm0 | hm0
        · subst hm0
          have HOW := Lib.hid (IsSl.of_own ConR.cells_len hy rfl)
          have hol := revC_len l f 0
          have HAT2 := Lib.hid (HAT.out f)
          have HME := Lib.hid (more_le (revC l f 0) mo z f t)
          obtain ⟨A2, cap2, rfl⟩ := own_shape hy
          generalize revC l f 0 = ow at *
          go_wp2_with fail
          refine (conAt_any l _ z f t _ (HV.out.below hbw2) (HIS.out.below hbw2)).mono ?_
          rintro e w3 ⟨rfl, hb3⟩
          have hbx3 := below_step hbx hb3
          have hbw3 := below_step hbw hbx3
          have hy3 := own_below hy hb3
          have HOW3 := Lib.hid (HOW.out.below hb3)
          clear hc hf hy HOW
          have x3 : ∀ j, w3.cell? ⟨w.heap.size, j, none⟩ = (#[.int .i64 z.off, .bool z.sum] : Array Value)[j]? := fun j => ((bcell hbw3).1 _ _ hg0).trans (hx0 j)
          have x4 : ∀ j, w3.cell? ⟨w.heap.size + 1, j, none⟩ = (#[.string mo.nm, .int .i64 mo.fd, .int .i64 mo.w.dy, .int .i64 mo.w.st, .int .i64 mo.w.en, .int .i64 mo.w.fr, .int .i64 mo.w.to, .int .i64 mo.tot] : Array Value)[j]? := fun j => ((bcell hbw3).1 _ _ hg1).trans (hy0 j)
          have hg3 : w.heap.size < w3.heap.size := Nat.lt_of_lt_of_le hg0 hbw3.size
          have hg4 : w.heap.size + 1 < w3.heap.size := Nat.lt_of_lt_of_le hg1 hbw3.size
          rw [← HAT2.out]
          have HV3 := Lib.hid (HV.out.below hbw3)
          have HC1 := Lib.hid (fun w' (h : Below w3.heap.size w3 w') => conAt_any ow (.slice A2 ow.length cap2) z f t w' (HV3.out.below h) (HOW3.out.below h))
          have HC2 := Lib.hid (fun v' w' (h : Below wm.heap.size wm w') hs => conAt_any (ow ++ [mo]) v' z f t w' (HV.out.below (below_step hbw h)) hs)
          have m3 : ∀ j, wm.cell? ⟨w.heap.size, j, none⟩ = (#[.int .i64 z.off, .bool z.sum] : Array Value)[j]? := fun j => ((bcell hbw).1 _ _ hg0).trans (hx0 j)
          have m4 : w.heap.size < wm.heap.size := Nat.lt_of_lt_of_le hg0 hbw.size
          have hme := HME.out
          generalize cAt ow z f t = n at *
          generalize cAt (ow ++ [mo]) z f t = n2 at *
          have hnn : (n != n) = false := by simp
          have hn2 : decide (n < n2) = false := by simp; omega
          have hn3 : ¬ n < n2 := by omega
          clear hx0 hy0 hg0 hg1
          go_wp2_with fail
          go_region_law ((first
            | (go_simp; go_at_call 19; have hz6 := hS6; refine (HC2.out _ _ hbm6 hS6.out).mono ?_; rintro e w7 ⟨rfl, hb7⟩; have hbm7 := below_step hbm6 hb7)
            | (go_simp; go_at_call 19; refine (HC1.out _ (Below.refl _ _).drew).mono ?_; rintro e w4 ⟨rfl, hb4⟩; have hb34 := below_step (Below.refl w3.heap.size w3).drew hb4; obtain ⟨hc4, hf4⟩ := bcell hb34; have y4 := old_allocC (w := w4) (b := w.heap.size) (Nat.lt_of_lt_of_le hg3 hb34.size); have hy4 := (own_below hy3 hb34).alloc (.cells #[.string mo.nm, .int .i64 mo.fd, .int .i64 mo.w.dy, .int .i64 mo.w.st, .int .i64 mo.w.en, .int .i64 mo.w.fr, .int .i64 mo.w.to, .int .i64 mo.tot] 43); have hg44 : w.heap.size < w4.heap.size := Nat.lt_of_lt_of_le hg3 hb34.size)
            | (refine step_append_list_w (enc := ConR.cells) _ (by rfl) (.tmp 63) (.tmp 65) _ (by rfl) wm.heap.size 43 i0 _ 8 72 Tryd.underlying50 hi hz0 hz1 hz2 rfl (by decide) ConR.cells_len ConR.cells_one _ _ _ (by rfl) hy4 _ 1 1 [mo] rfl (by rfl) (one_con w4 _ mo) (by unfold maxLen; omega) (by omega) (below_alloc (below_step hbx3 hb34) _).size ?_; intro v6 w6 hown6 hgrow6 hnil6 hblk6; have hbm6 := below_grown (below_alloc (below_step hbx3 hb34) _) hy4 (Nat.le_refl _) hgrow6; have hS6 : Hid (IsSl w6 8 v6 ((ow ++ [mo]).map ConR.cells)) := IsSl.of_own (l := ow ++ [mo]) ConR.cells_len (by rw [List.flatMap_append]; simpa using hown6) (by simp); obtain ⟨hc6, hf6⟩ := bcell hbm6)))
          all_goals
            go_wp2_with fail
            go_roundw
            case measure => simp [intOf]; omega
            case rel => exact ⟨k + 1, by have := HLT.out; omega, by go_num, below_step hbw hbm7⟩
        · obtain ⟨j, rfl⟩ : ∃ j, m = j + 1 := ⟨m - 1, by omega⟩
          have hjl : j < l.length := by omega
          obtain ⟨b2, off2, eg, hb2, c0, c1, c2, c3, c4, c5, c6, c7⟩ := con_at (hsl.below hbw2) hjl
          injection eg with eg
          injection eg with eg1 eg2 _
          subst eg1
          subst eg2
          have HS := Lib.hid (revC_step (f := f) hjl)
          have hol := revC_len l f (j + 1)
          have e1 : ((j + 1 : Nat) : Int) - 1 = (j : Int) := by omega
          have e2 : (0 : Int) ≤ (j : Int) := by omega
          have e3 : (j : Int) < (l.length : Int) := by omega
          have e4 : IntKind.i64.wrap ((j : Int) - 1) = (j : Int) - 1 := IntWalk.i64_in _ (by omega)
          rw [e1]
          clear e1
          generalize l[j] = x at *
          generalize revC l f (j + 1) = ow at *
          by_cases hfd : x.fd = f
          · have HS2 : Hid (revC l f j = ow ++ [x]) := by unfold Hid; rw [HS.out, if_pos hfd]
            have HFD := Lib.hid hfd
            go_wp2_with (at_builtin; refine wpList_append_row _ _ rfl (.tmp 43) (.tmp 48) _ rfl wm.heap.size 43 i0 _ 8 72 Tryd.underlying50 hi hz0 hz1 hz2 rfl (by decide) _ _ _ rfl hy _ rfl rfl (by intro u hu; simp at hu; rcases hu with rfl | rfl | rfl | rfl | rfl | rfl | rfl | rfl <;> rfl) (by omega) (by omega) hbx.size ?_; intro v' w4 hown hgrow hblk)
            have hb4 := below_grown hbx hy (Nat.le_refl _) hgrow
            clear hgrow hy
            go_roundw
            case measure => first | (simp [intOf]; done) | (simp [intOf]; omega)
            case rel => exact ⟨j, by omega, rfl, hb4, by rw [HS2.out, List.length_append, List.flatMap_append]; rw [← HFD.out] at hown; exact hown⟩
          · have HS2 : Hid (revC l f j = ow) := by unfold Hid; rw [HS.out, if_neg hfd]
            go_wp2_with fail
            go_roundw
            case measure => first | (simp [intOf]; done) | (simp [intOf]; omega)
            case rel => exact ⟨j, by omega, rfl, hbx, by rw [HS2.out]; exact hy⟩
    · have hki : ¬ (k : Int) < (l.length : Int) := by omega
      go_wp2_with fail
      refine (awake12_any _ (HV.out.below hbw)).mono ?_
      rintro e w5 ⟨rfl, hb5⟩
      go_wp2_with fail
      go_ret
      exact ⟨rfl, below_step hb0 (below_step hbw hb5)⟩

end Go.Proofs.YtpknjblgbpndlaaDoor
