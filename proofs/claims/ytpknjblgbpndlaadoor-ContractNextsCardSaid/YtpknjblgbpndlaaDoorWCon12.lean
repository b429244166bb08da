/-
  Walks: changes, first, later, Differs and border of the reference of contracts.
-/
import Derived.Test.YtpknjblgbpndlaaDoorWConB
import Derived.Test.YtpknjblgbpndlaaDoorAp2
namespace Go.Proofs.YtpknjblgbpndlaaDoor
open Go.RowKit Go.Lib Go.Maps
attribute [local go_sem] after_cell
set_option linter.unusedVariables false

section
variable {P : Program} (w : World)
/-- as step_append_list, of an operation behind a guard -/
theorem step_append_list_w {α : Type} {enc : α → List Value} {ops : Array Oper} {o : Oper} {a : Act} {K : Act → World → Prop} {Q : Exit → Act → World → Prop} {E : Prop} (hw : Region.wanted o (yielded ops a.tmps) = true) (s x : Operand) (t : TypeId)
    (ho : o.op = .call { callee := .builtin .append, args := #[s, x], argTypes := #[t, t] })
    (base : Nat) (e : TypeId) (i : TypeInfo) (z : Value) (size bytes : Nat) (ht : P.underlying t = some (.slice e)) (hi : P.info? e = some i) (hz : i.zero = some z)
    (hsize : i.size = size) (hby : i.bytes = bytes) (hzs : z.cells.size = size) (hsz : 0 < size) (henc : ∀ x, (enc x).length = size) (hone : ∀ x, ∀ u ∈ enc x, u.oneCell' = true)
    (v : Value) (n : Nat) (xs : List Value) (hs : a.eval s = v) (hown : w.ownsRow base e size v n xs) (A : Option Addr) (c m : Nat) (l : List α) (hm : l.length = m) (hx : a.eval x = .slice A m c) (hsl : SlAt w size A (l.map enc))
    (h63 : n + m ≤ maxLen) (hbytes : (n + m) * bytes ≤ 140737488355328) (hbase : base ≤ w.heap.size)
    (h : ∀ v' w', w'.ownsRow base e size v' (n + m) (xs ++ l.flatMap enc) → w.grownBy w' v.ownBlock → (v' = .slice none 0 0 ↔ v = .slice none 0 0 ∧ m = 0) → (∀ g, v'.ownBlock = some g → v.ownBlock = some g ∨ w.heap.size ≤ g) → K (a.put o.dst v') w') :
    if Region.wanted o (yielded ops a.tmps) = true then Oper.wp P o a w K Q else E := by
  subst hm
  rw [if_pos hw]
  obtain ⟨v', w', hrun, h2, h3, h4, h5⟩ := run_append_list (P := P) w base t o.type e i z size bytes ht hi hz hsize hby hzs hsz henc hone v n xs hown A c l hsl h63 hbytes hbase
  unfold Oper.wp execOp
  simp only [ho, resolve, invoke, builtin, Sem.run_bind, Sem.run_pure, Result.andThen_ok, List.map_toArray, List.map_cons, List.map_nil, hs, hx, hrun]
  refine h v' w' h2 h3 h4 (fun g hg => ?_)
  rcases h5 with h5 | h5
  · exact .inl (h5 ▸ hg)
  · rw [h5] at hg
    injection hg with hg
    right; omega
end

theorem map_take {α β : Type} (g : α → β) {l : List α} {k : Nat} (h : k < l.length) : (l.take (k + 1)).map g = (l.take k).map g ++ [g l[k]] := by
  rw [List.take_succ_eq_append_getElem h, List.map_append]; rfl
theorem refNextX (x : ConR) (z : ZoneR) (t : Int) (w : World) :
    Calls Tryd.prog 59 #[.agg #[.int .i64 x.w.dy, .int .i64 x.w.st, .int .i64 x.w.en, .int .i64 x.w.fr, .int .i64 x.w.to], .agg #[.int .i64 z.off, .bool z.sum], .int .i64 t] w
      fun e w' => e = .returned (.int .i64 (nxA z t x)) ∧ Below w.heap.size w w' := refNext_any x.w z t w
/-- times in memory -/
def TimesPost (w : World) (N : List Int) (e : Ending) (w' : World) : Prop := ∃ v, e = .returned v ∧ IsSl w' 1 v (N.map encZ) ∧ Below w.heap.size w w'

set_option maxRecDepth 100000 in
set_option maxHeartbeats 6400000 in
theorem refChanges_any (l : List ConR) (v : Value) (z : ZoneR) (t : Int) (w : World) (hL : IsSl w 8 v (l.map ConR.cells)) (hlen : l.length ≤ 1000) :
    Calls Tryd.prog 41 #[v, .agg #[.int .i64 z.off, .bool z.sum], .int .i64 t] w (TimesPost w (l.map (nxA z t))) := by
  obtain ⟨W0, hW0, hb0, hg0, hx0⟩ := box1 w #[.int .i64 z.off, .bool z.sum] 26
  replace hL := hL.below hb0
  obtain ⟨A, c, rfl, hlc, hcm, hsl⟩ := hL
  rw [List.length_map] at hlc
  unfold maxLen at hcm
  simp only [List.length_map]
  obtain ⟨i0, hi, hz0, hz1, hz2⟩ := info_parts intInfo
  have hlit : (W0.alloc (.cells #[] 3)).ownsRow W0.heap.size 3 1 (.slice (some ⟨W0.heap.size, 0, none⟩) 0 0) 0 [] := World.ownsRow_lit W0 #[] 0 (Nat.le_refl _) (by decide) rfl
  have hws : W0.heap.size = w.heap.size + 1 := by rw [hW0]; simp
  go_enter Tryd.func41, Tryd.ntmps41
  go_wp2_with fail
  rw [← hW0, ← hws]
  clear hW0 hws
  go_loopw [7, 8] (fun s i wr => ∃ k : Nat, k ≤ l.length ∧ i = .int .i64 k ∧ Below W0.heap.size W0 wr ∧ wr.ownsRow W0.heap.size 3 1 s ((l.take k).map (nxA z t)).length (((l.take k).map (nxA z t)).flatMap encZ)) (fun _ i _ => l.length - (intOf i).toNat)
  case atStart => exact ⟨0, by omega, rfl, below_alloc (Below.refl _ _) _, hlit⟩
  case round =>
    obtain ⟨k, hk, rfl, hbw, hy⟩ := hrel
    obtain ⟨hc, hf⟩ := bcell hbw
    by_cases hlt : k < l.length
    · have hki : (k : Int) < (l.length : Int) := by omega
      obtain ⟨b, off, rfl, hb, c0, c1, c2, c3, c4, c5, c6, c7⟩ := con_at (hsl.below hbw) hlt
      have HT := Lib.hid (map_take (nxA z t) hlt)
      have hnl : ((l.take k).map (nxA z t)).length ≤ 1000 := by rw [List.length_map, List.length_take]; omega
      generalize l[k] = x at *
      generalize (l.take k).map (nxA z t) = N at *
      obtain ⟨A2, cap2, rfl⟩ := own_shape hy
      go_wp2_with fail
      go_region_law ((first
        | (refine step_append_list_w (enc := encZ) _ (by rfl) (.tmp 16) (.tmp 25) _ (by rfl) W0.heap.size 3 i0 _ 1 8 Tryd.underlying80 hi hz0 hz1 hz2 rfl (by decide) encZ_len encZ_one _ _ _ (by rfl) hy4 _ 1 1 [nxA z t x] rfl (by rfl) (ints_at w4 3 [nxA z t x] #[.int .i64 (nxA z t x)] rfl) (by unfold maxLen; omega) (by omega) (below_alloc hbw4 _).size ?_; intro v6 w6 hown6 hgrow6 hnil6 hblk6; have hbw6 := below_grown (below_alloc hbw4 _) hy4 (Nat.le_refl _) hgrow6)
        | (go_simp; go_at_call 59; refine (refNextX x z t _).mono ?_; rintro e w4 ⟨rfl, hb4⟩; have hbw4 := below_step hbw.drew hb4; have hy4 := (own_below hy.drew hb4).alloc (.cells #[.int .i64 (nxA z t x)] 3))))
      all_goals
        go_wp2_with fail
        go_roundw
        case measure => simp [intOf]; omega
        case rel => exact ⟨k + 1, by omega, by go_num, hbw6, by rw [HT.out, List.length_append, List.flatMap_append]; exact hown6⟩
    · have hki : ¬ (k : Int) < (l.length : Int) := by omega
      rw [List.take_of_length_le (by omega)] at hy
      have HS := Lib.hid (IsSl.of_own encZ_len hy rfl)
      clear hy
      go_wp2_with fail
      go_ret
      exact ⟨_, rfl, HS.out, below_step hb0 hbw⟩

theorem later_el {l : List ConR} {z : ZoneR} {t x : Int} (h0 : 0 ≤ t) (h1 : t ≤ 268435456) (hx : x = fstF l z t) (h : 0 ≤ x) {k : Nat} (hk : k < l.length) : (if nxA z t l[k] = x then nxA z x l[k] else nxA z t l[k]) = nxA z x l[k] := fst_step h0 h1 hx h (List.getElem_mem hk)

set_option maxRecDepth 100000 in
set_option maxHeartbeats 6400000 in
theorem refLater_any (l : List ConR) (v u : Value) (z : ZoneR) (t x : Int) (w : World) (hL : IsSl w 8 v (l.map ConR.cells)) (hN : IsSl w 1 u ((l.map (nxA z t)).map encZ)) (hlen : l.length ≤ 1000) (h0 : 0 ≤ t) (h1 : t ≤ 268435456) (hx : x = fstF l z t) (hx1 : 0 ≤ x) :
    Calls Tryd.prog 44 #[v, .agg #[.int .i64 z.off, .bool z.sum], u, .int .i64 x] w (TimesPost w (l.map (nxA z x))) := by
  obtain ⟨W0, hW0, hb0, hg0, hx0⟩ := box1 w #[.int .i64 z.off, .bool z.sum] 26
  have HST := Lib.hid (fun k hk => later_el (l := l) (z := z) h0 h1 hx hx1 (k := k) hk)
  clear hx h0 h1
  replace hL := hL.below hb0
  replace hN := hN.below hb0
  obtain ⟨A, c, rfl, hlc, hcm, hsl⟩ := hL
  obtain ⟨B, d, rfl, hld, hdm, hsn⟩ := hN
  rw [List.length_map] at hlc
  rw [List.length_map, List.length_map] at hld
  unfold maxLen at hcm hdm
  simp only [List.length_map]
  obtain ⟨i0, hi, hz0, hz1, hz2⟩ := info_parts intInfo
  have hlit : (W0.alloc (.cells #[] 3)).ownsRow W0.heap.size 3 1 (.slice (some ⟨W0.heap.size, 0, none⟩) 0 0) 0 [] := World.ownsRow_lit W0 #[] 0 (Nat.le_refl _) (by decide) rfl
  have hws : W0.heap.size = w.heap.size + 1 := by rw [hW0]; simp
  go_enter Tryd.func44, Tryd.ntmps44
  go_wp2_with fail
  rw [← hW0, ← hws]
  clear hW0 hws
  go_loopw [9, 10] (fun s i wr => ∃ k : Nat, k ≤ l.length ∧ i = .int .i64 k ∧ Below W0.heap.size W0 wr ∧ wr.ownsRow W0.heap.size 3 1 s ((l.take k).map (nxA z x)).length (((l.take k).map (nxA z x)).flatMap encZ)) (fun _ i _ => l.length - (intOf i).toNat)
  case atStart => exact ⟨0, by omega, rfl, below_alloc (Below.refl _ _) _, hlit⟩
  case round =>
    obtain ⟨k, hk, rfl, hbw, hy⟩ := hrel
    obtain ⟨hc, hf⟩ := bcell hbw
    by_cases hlt : k < l.length
    · have hki : (k : Int) < (l.length : Int) := by omega
      obtain ⟨b, off, rfl, hb, c0, c1, c2, c3, c4, c5, c6, c7⟩ := con_at (hsl.below hbw) hlt
      have hlt2 : k < (l.map (nxA z t)).length := by rw [List.length_map]; exact hlt
      obtain ⟨g, o2, rfl, hg, d0⟩ := int_at (hsn.below hbw) hlt2
      rw [List.getElem_map] at d0
      have HT := Lib.hid (map_take (nxA z x) hlt)
      have HS := Lib.hid (HST.out k hlt)
      have hnl : ((l.take k).map (nxA z x)).length ≤ 1000 := by rw [List.length_map, List.length_take]; omega
      generalize l[k] = q at *
      generalize (l.take k).map (nxA z x) = N at *
      obtain ⟨A2, cap2, rfl⟩ := own_shape hy
      by_cases hq : nxA z t q = x
      · rw [hq] at d0
        have hdx : (x == x) = true := by simp
        go_wp2_with fail
        go_region_law ((first
          | (refine step_append_list_w (enc := encZ) _ (by rfl) (.tmp 24) (.tmp 33) _ (by rfl) W0.heap.size 3 i0 _ 1 8 Tryd.underlying80 hi hz0 hz1 hz2 rfl (by decide) encZ_len encZ_one _ _ _ (by rfl) hy4 _ 1 1 [nxA z x q] rfl (by rfl) (ints_at w4 3 [nxA z x q] #[.int .i64 (nxA z x q)] rfl) (by unfold maxLen; omega) (by omega) (below_alloc hbw4 _).size ?_; intro v6 w6 hown6 hgrow6 hnil6 hblk6; have hbw6 := below_grown (below_alloc hbw4 _) hy4 (Nat.le_refl _) hgrow6)
          | (go_simp; go_at_call 59; refine (refNextX q z x _).mono ?_; rintro e w4 ⟨rfl, hb4⟩; have hbw4 := below_step hbw.drew hb4; have hy4 := (own_below hy.drew hb4).alloc (.cells #[.int .i64 (nxA z x q)] 3))))
        all_goals
          go_wp2_with fail
          go_roundw
          case measure => simp [intOf]; omega
          case rel => exact ⟨k + 1, by omega, by go_num, hbw6, by rw [HT.out, List.length_append, List.flatMap_append]; exact hown6⟩
      · have HS2 : Hid (nxA z x q = nxA z t q) := by unfold Hid; rw [← HS.out, if_neg hq]
        generalize nxA z t q = r at *
        go_wp2_with (at_builtin; refine wpList_append_row _ _ rfl (.tmp 35) (.tmp 40) _ rfl W0.heap.size 3 i0 _ 1 8 Tryd.underlying80 hi hz0 hz1 hz2 rfl (by decide) _ _ _ rfl hy _ rfl rfl (by intro u hu; simp at hu; subst hu; rfl) (by omega) (by omega) hbw.size ?_; intro v' w4 hown hgrow hblk)
        have hb4 := below_grown hbw hy (Nat.le_refl _) hgrow
        clear hgrow hy
        go_roundw
        case measure => simp [intOf]; omega
        case rel => exact ⟨k + 1, by omega, by go_num, hb4, by rw [HT.out, List.length_append, List.flatMap_append, HS2.out]; exact hown⟩
    · have hki : ¬ (k : Int) < (l.length : Int) := by omega
      rw [List.take_of_length_le (by omega)] at hy
      have HS := Lib.hid (IsSl.of_own encZ_len hy rfl)
      clear hy
      go_wp2_with fail
      go_ret
      exact ⟨_, rfl, HS.out, below_step hb0 hbw⟩

theorem firF_take {l : List Int} {k : Nat} (h : k < l.length) : firF (l.take (k + 1)) = fs1 (firF (l.take k)) l[k] := fold_take fs1 (-1) h
theorem fs1_t {x n : Int} (h : 0 ≤ n ∧ (x < 0 ∨ n < x)) : fs1 x n = n := if_pos h
theorem fs1_f {x n : Int} (h : ¬ (0 ≤ n ∧ (x < 0 ∨ n < x))) : fs1 x n = x := if_neg h

set_option maxRecDepth 100000 in
theorem refFirC_any (l : List Int) (v : Value) (w : World) (hL : IsSl w 1 v (l.map encZ)) : Calls Tryd.prog 42 #[v] w fun e w' => e = .returned (.int .i64 (firF l)) ∧ Below w.heap.size w w' := by
  obtain ⟨A, c, rfl, hlc, hcm, hsl⟩ := hL
  rw [List.length_map] at hlc
  unfold maxLen at hcm
  simp only [List.length_map]
  go_enter Tryd.func42, Tryd.ntmps42
  go_wp2_with fail
  go_loopw [3, 4] (fun n i wr => ∃ k : Nat, k ≤ l.length ∧ n = .int .i64 (firF (l.take k)) ∧ i = .int .i64 k ∧ Below w.heap.size w wr) (fun _ i _ => l.length - (intOf i).toNat)
  case atStart => exact ⟨0, by omega, rfl, rfl, Below.refl _ _⟩
  case round =>
    obtain ⟨k, hk, rfl, rfl, hbw⟩ := hrel
    by_cases hlt : k < l.length
    · have hki : (k : Int) < (l.length : Int) := by omega
      obtain ⟨b, off, rfl, hb, c0⟩ := int_at (hsl.below hbw) hlt
      have HT := Lib.hid (firF_take hlt)
      have hbr := Below.refl wr.heap.size wr
      generalize l[k] = n at *
      generalize firF (l.take k) = x at *
      have hcase : (0 ≤ n ∧ x < 0) ∨ (0 ≤ n ∧ ¬ x < 0 ∧ n < x) ∨ (0 ≤ n ∧ ¬ x < 0 ∧ ¬ n < x) ∨ ¬ 0 ≤ n := by omega
      rcases hcase with ⟨k1, k2⟩ | ⟨k1, k2, k3⟩ | ⟨k1, k2, k3⟩ | k1
      · have H : Hid (firF (l.take (k + 1)) = n) := by unfold Hid; rw [HT.out, fs1_t (by omega)]
        have d1 : decide (0 ≤ n) = true := decide_eq_true k1
        have d2 : decide (x < 0) = true := decide_eq_true k2
        go_wp2_with fail
        go_roundw
        case measure => simp [intOf]; omega
        case rel => exact ⟨k + 1, by omega, by rw [H.out], by go_num, hbw⟩
      · have H : Hid (firF (l.take (k + 1)) = n) := by unfold Hid; rw [HT.out, fs1_t (by omega)]
        have d1 : decide (0 ≤ n) = true := decide_eq_true k1
        have d2 : decide (x < 0) = false := decide_eq_false k2
        have d3 : decide (n < x) = true := decide_eq_true k3
        go_wp2_with fail
        go_roundw
        case measure => simp [intOf]; omega
        case rel => exact ⟨k + 1, by omega, by rw [H.out], by go_num, hbw⟩
      · have H : Hid (firF (l.take (k + 1)) = x) := by unfold Hid; rw [HT.out, fs1_f (by omega)]
        have d1 : decide (0 ≤ n) = true := decide_eq_true k1
        have d2 : decide (x < 0) = false := decide_eq_false k2
        have d3 : decide (n < x) = false := decide_eq_false k3
        go_wp2_with fail
        go_roundw
        case measure => simp [intOf]; omega
        case rel => exact ⟨k + 1, by omega, by rw [H.out], by go_num, hbw⟩
      · have H : Hid (firF (l.take (k + 1)) = x) := by unfold Hid; rw [HT.out, fs1_f (by omega)]
        have d1 : decide (0 ≤ n) = false := decide_eq_false k1
        go_wp2_with fail
        go_roundw
        case measure => simp [intOf]; omega
        case rel => exact ⟨k + 1, by omega, by rw [H.out], by go_num, hbw⟩
    · have hki : ¬ (k : Int) < (l.length : Int) := by omega
      have H : Hid (firF l = firF (l.take k)) := by unfold Hid; rw [List.take_of_length_le (by omega)]
      go_wp2_with fail
      go_ret
      exact ⟨ret_int H.out.symm, hbw⟩

/-- a limit of the first k contracts differs from what it was a minute before -/
noncomputable def difN (l : List ConR) (z : ZoneR) (t : Int) (k : Nat) : Prop := ∀ j (h : j < l.length), j < k → cAt l z l[j].fd t = cAt l z l[j].fd (t - 1)
theorem difN_step {l : List ConR} {z : ZoneR} {t : Int} {k : Nat} (h : k < l.length) (hd : difN l z t k) (he : cAt l z l[k].fd t = cAt l z l[k].fd (t - 1)) : difN l z t (k + 1) := fun j hj hk => by
  by_cases e : j = k
  · subst e; exact he
  · exact hd j hj (by omega)
theorem difN_end {l : List ConR} {z : ZoneR} {t : Int} {k : Nat} (h : ¬ k < l.length) (hd : difN l z t k) : difB l z t = false := by
  cases hb : difB l z t with
  | false => rfl
  | true =>
    obtain ⟨c, hc, hne⟩ := difB_true.1 hb
    obtain ⟨j, hj, rfl⟩ := List.getElem_of_mem hc
    exact absurd (hd j hj (by omega)) hne

set_option maxRecDepth 100000 in
set_option maxHeartbeats 6400000 in
theorem refDiffers_any (l : List ConR) (v : Value) (z : ZoneR) (t : Int) (w : World) (hL : IsSl w 8 v (l.map ConR.cells)) (h0 : 0 ≤ t) (h1 : t ≤ 268435457) :
    Calls Tryd.prog 43 #[v, .agg #[.int .i64 z.off, .bool z.sum], .int .i64 t] w fun e w' => e = .returned (.bool (difB l z t)) ∧ Below w.heap.size w w' := by
  obtain ⟨W0, hW0, hb0, hg0, hx0⟩ := box1 w #[.int .i64 z.off, .bool z.sum] 26
  have HIS := Lib.hid (hL.below hb0)
  replace hL := hL.below hb0
  obtain ⟨A, c, rfl, hlc, hcm, hsl⟩ := hL
  rw [List.length_map] at hlc
  unfold maxLen at hcm
  simp only [List.length_map] at HIS ⊢
  have hwt : IntKind.i64.wrap (t - 1) = t - 1 := IntWalk.i64_in _ (by omega)
  go_enter Tryd.func43, Tryd.ntmps43
  go_wp2_with fail
  rw [← hW0]
  clear hW0
  go_loopw [7] (fun i wr => ∃ k : Nat, k ≤ l.length ∧ i = .int .i64 k ∧ Hid (difN l z t k) ∧ Below W0.heap.size W0 wr) (fun i _ => l.length - (intOf i).toNat)
  case atStart => exact ⟨0, by omega, rfl, fun j hj hk => by omega, Below.refl _ _⟩
  case round =>
    obtain ⟨k, hk, rfl, HD, hbw⟩ := hrel
    obtain ⟨hc, hf⟩ := bcell hbw
    by_cases hlt : k < l.length
    · have hki : (k : Int) < (l.length : Int) := by omega
      obtain ⟨b, off, rfl, hb, c0, c1, c2, c3, c4, c5, c6, c7⟩ := con_at (hsl.below hbw) hlt
      have HS := Lib.hid (fun he => difN_step hlt HD.out he)
      have HB : Hid (¬ cAt l z l[k].fd t = cAt l z l[k].fd (t - 1) → difB l z t = true) := fun h => difB_true.2 ⟨l[k], List.getElem_mem hlt, h⟩
      have y1 : ∀ j, wr.cell? ⟨w.heap.size, j, none⟩ = (#[.int .i64 z.off, .bool z.sum] : Array Value)[j]? := fun j => (hc _ _ hg0).trans (hx0 j)
      have y2 : w.heap.size < wr.heap.size := Nat.lt_of_lt_of_le hg0 hbw.size
      have hbr := Below.refl wr.heap.size wr
      clear hc hf c0 c2 c3 c4 c5 c6 c7
      generalize l[k].fd = fd at *
      by_cases he : cAt l z fd t = cAt l z fd (t - 1)
      · have HS2 := Lib.hid (HS.out he)
        have hne : (cAt l z fd t != cAt l z fd (t - 1)) = false := by rw [he]; simp
        clear he
        go_wp2_with fail
        (refine wp_region_kept wr (by kernel_rfl) (by kernel_rfl) (by assumption) ?_; (repeat (go_big_quiet_step ((first | (go_at_call 20; exact kept_call (refConAt_any l _ z fd _ _ (HIS.out.below (below_step hbw (after_kept _).2)))))))); refine wpQuiet_nil ?_; intro _ hw'; obtain ⟨x9, hw''⟩ := hw'; subst hw''; have hk9 := after_kept x9; generalize after x9 = w9 at *)
        obtain ⟨hc9, hb9⟩ := hk9
        go_wp2_with fail
        go_roundw
        case measure => simp [intOf]; omega
        case rel => exact ⟨k + 1, by omega, by go_num, HS2, below_step hbw hb9⟩
      · have HB2 := Lib.hid (HB.out he)
        have hne : (cAt l z fd t != cAt l z fd (t - 1)) = true := by simpa using he
        clear he
        go_wp2_with fail
        (refine wp_region_kept wr (by kernel_rfl) (by kernel_rfl) (by assumption) ?_; (repeat (go_big_quiet_step ((first | (go_at_call 20; exact kept_call (refConAt_any l _ z fd _ _ (HIS.out.below (below_step hbw (after_kept _).2)))))))); refine wpQuiet_nil ?_; intro _ hw'; obtain ⟨x9, hw''⟩ := hw'; subst hw''; have hk9 := after_kept x9; generalize after x9 = w9 at *)
        obtain ⟨hc9, hb9⟩ := hk9
        go_wp2_with fail
        go_ret
        exact ⟨ret_bool HB2.out.symm, below_step hb0 (below_step hbw hb9)⟩
    · have hki : ¬ (k : Int) < (l.length : Int) := by omega
      have HE := Lib.hid (difN_end hlt HD.out)
      go_wp2_with fail
      go_ret
      exact ⟨ret_bool HE.out.symm, below_step hb0 hbw⟩

end Go.Proofs.YtpknjblgbpndlaaDoor
