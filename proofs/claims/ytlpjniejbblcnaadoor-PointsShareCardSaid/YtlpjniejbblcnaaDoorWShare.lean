/-
  Walks: below, Share of package fair.
-/
import Derived.Test.YtlpjniejbblcnaaDoorM10
import Derived.Test.YtlpjniejbblcnaaDoorM7
import Derived.Test.YtlpjniejbblcnaaDoorM13
import Derived.Test.YtlpjniejbblcnaaDoorShelf
import Derived.IntWalk
namespace Go.Proofs.YtlpjniejbblcnaaDoor
open Go.RowKit Go.Lib Go.Maps
attribute [local go_sem] after_cell
set_option linter.unusedVariables false

theorem below_bd {c : Vec} {m : Int} (hm : 0 ≤ m ∧ m ≤ 1099511627776) : ∀ n : Nat, (∀ i, i < n → 0 ≤ c i) → 0 ≤ belowV c m n ∧ belowV c m n ≤ n * 1099511627776
  | 0, _ => by unfold belowV sumV; simp
  | k + 1, h => by
    have ih := below_bd hm k (fun i hi => h i (by omega))
    have h0 := h k (by omega)
    unfold belowV at ih ⊢
    unfold sumV
    push_cast
    have : min m (c k) ≤ 1099511627776 ∧ 0 ≤ min m (c k) := by omega
    omega
theorem below_next (c : Vec) (m : Int) (k : Nat) : belowV c m (k + 1) = belowV c m k + min m (c k) := rfl

set_option maxRecDepth 100000 in
set_option maxHeartbeats 6400000 in
theorem below_any (n : Nat) (c : Vec) (m : Int) (v : Value) (w : World) (hL : IsSl w 1 v ((listV n c).map encZ)) (hn : n ≤ 64) (hm : 0 ≤ m ∧ m ≤ 1099511627776) (hc : ∀ i, i < n → 0 ≤ c i) :
    Calls Tryd.prog 26 #[.int .i64 m, v] w fun e w' => e = .returned (.int .i64 (belowV c m n)) ∧ Below w.heap.size w w' := by
  obtain ⟨A, cc, rfl, hlc, hcm, hsl⟩ := islen' hL
  rw [listV_len] at hlc
  simp only [listV_len]
  have HS := Lib.hid hsl
  have HC := Lib.hid hc
  clear hL hsl hlc hcm hc
  go_enter Tryd.func26, Tryd.ntmps26
  go_wp2_with fail
  go_loopw [5, 10] (fun s i wr => ∃ k : Nat, k ≤ n ∧ s = .int .i64 (belowV c m k) ∧ i = .int .i64 k ∧ Below w.heap.size w wr) (fun _ i _ => n - (intOf i).toNat)
  case atStart => exact ⟨0, by omega, rfl, rfl, Below.refl _ _⟩
  case round =>
    obtain ⟨k, hk, rfl, rfl, hbw⟩ := hrel
    obtain ⟨hcl, hf⟩ := bcell hbw
    by_cases hlt : k < n
    · have hki : (k : Int) < (n : Int) := by omega
      obtain ⟨b, off, rfl, hb, c0⟩ := vec_at HS.out hlt
      have hbd := below_bd (c := c) hm k (fun i hi => HC.out i (by omega))
      have hbd2 := below_bd (c := c) hm (k + 1) (fun i hi => HC.out i (by omega))
      have HNX := Lib.hid (below_next c m k)
      rw [HNX.out] at hbd2
      generalize belowV c m k = s at *
      generalize c k = y at *
      have q1 : IntKind.i64.wrap (s + min m y) = s + min m y := IntWalk.i64_in _ (by omega)
      go_wp2_with (go_at_call 28; refine (fleast_one _ _ _ _).mono ?_; rintro e w' ⟨rfl, rfl⟩)
      go_roundw
      case measure => simp [intOf]; omega
      case rel => exact ⟨k + 1, by omega, by rw [HNX.out], by go_num, below_alloc hbw _⟩
    · have hki : ¬ (k : Int) < (n : Int) := by omega
      have hkn : k = n := by omega
      subst hkn
      go_wp2_with fail
      go_ret
      exact ⟨rfl, hbw⟩

theorem clone_any (l : List Int) (v : Value) (w : World) (hL : IsSl w 1 v (l.map encZ)) (hn : l.length ≤ 64) : Calls Tryd.prog 27 #[v] w fun e w' => ∃ u, e = .returned u ∧ IsSl w' 1 u (l.map encZ) ∧ Below w.heap.size w w' := by
  obtain ⟨A, c, rfl, hlc, hcm, hsl⟩ := islen' hL
  have hz : ∀ l : List Int, l.map (Value.int .i64) = l.flatMap encZ := fun l => by
    induction l with
    | nil => rfl
    | cons x l ih => rw [List.map_cons, List.flatMap_cons, ih]; rfl
  rcases Nat.eq_zero_or_pos l.length with h0 | h0
  · have e1 : l = [] := List.eq_nil_of_length_eq_zero h0
    subst e1
    cases A with
    | none => exact (Tryd.slices_Clone_int_nil 0 c w).mono fun e w' ⟨h1, h2⟩ => ⟨_, h1, IsSl.nil _ _, h2 ▸ Below.refl _ _⟩
    | some a => exact (Tryd.slices_Clone_int_zero a c w).mono fun e w' ⟨v', h1, h2, _, h3⟩ => ⟨_, h1, IsSl.of_own (l := []) encZ_len h2 rfl, h3⟩
  · obtain ⟨b, off, rfl, hb, _⟩ := int_at hsl h0
    have hc : ∀ j, j < l.length → w.cell? ⟨b, off + j, none⟩ = some (.int .i64 (l.getD j 0)) := fun j hj => by
      obtain ⟨b2, off2, e2, _, c2⟩ := int_at hsl hj
      injection e2 with e2
      injection e2 with e3 e4
      subst e3 e4
      rw [c2, List.getD_eq_getElem?_getD, List.getElem?_eq_getElem hj]; rfl
    refine (Tryd.slices_Clone_int b off l.length c l w (Nat.le_refl _) (by omega) hc).mono fun e w' ⟨v', h1, h2, _, h3⟩ => ⟨_, h1, ?_, h3⟩
    rw [List.take_length, hz] at h2
    exact IsSl.of_own encZ_len h2 rfl

/-- what Share returns -/
def SharePost (n : Nat) (c : Vec) (total : Int) (w : World) (e : Ending) (w' : World) : Prop :=
  Below w.heap.size w w' ∧ ∃ (v : Value) (x : Vec), e = .returned (.tuple #[v, .int .i64 0]) ∧ IsSl w' 1 v ((listV n x).map encZ) ∧ ∀ F, SumF n c total F → ∀ i, i < n → fillX n F c i = x i
theorem below_top {c : Vec} {n : Nat} (hc : ∀ i, i < n → 0 ≤ c i ∧ c i ≤ 1099511627776) : belowV c 1099511627776 n = sumV c n := by
  unfold belowV
  exact sumV_congr n (fun i hi => by have := hc i hi; omega)
theorem below_none {c : Vec} : ∀ n : Nat, (∀ i, i < n → 0 ≤ c i) → belowV c 0 n = 0
  | 0, _ => rfl
  | k + 1, h => by
    have ih := below_none k (fun i hi => h i (by omega))
    have := h k (by omega)
    rw [below_next, ih]; omega
/-- the shares behind k rounds -/
def mixS (c : Vec) (m R : Int) (k : Nat) : Vec := fun i => if i < k then shareX c m R i else 0
theorem mixS_zero (c : Vec) (m R : Int) : mixS c m R 0 = zeroV := by funext i; simp [mixS, zeroV]
theorem mixS_all (n : Nat) (c : Vec) (m R : Int) : listV n (mixS c m R n) = listV n (shareX c m R) := listV_congr fun i hi => by simp [mixS, hi]
theorem mixS_up {n k : Nat} {c : Vec} {m R u : Int} (hk : k < n) (h : u = shareX c m R k) : (listV n (mixS c m R k)).set k u = listV n (mixS c m R (k + 1)) := by
  rw [← listV_upd hk]
  refine listV_congr fun i hi => ?_
  by_cases q : i = k
  · subst q; rw [upd_same, h]; simp [mixS]
  · rw [upd_other q]
    unfold mixS
    by_cases q2 : i < k
    · rw [if_pos q2, if_pos (by omega)]
    · rw [if_neg q2, if_neg (by omega)]

set_option maxRecDepth 100000 in
set_option maxHeartbeats 12800000 in
theorem share_any (n : Nat) (c : Vec) (total : Int) (v : Value) (w : World) (hL : IsSl w 1 v ((listV n c).map encZ)) (hn : n ≤ 64) (ht : 0 ≤ total ∧ total ≤ 1099511627776) (hc : ∀ i, i < n → 0 ≤ c i ∧ c i ≤ 1099511627776) :
    Calls Tryd.prog 10 #[.int .i64 total, v] w (SharePost n c total w) := by
  obtain ⟨A, cc, rfl, hlc, hcm, hsl⟩ := islen' hL
  rw [listV_len] at hlc
  have HIS : Hid (IsSl w 1 (.slice A n cc) ((listV n c).map encZ)) := by have h := hL; rw [show (Value.slice A (listV n c).length cc) = .slice A n cc by rw [listV_len]] at h; exact h
  simp only [listV_len]
  have HS := Lib.hid hsl
  have HC := Lib.hid hc
  have HC0 := Lib.hid (fun i hi => (hc i hi).1)
  have HCAP : Hid (Capped n c) := ⟨1099511627776, fun i hi => by have := hc i hi; omega⟩
  have HT := Lib.hid (below_top hc)
  have HCK := Lib.hid (fcheck_ok (listV n c) _ w HIS.out (by rw [listV_len]; exact hn) (fun x hx => by obtain ⟨j, hj, rfl⟩ := List.mem_iff_getElem.1 hx; rw [listV_get]; exact hc j (by simpa [listV_len] using hj)))
  have HBL := Lib.hid (fun (m : Int) (hm : 0 ≤ m ∧ m ≤ 1099511627776) (w' : World) (hb : Below w.heap.size w w') => below_any n c m _ w' (HIS.out.below hb) hn hm HC0.out)
  clear hL hsl hlc hcm hc
  obtain ⟨t0, t1⟩ := ht
  have hbt := below_bd (c := c) (m := 1099511627776) (by omega) n HC0.out
  by_cases hall : belowV c 1099511627776 n ≤ total
  · have HALL := Lib.hid hall
    have HCL := Lib.hid (fun w' (hb : Below w.heap.size w w') => clone_any (listV n c) (.slice A n cc) w' (HIS.out.below hb) (by rw [listV_len]; exact hn))
    go_enter Tryd.func10, Tryd.ntmps10
    go_wp2_with (first
      | (go_at_call 25; refine HCK.out.mono ?_; rintro e w' ⟨rfl, rfl⟩)
      | (go_at_call 26; refine (HBL.out _ (by omega) _ (Below.refl _ _)).mono ?_; rintro e w1 ⟨rfl, hb1⟩)
      | (go_at_call 27; refine (HCL.out _ hb1).mono ?_; rintro e w2 ⟨u, rfl, hs2, hb2⟩))
    go_ret2
    refine ⟨below_step hb1 hb2, _, c, rfl, hs2, fun F hF i hi => fill_all hF.ok HCAP.out ((hF c).2 ⟨fun j hj => by have := HC0.out j hj; omega, ?_⟩) i hi⟩
    rw [← HT.out]; exact HALL.out
  · have hN : ¬ belowV c 1099511627776 n ≤ total := hall
    have HN := Lib.hid hN
    obtain ⟨i0, hi0, hz0, hz1, hz2⟩ := info_parts intInfo
    have hmk := fun W => run_make_rowZ (P := Tryd.prog) 22 3 i0 _ Tryd.underlying22 hi0 hz0 .i64 .i64 n n (n : Int) (n : Int) rfl rfl (by omega) (by rw [hz2]; omega) (by omega) W
    rw [hz1] at hmk
    have HZC := Lib.hid (zeros_int n)
    generalize madeCells _ (n * 1) = ZC at hmk HZC
    go_enter Tryd.func10, Tryd.ntmps10
    go_wp2_with (first
      | (go_at_call 25; refine HCK.out.mono ?_; rintro e w' ⟨rfl, rfl⟩)
      | (go_at_call 26; refine (HBL.out _ (by omega) _ (Below.refl _ _)).mono ?_; rintro e w1 ⟨rfl, hb1⟩))
    have HB0 := Lib.hid (below_none n HC0.out)
    go_loopw [7, 8] (fun mv bv wr => ∃ m bad : Int, mv = .int .i64 m ∧ bv = .int .i64 bad ∧ 0 ≤ m ∧ m < bad ∧ bad ≤ 1099511627776 ∧ Below w.heap.size w wr ∧ Hid (belowV c m n ≤ total) ∧ Hid (total < belowV c bad n)) (fun mv bv _ => (intOf bv - intOf mv).toNat)
    case atStart => exact ⟨0, 1099511627776, rfl, rfl, by omega, by omega, by omega, hb1, by unfold Hid; rw [HB0.out]; exact t0, by have := HN.out; unfold Hid; omega⟩
    case round =>
      clear hb1 hN hall
      obtain ⟨m, bad, rfl, rfl, hm0, hmb, hbad, hbw, H1, H2⟩ := hrel
      by_cases hgt : 1 < bad - m
      · obtain ⟨H, hH, hH0, hH1⟩ : ∃ H : Int, (bad - m).tdiv 2 = H ∧ 0 < H ∧ H < bad - m := ⟨_, rfl, by rw [Int.tdiv_eq_ediv_of_nonneg (by omega)]; omega, by rw [Int.tdiv_eq_ediv_of_nonneg (by omega)]; omega⟩
        have q1 : IntKind.i64.wrap (bad - m) = bad - m := IntWalk.i64_in _ (by omega)
        have q2 : IntKind.i64.wrap H = H := IntWalk.i64_in _ (by omega)
        have q3 : IntKind.i64.wrap (m + H) = m + H := IntWalk.i64_in _ (by omega)
        by_cases hle : belowV c (m + H) n ≤ total
        · have HLE := Lib.hid hle
          go_wp2_with (go_at_call 26; refine (HBL.out (m + H) (by omega) _ hbw).mono ?_; rintro e w2 ⟨rfl, hb2⟩)
          go_roundw
          case measure => simp [intOf]; omega
          case rel => exact ⟨m + H, bad, by go_num, rfl, by omega, by omega, by omega, below_step hbw hb2, HLE, H2⟩
        · have HLE : Hid (total < belowV c (m + H) n) := by unfold Hid; omega
          go_wp2_with (go_at_call 26; refine (HBL.out (m + H) (by omega) _ hbw).mono ?_; rintro e w2 ⟨rfl, hb2⟩)
          go_roundw
          case measure => simp [intOf]; omega
          case rel => exact ⟨m, m + H, rfl, by go_num, by omega, by omega, by omega, below_step hbw hb2, H1, HLE⟩
      · have hbm : bad = m + 1 := by omega
        subst hbm
        have q1 : IntKind.i64.wrap (m + 1 - m) = 1 := by rw [show m + 1 - m = 1 by omega]; rfl
        have h1 := H1.out
        have hbd := below_bd (c := c) (m := m) (by omega) n HC0.out
        have hRR : 0 ≤ total - belowV c m n ∧ total - belowV c m n ≤ 1099511627776 := by omega
        have HR0 := Lib.hid hRR
        have q2 : IntKind.i64.wrap (total - belowV c m n) = total - belowV c m n := IntWalk.i64_in _ (by omega)
        go_wp2_with (go_at_call 26; refine (HBL.out m (by omega) _ hbw).mono ?_; rintro e w2 ⟨rfl, hb2⟩)
        have hbw2 := below_step hbw hb2
        have HBA : Hid (Blk (w2.alloc (.cells ZC 3)) w2.heap.size 3 ((listV n (mixS c m (total - belowV c m n) 0)).flatMap encZ)) := by
          refine Blk.new' rfl _ _ ?_
          rw [HZC.out, rowV_flat, mixS_zero]
        have HFS : Hid (∀ F, SumF n c total F → ∀ i, i < n → fillX n F c i = shareX c m (total - belowV c m n) i) := fun F hF => fill_share hF HCAP.out hm0 H1.out H2.out
        generalize total - belowV c m n = R at *
        have hw2 := hbw2.size
        clear hmk
        go_loopw [10, 54] (fun rv iv wi => ∃ k : Nat, k ≤ n ∧ rv = .int .i64 (restF c m R k) ∧ iv = .int .i64 k ∧ Below w.heap.size w wi ∧ w2.heap.size < wi.heap.size ∧ Hid (Blk wi w2.heap.size 3 ((listV n (mixS c m R k)).flatMap encZ))) (fun _ iv _ => n - (intOf iv).toNat)
        case atStart => exact ⟨0, by omega, rfl, rfl, below_alloc hbw2 _, by simp, HBA⟩
        case round =>
          clear HBA
          obtain ⟨k, hk, rfl, rfl, hbi, hzi, HB⟩ := hrel
          obtain ⟨hcl, hf⟩ := bcell hbi
          have hr0 := rest_ge (c := c) (m := m) HR0.out.1 k
          by_cases hlt : k < n
          · have hki : (k : Int) < (n : Int) := by omega
            obtain ⟨b, off, rfl, hb, c0⟩ := vec_at HS.out hlt
            have C0 := (hbi.cell (p := ⟨b, off + k, none⟩) hb).trans c0
            have hck := HC.out k hlt
            have a0 := (HB.out.cell k).trans (flatZ_at (l := listV n (mixS c m R k)) (by rw [listV_len]; exact hlt))
            have f0 := HB.out.free k
            have hbW : w.heap.size ≤ w2.heap.size := hw2
            have g1 : b < wr.heap.size := Nat.lt_of_lt_of_le hb hbi.size
            have y2 := oldA (w := wr) (b := w2.heap.size) hzi
            have y3 := oldF (w := wr) (b := w2.heap.size) hzi
            have HST : Hid (∀ u, u = shareX c m R k → Blk ((wr.setCell ⟨w2.heap.size, k, none⟩ (.int .i64 u)).alloc (.cells #[.int .i64 (c k)] 3)) w2.heap.size 3 ((listV n (mixS c m R (k + 1))).flatMap encZ)) := fun u hu => by
              have h := HB.out.set k (.int .i64 u)
              rw [flatZ_set, mixS_up hlt hu] at h
              exact h.alloc _
            have HST2 : Hid (∀ u t, u = shareX c m R k → Blk (((wr.setCell ⟨w2.heap.size, k, none⟩ (.int .i64 t)).setCell ⟨w2.heap.size, k, none⟩ (.int .i64 u)).alloc (.cells #[.int .i64 (c k)] 3)) w2.heap.size 3 ((listV n (mixS c m R (k + 1))).flatMap encZ)) := fun u t hu => by
              have h := (HB.out.set k (.int .i64 t)).set k (.int .i64 u)
              rw [List.set_set, flatZ_set, mixS_up hlt hu] at h
              exact h.alloc _
            have HBS := Lib.hid (fun t => below_alloc (hbi.setCell (p := ⟨w2.heap.size, k, none⟩) hbW (.int .i64 t)) (.cells #[.int .i64 (c k)] 3))
            have HBS2 := Lib.hid (fun t u => below_alloc ((hbi.setCell (p := ⟨w2.heap.size, k, none⟩) hbW (.int .i64 t)).setCell (p := ⟨w2.heap.size, k, none⟩) hbW (.int .i64 u)) (.cells #[.int .i64 (c k)] 3))
            have hrb : restF c m R k ≤ 1099511627776 := by
              have hRb := HR0.out.2
              have : ∀ q, restF c m R q ≤ R := fun q => by
                induction q with
                | zero => exact Int.le_refl _
                | succ q ih => unfold restF; split <;> omega
              have := this k
              omega
            by_cases hup : 0 < restF c m R k ∧ m < c k
            · have HU : Hid (min m (c k) + 1 = shareX c m R k) := by unfold Hid shareX; rw [if_pos hup]
              have HRN := Lib.hid (rest_up hup)
              obtain ⟨u1, u2⟩ := hup
              generalize restF c m R k = r at *
              generalize c k = y at *
              have q1 : IntKind.i64.wrap (min m y + 1) = min m y + 1 := IntWalk.i64_in _ (by omega)
              have q2 : IntKind.i64.wrap (r - 1) = r - 1 := IntWalk.i64_in _ (by omega)
              go_wp2_with (go_at_call 28; refine (fleast_one _ _ _ _).mono ?_; rintro e w' ⟨rfl, rfl⟩)
              go_roundw
              case measure => simp [intOf]; omega
              case rel => exact ⟨k + 1, by omega, by rw [HRN.out], by go_num, HBS2.out _ _, by simp; omega, HST2.out _ _ HU.out⟩
            · have HU : Hid (min m (c k) = shareX c m R k) := by unfold Hid shareX; rw [if_neg hup]
              have HRN := Lib.hid (rest_no hup)
              have hno : ¬ 0 < restF c m R k ∨ (0 < restF c m R k ∧ ¬ m < c k) := by
                by_cases h : 0 < restF c m R k
                · exact .inr ⟨h, fun h2 => hup ⟨h, h2⟩⟩
                · exact .inl h
              generalize restF c m R k = r at *
              generalize c k = y at *
              rcases hno with u1 | ⟨u1, u2⟩
              all_goals
                go_wp2_with (go_at_call 28; refine (fleast_one _ _ _ _).mono ?_; rintro e w' ⟨rfl, rfl⟩)
                go_roundw
                case measure => simp [intOf]; omega
                case rel => exact ⟨k + 1, by omega, by rw [HRN.out], by go_num, HBS.out _, by simp; omega, HST.out _ HU.out⟩
          · have hki : ¬ (k : Int) < (n : Int) := by omega
            have hkn : k = n := by omega
            have HSL : Hid (IsSl wr 1 (.slice (some ⟨w2.heap.size, 0, none⟩) n n) ((listV n (shareX c m R)).map encZ)) := by
              have h := HB.out
              rw [hkn, mixS_all] at h
              exact h.isSl encZ_len (listV_len _ _) (by unfold maxLen; omega)
            clear hkn
            go_wp2_with fail
            go_ret2
            exact ⟨hbi, _, _, rfl, HSL.out, HFS.out⟩

end Go.Proofs.YtlpjniejbblcnaaDoor
