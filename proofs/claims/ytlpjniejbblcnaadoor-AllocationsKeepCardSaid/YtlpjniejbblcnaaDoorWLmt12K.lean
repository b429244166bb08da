/-
  Walks: Path of package limits and of its reference.
-/
import Derived.Test.YtlpjniejbblcnaaDoorWLmt8K
import Derived.Test.YtlpjniejbblcnaaDoorM4
namespace Go.Proofs.YtlpjniejbblcnaaDoor
open Go.RowKit Go.Lib Go.Maps
attribute [local go_sem] after_cell
set_option linter.unusedVariables false

theorem timeB_t {t : Int} (h0 : 0 ≤ t) (h1 : t ≤ 268435456) : timeB t = true := timeB_iff.2 ⟨h0, h1⟩
theorem natL_at {w : World} {A : Option Addr} {l : List Nat} (h : SlAt w 1 A (l.map encN)) {k : Nat} (hk : k < l.length) :
    ∃ b off, A = some ⟨b, off, none⟩ ∧ b < w.heap.size ∧ w.cell? ⟨b, off + k, none⟩ = some (.int .i64 (l[k] : Nat)) := by
  obtain ⟨b, off, e, hb, hc⟩ := h k (encN l[k]) (by rw [List.getElem?_map, List.getElem?_eq_getElem hk]; rfl)
  refine ⟨b, off, e, hb, ?_⟩
  have := hc 0 _ rfl
  simpa using this
/-- the least of the first k feeders of a path -/
noncomputable def pathN (r : RulR) (f t : Int) (k : Nat) : Int := ((pathL r.S.F r.S.F.length f).take k).foldl (fun n (q : Nat) => min n (capF r.lim q t)) (capF r.lim f t)
theorem pathN_step {r : RulR} {f t : Int} {k : Nat} (h : k < (pathL r.S.F r.S.F.length f).length) : pathN r f t (k + 1) = min (pathN r f t k) (capF r.lim (pathL r.S.F r.S.F.length f)[k] t) := by
  unfold pathN; rw [List.take_succ_eq_append_getElem h, List.foldl_append]; rfl
theorem pathN_full {r : RulR} {f t : Int} (h : atE r t = 0) (h0 : 0 ≤ f) (h1 : f < r.S.F.length) : pathN r f t (pathL r.S.F r.S.F.length f).length = pathA r f t := by
  unfold pathN pathA
  rw [List.take_length, if_neg]
  unfold atE at h
  split at h
  · rename_i g; exact absurd h g
  · rename_i g
    split at h
    · cases h
    · rename_i g2
      have := timeB_iff.1 (by simpa using g2)
      rintro (e | e | e | e | e)
      · exact g e
      · omega
      · omega
      · omega
      · omega
theorem pathA_out {r : RulR} {f t : Int} (h : atE r t ≠ 0 ∨ f < 0 ∨ (r.S.F.length : Int) ≤ f) : pathA r f t = 0 := by
  unfold pathA
  refine if_pos ?_
  rcases h with h | h | h
  · by_cases g : limE r = 0
    · right
      cases ht : timeB t with
      | false =>
        by_cases q : 0 ≤ t ∧ t ≤ 268435456
        · rw [timeB_t q.1 q.2] at ht; cases ht
        · omega
      | true => exact absurd (atE_ok g ht) h
    · exact .inl g
  · exact .inr (.inr (.inr (.inl h)))
  · exact .inr (.inr (.inr (.inr h)))
theorem pathL_len_le {F : List Feed} : ∀ (last : Nat) (i : Int), (pathL F last i).length ≤ last := by
  intro last
  induction last using Nat.strongRecOn with
  | _ last ih =>
    intro i
    rw [pathL]
    split
    · rename_i h
      have := ih i.toNat (by omega) (match F[i.toNat]? with | some f => f.parent | none => -1)
      rw [List.length_cons]
      exact Nat.le_trans (Nat.succ_le_succ this) (by omega)
    · simp

set_option maxRecDepth 100000 in
set_option maxHeartbeats 12800000 in
theorem limPath_any (r : RulR) (fv pv cv uv : Value) (f t : Int) (w : World) (hv : LenV w) (hI : LimIn w r fv pv cv uv) :
    Calls Tryd.prog 20 #[.agg #[.string r.S.name, fv, pv, .int .i64 r.z.off, .bool r.z.sum, cv, uv], .int .i64 f, .int .i64 t] w fun e w' => e = .returned (.int .i64 (pathA r f t)) ∧ Below w.heap.size w w' := by
  have HI := Lib.hid hI
  obtain ⟨A, B, C, D, a, b, c, d, rfl, rfl, rfl, rfl, hA⟩ := hI.ad
  obtain ⟨W0, hW0, hb0, hg0, hx0⟩ := box1 w #[.string r.S.name, .slice A r.S.F.length a, .slice B r.S.P.length b, .int .i64 r.z.off, .bool r.z.sum, .slice C r.C.length c, .slice D r.U.length d] 56
  have HI0 := Lib.hid (HI.out.below hb0)
  have HV0 := Lib.hid (hv.below hb0)
  have hfm := Nat.le_trans hA.lF.1 hA.lF.2
  unfold maxLen at hfm
  clear hA hI hv
  go_enter Tryd.func20, Tryd.ntmps20
  go_wp2_with fail
  rw [← hW0]
  clear hW0
  refine (limAt_any r _ _ _ _ t W0 HV0.out HI0.out).mono ?_
  rintro e w1 ⟨v1, rfl, hs1, hb1⟩
  have y0 : ∀ j, w1.cell? ⟨w.heap.size, j, none⟩ = _ := fun j => (hb1.cell (p := ⟨w.heap.size, j, none⟩) hg0).trans (hx0 j)
  have y1 : w.heap.size < w1.heap.size := Nat.lt_of_lt_of_le hg0 hb1.size
  have HI1 := Lib.hid (HI0.out.below hb1)
  have hb01 := below_step hb0 hb1
  clear hx0 hg0 hb1 HI0 HV0
  by_cases he : atE r t = 0
  · have HOK : Hid (LimOk r) := by
      refine LimOk.of ?_
      unfold atE at he
      split at he
      · rename_i g; exact absurd he g
      · rename_i g; exact Classical.not_not.1 g
    have HAE := Lib.hid he
    rw [atL_ok he] at hs1
    rw [he]
    obtain ⟨G, gc, rfl, hgl, hgm, hgs⟩ := islen' hs1
    have hln := capsL_len r t
    have hl32 := HOK.out.lens.1
    clear he hs1
    rw [hln] at hgl ⊢
    unfold maxLen at hgm
    have HGS := Lib.hid hgs
    clear hgs
    by_cases hf : 0 ≤ f ∧ f < r.S.F.length
    · obtain ⟨f0, f1⟩ := hf
      obtain ⟨q, rfl⟩ : ∃ q : Nat, f = q := ⟨f.toNat, by omega⟩
      have HFULL := Lib.hid (pathN_full HAE.out f0 f1)
      have hq : q < (capsL r t).length := by omega
      obtain ⟨g, off, rfl, hgb, c0, c1, c2, c3⟩ := cap_at HGS.out hq
      rw [capsL_at hq] at c3
      replace c3 : w1.cell? ⟨g, off + q * 4 + 3, none⟩ = some (.int .i64 (capF r.lim q t)) := c3
      have q1 : ¬ (q : Int) < 0 := by omega
      have q2 : ¬ (r.S.F.length : Int) ≤ (q : Int) := by omega
      clear c0 c1 c2
      go_wp2_with fail
      refine (path_any r.S.name r.S.F _ _ _ _ q _ HI1.out.hF (by omega)).mono ?_
      rintro e w2 ⟨v2, rfl, hs2, hb2⟩
      obtain ⟨P, pc, rfl, hpl, hpm, hps⟩ := islen' hs2
      have hpl2 := pathL_len_le (F := r.S.F) r.S.F.length q
      have HPS := Lib.hid hps
      have HGS2 := Lib.hid (HGS.out.below hb2)
      have HLT := Lib.hid (fun x h => pathL_lt (F := r.S.F) (last := r.S.F.length) (i := q) x h)
      have hb02 := below_step hb01 hb2
      have HP0 : Hid (capF r.lim q t = pathN r q t 0) := rfl
      have HPN := Lib.hid (fun k h => pathN_step (r := r) (f := q) (t := t) (k := k) h)
      clear hs2 hps c3 y0 y1 hb01 hb2 hgb HGS HI1
      go_wp2_with fail
      rw [HP0.out]
      generalize w2 = wm at *
      go_loopw [9, 40] (fun n i wr => ∃ k : Nat, k ≤ (pathL r.S.F r.S.F.length q).length ∧ n = .int .i64 (pathN r q t k) ∧ i = .int .i64 k ∧ wr = wm) (fun _ i _ => (pathL r.S.F r.S.F.length q).length - (intOf i).toNat)
      case atStart => exact ⟨0, by omega, rfl, rfl, rfl⟩
      case round =>
        obtain ⟨k, hk, rfl, rfl, rfl⟩ := hrel
        by_cases hlt : k < (pathL r.S.F r.S.F.length q).length
        · have hki : (k : Int) < ((pathL r.S.F r.S.F.length q).length : Int) := by omega
          obtain ⟨b3, off3, rfl, hb3, d0⟩ := natL_at HPS.out hlt
          have HS := Lib.hid (HPN.out k hlt)
          have hx := HLT.out _ (List.getElem_mem hlt)
          generalize (pathL r.S.F r.S.F.length q)[k] = x at *
          have hxc : x < (capsL r t).length := by omega
          have hxi : (x : Int) < (r.S.F.length : Int) := by omega
          have hx0 : (0 : Int) ≤ (x : Int) := by omega
          obtain ⟨b4, off4, hA4, hb4, c0, c1, c2, c3⟩ := cap_at HGS2.out hxc
          injection hA4 with hA4
          injection hA4 with hA4 hA5 _
          subst hA4; subst hA5
          rw [capsL_at hxc] at c3
          replace c3 : wr.cell? ⟨g, off + x * 4 + 3, none⟩ = some (.int .i64 (capF r.lim x t)) := c3
          clear c0 c1 c2
          go_wp2_with fail
          go_roundw
          case measure => simp [intOf]; omega
          case rel => exact ⟨k + 1, by omega, by first | exact minW HS.out | rw [HS.out], by go_num, trivial⟩
        · have hki : ¬ (k : Int) < ((pathL r.S.F r.S.F.length q).length : Int) := by omega
          obtain rfl : k = (pathL r.S.F r.S.F.length q).length := by omega
          go_wp2_with fail
          go_ret
          exact ⟨ret_int HFULL.out, hb02⟩
    · have HE := Lib.hid (pathA_out (r := r) (f := f) (t := t) (by omega))
      have hcase : f < 0 ∨ (¬ f < 0 ∧ (r.S.F.length : Int) ≤ f) := by omega
      clear hf
      rcases hcase with q1 | ⟨q1, q2⟩
      all_goals
        go_wp2_with fail
        go_ret
        exact ⟨ret_int HE.out.symm, hb01⟩
  · have HE := Lib.hid (pathA_out (r := r) (f := f) (t := t) (.inl he))
    have hne : (atE r t != 0) = true := by simpa using he
    obtain ⟨G, gc, rfl, hgl, hgm, hgs⟩ := islen' hs1
    clear hs1 hgs
    go_wp2_with fail
    go_ret
    exact ⟨ret_int HE.out.symm, hb01⟩

end Go.Proofs.YtlpjniejbblcnaaDoor
