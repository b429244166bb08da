/-
  Walks: capAt and changed of package limits.
-/
import Derived.Test.YtlpjniejbblcnaaDoorWLmt1K
import Derived.Test.YtlpjniejbblcnaaDoorWCon1K
namespace Go.Proofs.YtlpjniejbblcnaaDoor
open Go.RowKit Go.Lib Go.Maps
attribute [local go_sem] after_cell
set_option linter.unusedVariables false

/-- a row of cells, stored anew in a later world -/
theorem rowN {w1 : World} {g : Nat} {cs : Array Value} (hbx : ∀ j, w1.cell? ⟨g, j, none⟩ = cs[j]?) (vs : List Value) (hv : vs.length = cs.size) :
    ∃ w2, w2 = storeRow w1 g 0 vs ∧ (∀ j, j < vs.length → w2.cell? ⟨g, j, none⟩ = vs[j]?) ∧ (∀ B W, B ≤ g → Below B W w1 → Below B W w2) := by
  refine ⟨_, rfl, fun j hj => ?_, fun B W hB hW => storeRow_below hB vs w1 0 hW⟩
  have := storeRow_cell (g := g) vs w1 0 (fun i hi => by
    rw [Nat.zero_add, hbx i]
    exact ⟨cs[i]'(by omega), by rw [Array.getElem?_eq_getElem]⟩) j hj
  rwa [Nat.zero_add] at this

theorem fr_new (w : World) (cs : Array Value) (T : TypeId) (j : Nat) : (w.alloc (.cells cs T)).frozen? ⟨w.heap.size, j, none⟩ = false := by
  rw [World.frozen?_alloc_mark w cs T 0 0 j]; simp

set_option maxRecDepth 100000 in
set_option maxHeartbeats 6400000 in
theorem capAt_any (r : RulR) (fv pv cv uv : Value) (f : Nat) (t : Int) (w : World) (hv : LenV w) (hI : LimIn w r fv pv cv uv) (hf : f < r.S.F.length) (hR : Rated r.S.F) :
    Calls Tryd.prog 40 #[.agg #[.string r.S.name, fv, pv, .int .i64 r.z.off, .bool r.z.sum, cv, uv], .int .i64 f, .int .i64 t] w
      fun e w' => e = .returned (.agg #[.int .i64 r.S.F[f].a, .int .i64 r.S.F[f].b, .int .i64 r.S.F[f].c, .int .i64 (capF r.lim f t)]) ∧ Below w.heap.size w w' := by
  have HI := Lib.hid hI
  obtain ⟨A, B, C, D, a, b, c, d, rfl, rfl, rfl, rfl, hA⟩ := hI.ad
  obtain ⟨W0, hW0, hb0, hg0, hx0⟩ := box1 w #[.string r.S.name, .slice A r.S.F.length a, .slice B r.S.P.length b, .int .i64 r.z.off, .bool r.z.sum, .slice C r.C.length c, .slice D r.U.length d] 56
  obtain ⟨blk, off, rfl, hb, c0, c1, c2, c3, c4⟩ := feedC_at hA.sF hf
  obtain ⟨l1, l2⟩ := hA.lF
  unfold maxLen at l2
  have hfi : (f : Int) < (r.S.F.length : Int) := by omega
  obtain ⟨W1, hW1, hb1, hg1, hx1⟩ := box1 W0 #[.int .i64 0, .int .i64 0, .int .i64 0, .int .i64 0] 41
  have hb01 := below_step hb0 hb1
  have e0 : W0.heap.size = w.heap.size + 1 := by rw [hW0]; simp
  have f1 : ∀ j, W1.frozen? ⟨w.heap.size + 1, j, none⟩ = false := fun j => by rw [hW1, ← e0]; exact fr_new _ _ _ j
  have y0 : ∀ j, W1.cell? ⟨w.heap.size, j, none⟩ = (#[.string r.S.name, .slice (some ⟨blk, off, none⟩) r.S.F.length a, .slice B r.S.P.length b, .int .i64 r.z.off, .bool r.z.sum, .slice C r.C.length c, .slice D r.U.length d] : Array Value)[j]? := fun j => (hb1.cell (p := ⟨w.heap.size, j, none⟩) hg0).trans (hx0 j)
  have y1 : w.heap.size < W1.heap.size := Nat.lt_of_lt_of_le hg0 hb1.size
  rw [e0] at hx1 hg1
  have hbr := Below.refl W1.heap.size W1
  have HI1 := Lib.hid (HI.out.below hb01)
  have HV1 := Lib.hid (hv.below hb01)
  have HTT := Lib.hid (fun w' (h : LimIn w' r (.slice (some ⟨blk, off, none⟩) r.S.F.length a) (.slice B r.S.P.length b) (.slice C r.C.length c) (.slice D r.U.length d)) => total_any r _ _ _ _ f t w' h hf hR)
  have HC : Hid (capF r.lim f t = min (totF r.lim f t) (cAt r.C r.z f t)) := rfl
  have HC2 : Hid ((if cAt r.C r.z f t < totF r.lim f t then cAt r.C r.z f t else totF r.lim f t) = capF r.lim f t) := by
    unfold Hid
    rw [HC.out]
    split <;> omega
  have z2 := ((bcell hb01).1 blk (off + f * 5 + 2) hb).trans c2
  have z3 : W1.cell? ⟨blk, off + f * 5 + 2 + 1, none⟩ = _ := ((bcell hb01).1 blk (off + f * 5 + 3) hb).trans c3
  have z4 : W1.cell? ⟨blk, off + f * 5 + 2 + 2, none⟩ = _ := ((bcell hb01).1 blk (off + f * 5 + 4) hb).trans c4
  have hb' : blk < W1.heap.size := Nat.lt_of_lt_of_le hb hb01.size
  generalize r.S.F[f] = x at *
  clear hR hA hI hv c0 c1 c2 c3 c4 hb
  go_enter Tryd.func40, Tryd.ntmps40
  go_wp2_with fail
  rw [← hW0, ← hW1]
  clear hW0 hW1
  (refine wp_region_kept W1 (by kernel_rfl) (by kernel_rfl) (by assumption) ?_; (repeat (go_big_quiet_step ((first | (go_at_call 57; exact kept_call (HTT.out _ (HI1.out.below (after_kept _).2))) | (go_at_call 58; exact kept_call (conAt_any r.C _ r.z f t _ (HV1.out.below (after_kept _).2) (HI1.out.below (after_kept _).2).hC)))))); refine wpQuiet_nil ?_; intro _ hw'; obtain ⟨x9, hw''⟩ := hw'; subst hw''; have hk9 := after_kept x9; generalize after x9 = w9 at *)
  obtain ⟨hc9, hb9⟩ := hk9
  have v0 : ∀ j, w9.cell? ⟨w.heap.size, j, none⟩ = _ := fun j => (hc9 _ j y1).trans (y0 j)
  have v1 : ∀ j, w9.cell? ⟨w.heap.size + 1, j, none⟩ = _ := fun j => (hc9 _ j hg1).trans (hx1 j)
  have v2 := (hc9 _ _ hb').trans z2
  have v3 := (hc9 _ _ hb').trans z3
  have v4 := (hc9 _ _ hb').trans z4
  have hz := Nat.lt_of_lt_of_le hg1 hb9.size
  have f9 : ∀ j, w9.frozen? ⟨w.heap.size + 1, j, none⟩ = false := fun j => ((bcell hb9).2 _ j hg1).trans (f1 j)
  first | rw [← HC.out] | rw [HC2.out]
  generalize hcp : capF r.lim f t = cp at *
  have hb19 := below_step hb01 hb9
  clear f1 y0 hx1 z2 z3 z4 hc9 hx0 hb9 hb0 hb1 hbr
  go_wp2_with fail
  obtain ⟨w2, hw2, hx2, hb2⟩ := rowN v1 [.int .i64 x.a, .int .i64 x.b, .int .i64 x.c, .int .i64 cp] rfl
  rw [show ((((w9).setCell ⟨w.heap.size + 1, 0, none⟩ (.int .i64 x.a)).setCell ⟨w.heap.size + 1, 1, none⟩ (.int .i64 x.b)).setCell ⟨w.heap.size + 1, 2, none⟩ (.int .i64 x.c)).setCell ⟨w.heap.size + 1, 3, none⟩ (.int .i64 cp) = w2 from hw2.symm]
  have d0 := hx2 0 (by simp)
  have d1 := hx2 1 (by simp)
  have d2 := hx2 2 (by simp)
  have d3 := hx2 3 (by simp)
  exact bodyPost_ret (v := .agg #[.int .i64 x.a, .int .i64 x.b, .int .i64 x.c, .int .i64 cp]) (by simp [results, Tryd.results40, go_sem, d0, d1, d2, d3]) rfl ⟨by rw [hcp], hb2 _ _ (Nat.le_succ _) hb19⟩

end Go.Proofs.YtlpjniejbblcnaaDoor
