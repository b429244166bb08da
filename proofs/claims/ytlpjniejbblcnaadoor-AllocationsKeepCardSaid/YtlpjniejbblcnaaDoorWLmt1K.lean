/-
  Walks: total of package limits.
-/
import Derived.Test.YtlpjniejbblcnaaDoorLimIn
import Derived.Test.YtlpjniejbblcnaaDoorWCur1
import Derived.Test.YtlpjniejbblcnaaDoorWCur3K
namespace Go.Proofs.YtlpjniejbblcnaaDoor
open Go.RowKit Go.Lib Go.Maps
attribute [local go_sem] after_cell
set_option linter.unusedVariables false

theorem feedC_at {w : World} {A : Option Addr} {l : List Feed} (h : SlAt w 5 A (l.map Feed.cells)) {k : Nat} (hk : k < l.length) :
    ∃ b off, A = some ⟨b, off, none⟩ ∧ b < w.heap.size ∧ w.cell? ⟨b, off + k * 5, none⟩ = some (.string l[k].name) ∧ w.cell? ⟨b, off + k * 5 + 1, none⟩ = some (.int .i64 l[k].parent) ∧ w.cell? ⟨b, off + k * 5 + 2, none⟩ = some (.int .i64 l[k].a) ∧
      w.cell? ⟨b, off + k * 5 + 3, none⟩ = some (.int .i64 l[k].b) ∧ w.cell? ⟨b, off + k * 5 + 4, none⟩ = some (.int .i64 l[k].c) := by
  obtain ⟨b, off, e, hb, hc⟩ := h k l[k].cells (by rw [List.getElem?_map, List.getElem?_eq_getElem hk]; rfl)
  exact ⟨b, off, e, hb, hc 0 _ rfl, hc 1 _ rfl, hc 2 _ rfl, hc 3 _ rfl, hc 4 _ rfl⟩

set_option maxRecDepth 100000 in
set_option maxHeartbeats 6400000 in
theorem total_any (r : RulR) (fv pv cv uv : Value) (f : Nat) (t : Int) (w : World) (hI : LimIn w r fv pv cv uv) (hf : f < r.S.F.length) (hR : Rated r.S.F) :
    Calls Tryd.prog 57 #[.agg #[.string r.S.name, fv, pv, .int .i64 r.z.off, .bool r.z.sum, cv, uv], .int .i64 f, .int .i64 t] w fun e w' => e = .returned (.int .i64 (totF r.lim f t)) ∧ Below w.heap.size w w' := by
  have HI := Lib.hid hI
  obtain ⟨A, B, C, D, a, b, c, d, rfl, rfl, rfl, rfl, hA⟩ := hI.ad
  obtain ⟨W0, hW0, hb0, hg0, hx0⟩ := box1 w #[.string r.S.name, .slice A r.S.F.length a, .slice B r.S.P.length b, .int .i64 r.z.off, .bool r.z.sum, .slice C r.C.length c, .slice D r.U.length d] 56
  have HU := Lib.hid (HI.out.below hb0).hU
  obtain ⟨blk, off, rfl, hb, c0, c1, c2, c3, c4⟩ := feedC_at hA.sF hf
  obtain ⟨l1, l2⟩ := hA.lF
  unfold maxLen at l2
  have hfi : (f : Int) < (r.S.F.length : Int) := by omega
  have HT := Lib.hid (totF_at hf t)
  obtain ⟨a0, a1, b0, b1, d0, d1⟩ := hR _ (List.getElem_mem hf)
  unfold rateF at HT
  generalize r.S.F[f] = x at *
  have q1 : IntKind.i64.wrap (x.a + x.b) = x.a + x.b := IntWalk.i64_in _ (by omega)
  have q2 : IntKind.i64.wrap (x.a + x.b + x.c) = x.a + x.b + x.c := IntWalk.i64_in _ (by omega)
  obtain ⟨W1, hW1, hb1, hg1, hx1⟩ := box1 W0 #[.int .i64 x.a, .int .i64 x.b, .int .i64 x.c] 24
  have hb01 := below_step hb0 hb1
  have y0 : ∀ j, W1.cell? ⟨w.heap.size, j, none⟩ = (#[.string r.S.name, .slice (some ⟨blk, off, none⟩) r.S.F.length a, .slice B r.S.P.length b, .int .i64 r.z.off, .bool r.z.sum, .slice C r.C.length c, .slice D r.U.length d] : Array Value)[j]? := fun j => (hb1.cell (p := ⟨w.heap.size, j, none⟩) hg0).trans (hx0 j)
  have y1 : w.heap.size < W1.heap.size := Nat.lt_of_lt_of_le hg0 hb1.size
  have e0 : W0.heap.size = w.heap.size + 1 := by rw [hW0]; simp
  rw [e0] at hx1 hg1
  have hbr := Below.refl W1.heap.size W1
  have HU1 := Lib.hid (HU.out.below hb1)
  have c3' : w.cell? ⟨blk, off + f * 5 + 2 + 1, none⟩ = some (.int .i64 x.b) := c3
  have c4' : w.cell? ⟨blk, off + f * 5 + 2 + 2, none⟩ = some (.int .i64 x.c) := c4
  clear hR hA
  go_enter Tryd.func57, Tryd.ntmps57
  go_wp2_with fail
  rw [← hW0, ← hW1]
  clear hW0 hW1
  (refine wp_region_kept W1 (by kernel_rfl) (by kernel_rfl) (by assumption) ?_; (repeat (go_big_quiet_step ((first | (go_at_call 69; exact kept_call (curAt_any r.U _ f t _ (HU1.out.below (after_kept _).2))))))); refine wpQuiet_nil ?_; intro _ hw'; obtain ⟨x9, hw''⟩ := hw'; subst hw''; have hk9 := after_kept x9; generalize after x9 = w9 at *)
  obtain ⟨hc9, hb9⟩ := hk9
  go_wp2_with fail
  all_goals go_ret
  all_goals exact ⟨ret_int (by rw [HT.out] <;> (first | (rfl; done) | omega)), below_step hb01 hb9⟩

end Go.Proofs.YtlpjniejbblcnaaDoor
