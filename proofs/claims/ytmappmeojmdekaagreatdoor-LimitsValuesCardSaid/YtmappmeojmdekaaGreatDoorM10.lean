/-
  Walks: capAt and changed of package limits.
  Caps as rows; two caps compared.
  Walks: changed of package limits.
  The examples of the chapter on windows, in plain words.
  A region that draws its order: reads, then one store or call at its end. No program is named here.
-/
import Derived.Test.YtmappmeojmdekaaGreatDoorM6
import Derived.Test.YtmappmeojmdekaaGreatDoorM9
import Derived.Test.YtmappmeojmdekaaGreatDoorProg
import Derived.Test.YtmappmeojmdekaaGreatDoorM3
import Derived.Test.YtmappmeojmdekaaGreatDoorM1
import Derived.Test.YtmappmeojmdekaaGreatDoorM5
import Derived.Deep.DeepCutAuto
import Derived.StillTailTactics

namespace Go.Proofs.YtmappmeojmdekaaGreatDoor
open Go.RowKit Go.Lib Go.Maps
attribute [local go_sem] after_cell
set_option linter.unusedVariables false

/-- a row of cells, stored anew in a later world -/
theorem rowN {w1 : World} {g : Nat} {cs : Array Value} (hbx : ∀ j, w1.cell? ⟨g, j, none⟩ = cs[j]?) (vs : List Value) (hv : vs.length = cs.size) :
    ∃ w2, w2 = storeRow w1 g 0 vs ∧ (∀ j, j < vs.length → w2.cell? ⟨g, j, none⟩ = vs[j]?) ∧ (∀ B W, B ≤ g → Below B W w1 → Below B W w2) := by
  refine ⟨_, rfl, fun j hj => ?_, fun B W hB hW => storeRow_below hB vs w1 0 hW⟩
  have := storeRow_cell (g := g) vs w1 0 (fun i hi => by
    rw [Nat.zero_add, hbx i]
    exact ⟨cs[i]'(by omega), by rw [Array.getElem?_eq_getElem]⟩) j hj
  rwa [Nat.zero_add] at this

theorem fr_new (w : World) (cs : Array Value) (T : TypeId) (j : Nat) : (w.alloc (.cells cs T)).frozen? ⟨w.heap.size, j, none⟩ = false := by
  rw [World.frozen?_alloc_mark w cs T 0 0 j]; simp

set_option maxRecDepth 100000 in
set_option maxHeartbeats 6400000 in
theorem capAt_any (r : RulR) (fv pv cv uv : Value) (f : Nat) (t : Int) (w : World) (hv : LenV w) (hI : LimIn w r fv pv cv uv) (hf : f < r.S.F.length) (hR : Rated r.S.F) :
    Calls Tryz.prog 36 #[.agg #[.string r.S.name, fv, pv, .int .i64 r.z.off, .bool r.z.sum, cv, uv], .int .i64 f, .int .i64 t] w
      fun e w' => e = .returned (.agg #[.int .i64 r.S.F[f].a, .int .i64 r.S.F[f].b, .int .i64 r.S.F[f].c, .int .i64 (capF r.lim f t)]) ∧ Below w.heap.size w w' := by
  have HI := Lib.hid hI
  obtain ⟨A, B, C, D, a, b, c, d, rfl, rfl, rfl, rfl, hA⟩ := hI.ad
  obtain ⟨W0, hW0, hb0, hg0, hx0⟩ := box1 w #[.string r.S.name, .slice A r.S.F.length a, .slice B r.S.P.length b, .int .i64 r.z.off, .bool r.z.sum, .slice C r.C.length c, .slice D r.U.length d] 31
  obtain ⟨blk, off, rfl, hb, c0, c1, c2, c3, c4⟩ := feedC_at hA.sF hf
  obtain ⟨l1, l2⟩ := hA.lF
  unfold maxLen at l2
  have hfi : (f : Int) < (r.S.F.length : Int) := by omega
  obtain ⟨W1, hW1, hb1, hg1, hx1⟩ := box1 W0 #[.int .i64 0, .int .i64 0, .int .i64 0, .int .i64 0] 56
  have hb01 := below_step hb0 hb1
  have e0 : W0.heap.size = w.heap.size + 1 := by rw [hW0]; simp
  have f1 : ∀ j, W1.frozen? ⟨w.heap.size + 1, j, none⟩ = false := fun j => by rw [hW1, ← e0]; exact fr_new _ _ _ j
  have y0 : ∀ j, W1.cell? ⟨w.heap.size, j, none⟩ = (#[.string r.S.name, .slice (some ⟨blk, off, none⟩) r.S.F.length a, .slice B r.S.P.length b, .int .i64 r.z.off, .bool r.z.sum, .slice C r.C.length c, .slice D r.U.length d] : Array Value)[j]? := fun j => (hb1.cell (p := ⟨w.heap.size, j, none⟩) hg0).trans (hx0 j)
  have y1 : w.heap.size < W1.heap.size := Nat.lt_of_lt_of_le hg0 hb1.size
  rw [e0] at hx1 hg1
  have hbr := Below.refl W1.heap.size W1
  have HI1 := Lib.hid (HI.out.below hb01)
  have HV1 := Lib.hid (hv.below hb01)
  have HTT := Lib.hid (fun w' (h : LimIn w' r (.slice (some ⟨blk, off, none⟩) r.S.F.length a) (.slice B r.S.P.length b) (.slice C r.C.length c) (.slice D r.U.length d)) => total_any r _ _ _ _ f t w' h hf hR)
  have HC : Hid (capF r.lim f t = min (totF r.lim f t) (cAt r.C r.z f t)) := rfl
  have z2 := ((bcell hb01).1 blk (off + f * 5 + 2) hb).trans c2
  have z3 : W1.cell? ⟨blk, off + f * 5 + 2 + 1, none⟩ = _ := ((bcell hb01).1 blk (off + f * 5 + 3) hb).trans c3
  have z4 : W1.cell? ⟨blk, off + f * 5 + 2 + 2, none⟩ = _ := ((bcell hb01).1 blk (off + f * 5 + 4) hb).trans c4
  have hb' : blk < W1.heap.size := Nat.lt_of_lt_of_le hb hb01.size
  generalize r.S.F[f] = x at *
  clear hR hA hI hv c0 c1 c2 c3 c4 hb
  go_enter Tryz.func36, Tryz.ntmps36
  go_wp2_with fail
  rw [← hW0, ← hW1]
  clear hW0 hW1
  (refine wp_region_kept W1 (by kernel_rfl) (by kernel_rfl) (by assumption) ?_; (repeat (go_big_quiet_step ((first | (go_at_call 55; exact kept_call (HTT.out _ (HI1.out.below (after_kept _).2))) | (go_at_call 56; exact kept_call (conAt_any r.C _ r.z f t _ (HV1.out.below (after_kept _).2) (HI1.out.below (after_kept _).2).hC)))))); refine wpQuiet_nil ?_; intro _ hw'; obtain ⟨x9, hw''⟩ := hw'; subst hw''; have hk9 := after_kept x9; generalize after x9 = w9 at *)
  obtain ⟨hc9, hb9⟩ := hk9
  have v0 : ∀ j, w9.cell? ⟨w.heap.size, j, none⟩ = _ := fun j => (hc9 _ j y1).trans (y0 j)
  have v1 : ∀ j, w9.cell? ⟨w.heap.size + 1, j, none⟩ = _ := fun j => (hc9 _ j hg1).trans (hx1 j)
  have v2 := (hc9 _ _ hb').trans z2
  have v3 := (hc9 _ _ hb').trans z3
  have v4 := (hc9 _ _ hb').trans z4
  have hz := Nat.lt_of_lt_of_le hg1 hb9.size
  have f9 : ∀ j, w9.frozen? ⟨w.heap.size + 1, j, none⟩ = false := fun j => ((bcell hb9).2 _ j hg1).trans (f1 j)
  rw [← HC.out]
  generalize hcp : capF r.lim f t = cp at *
  have hb19 := below_step hb01 hb9
  clear f1 y0 hx1 z2 z3 z4 hc9 hx0 hb9 hb0 hb1 hbr
  go_wp2_with fail
  obtain ⟨w2, hw2, hx2, hb2⟩ := rowN v1 [.int .i64 x.a, .int .i64 x.b, .int .i64 x.c, .int .i64 cp] rfl
  rw [show ((((w9).setCell ⟨w.heap.size + 1, 0, none⟩ (.int .i64 x.a)).setCell ⟨w.heap.size + 1, 1, none⟩ (.int .i64 x.b)).setCell ⟨w.heap.size + 1, 2, none⟩ (.int .i64 x.c)).setCell ⟨w.heap.size + 1, 3, none⟩ (.int .i64 cp) = w2 from hw2.symm]
  have d0 := hx2 0 (by simp)
  have d1 := hx2 1 (by simp)
  have d2 := hx2 2 (by simp)
  have d3 := hx2 3 (by simp)
  exact bodyPost_ret (v := .agg #[.int .i64 x.a, .int .i64 x.b, .int .i64 x.c, .int .i64 cp]) (by simp [results, Tryz.results36, go_sem, d0, d1, d2, d3]) rfl ⟨by rw [hcp], hb2 _ _ (Nat.le_succ _) hb19⟩

end Go.Proofs.YtmappmeojmdekaaGreatDoor

namespace Go.Proofs.YtmappmeojmdekaaGreatDoor
open Go.RowKit Go.Lib Go.Maps
set_option linter.unusedVariables false

theorem CapR.cells_len (c : CapR) : c.cells.length = 4 := rfl
theorem cap_at {w : World} {A : Option Addr} {l : List CapR} (h : SlAt w 4 A (l.map CapR.cells)) {k : Nat} (hk : k < l.length) :
    ∃ b off, A = some ⟨b, off, none⟩ ∧ b < w.heap.size ∧ w.cell? ⟨b, off + k * 4, none⟩ = some (.int .i64 l[k].a) ∧ w.cell? ⟨b, off + k * 4 + 1, none⟩ = some (.int .i64 l[k].b) ∧ w.cell? ⟨b, off + k * 4 + 2, none⟩ = some (.int .i64 l[k].c) ∧
      w.cell? ⟨b, off + k * 4 + 3, none⟩ = some (.int .i64 l[k].t) := by
  obtain ⟨b, off, e, hb, hc⟩ := h k l[k].cells (by rw [List.getElem?_map, List.getElem?_eq_getElem hk]; rfl)
  exact ⟨b, off, e, hb, hc 0 _ rfl, hc 1 _ rfl, hc 2 _ rfl, hc 3 _ rfl⟩
theorem old_alloc {w : World} {b : Nat} (h : b < w.heap.size) (o : Obj) (j : Nat) : (w.alloc o).cell? ⟨b, j, none⟩ = w.cell? ⟨b, j, none⟩ := World.cell?_of_block (a := ⟨b, j, none⟩) (Below.heap_alloc _ _ _ h)
theorem old_alloc2 {w : World} {b : Nat} (h : b < w.heap.size) (o o' : Obj) (j : Nat) : ((w.alloc o).alloc o').cell? ⟨b, j, none⟩ = w.cell? ⟨b, j, none⟩ := (old_alloc (by simp; omega) o' j).trans (old_alloc h o j)

noncomputable def eqL {α : Type} (a b : List α) : Bool := @decide (a = b) (Classical.propDecidable _)
theorem eqL_t {α : Type} {a b : List α} (h : a = b) : eqL a b = true := by unfold eqL; simpa using h
theorem eqL_f {α : Type} {a b : List α} (h : ¬ a = b) : eqL a b = false := by unfold eqL; simpa using h
theorem take_step {α : Type} {a b : List α} {k : Nat} (h : a.take k = b.take k) (h1 : k < a.length) (h2 : k < b.length) (e : a[k] = b[k]) : a.take (k + 1) = b.take (k + 1) := by
  rw [List.take_succ_eq_append_getElem h1, List.take_succ_eq_append_getElem h2, h, e]
theorem take_stop {α : Type} {a b : List α} {k : Nat} (h1 : k < a.length) (h2 : k < b.length) (e : a = b) : a[k] = b[k] := by subst e; rfl
theorem take_all {α : Type} {a b : List α} {k : Nat} (h : a.take k = b.take k) (hl : a.length = b.length) (h1 : ¬ k < a.length) : a = b := by
  rw [List.take_of_length_le (by omega), List.take_of_length_le (by omega)] at h
  exact h

def eqC (x y : CapR) : Bool := (x.a == y.a && (x.b == y.b && x.c == y.c)) && x.t == y.t
theorem eqC_iff (x y : CapR) : eqC x y = true ↔ x = y := by
  obtain ⟨a1, a2, a3, a4⟩ := x
  obtain ⟨b1, b2, b3, b4⟩ := y
  simp [eqC, and_assoc]
set_option maxRecDepth 100000 in
theorem eq_tri (a b c a' b' c' : Int) (w : World) : (Op.equalIn 9999 54 (.agg #[.int .i64 a, .int .i64 b, .int .i64 c]) (.agg #[.int .i64 a', .int .i64 b', .int .i64 c'])).run Tryz.prog w = .ok (a == a' && (b == b' && c == c')) w := by
  rw [run_equalIn_agg w 9998 _ _ _ Tryz.underlying54 Tryz.stoodInHeld54]
  simp only [Program.fieldsOf, Tryz.underlying54]
  cases h1 : (a == a') <;> cases h2 : (b == b') <;> cases h3 : (c == c') <;>
    simp [go_sem, Op.eqFields, part, run_equalIn_int _ _ _ _ _ _ _ Tryz.underlying3, h1, h2, h3]
set_option maxRecDepth 100000 in
theorem eq_cap (x y : CapR) (w : World) : (Op.equalIn 10000 56 (.agg #[.int .i64 x.a, .int .i64 x.b, .int .i64 x.c, .int .i64 x.t]) (.agg #[.int .i64 y.a, .int .i64 y.b, .int .i64 y.c, .int .i64 y.t])).run Tryz.prog w = .ok (eqC x y) w := by
  rw [run_equalIn_agg w 9999 _ _ _ Tryz.underlying56 Tryz.stoodInHeld56]
  simp only [Program.fieldsOf, Tryz.underlying56]
  cases h1 : (x.a == y.a && (x.b == y.b && x.c == y.c)) <;> cases h4 : (x.t == y.t) <;>
    simp [go_sem, Op.eqFields, part, eqC, eq_tri, run_equalIn_int _ _ _ _ _ _ _ Tryz.underlying3, h1, h4]
theorem neq_cap (x y : CapR) (w : World) : (binOp .neq 56 (.agg #[.int .i64 x.a, .int .i64 x.b, .int .i64 x.c, .int .i64 x.t]) (.agg #[.int .i64 y.a, .int .i64 y.b, .int .i64 y.c, .int .i64 y.t])).run Tryz.prog w = .ok (.bool (!eqC x y)) w := by
  rw [run_neq_struct, eq_cap]; rfl

theorem capInfo : (Tryz.prog.info? 56).map (fun i => (i.zero, i.size, i.bytes)) = some (some (.agg #[.int .i64 0, .int .i64 0, .int .i64 0, .int .i64 0]), 4, 32) := by kernel_rfl

theorem zero_cells (n : Nat) : (madeCells (Value.agg #[.int .i64 0, .int .i64 0, .int .i64 0, .int .i64 0]).cells (n * 4)).toList = (List.replicate n zeroC).flatMap CapR.cells := by
  have h1 : (madeCells (Value.agg #[.int .i64 0, .int .i64 0, .int .i64 0, .int .i64 0]).cells (n * 4)).toList = List.replicate (n * 4) (.int .i64 0) := by
    rw [List.eq_replicate_iff]
    refine ⟨by simp [size_madeCells], fun v hv => ?_⟩
    unfold madeCells at hv
    simp only [Array.toList_map, List.mem_map] at hv
    obtain ⟨x, _, rfl⟩ := hv
    have hs : (Value.agg #[.int .i64 0, .int .i64 0, .int .i64 0, .int .i64 0]).cells = #[.int .i64 0, .int .i64 0, .int .i64 0, .int .i64 0] := rfl
    rw [hs]
    have hx : x % 4 = 0 ∨ x % 4 = 1 ∨ x % 4 = 2 ∨ x % 4 = 3 := by omega
    show (#[Value.int .i64 0, .int .i64 0, .int .i64 0, .int .i64 0] : Array Value)[x % 4]! = _
    rcases hx with h | h | h | h <;> rw [h] <;> rfl
  rw [h1]
  symm
  rw [List.eq_replicate_iff]
  refine ⟨by rw [flat_len CapR.cells 4 CapR.cells_len]; simp, fun v hv => ?_⟩
  rw [List.mem_flatMap] at hv
  obtain ⟨y, hy, hv⟩ := hv
  rw [List.mem_replicate] at hy
  rw [hy.2] at hv
  simpa [CapR.cells, zeroC] using hv

theorem ret_vint {k : IntKind} {a b : Value} {c d : Int} (h : a = b) (h' : c = d) : Ending.returned (.tuple #[a, .int k c]) = .returned (.tuple #[b, .int k d]) := by rw [h, h']

end Go.Proofs.YtmappmeojmdekaaGreatDoor

namespace Go.Proofs.YtmappmeojmdekaaGreatDoor
open Go.RowKit Go.Lib Go.Maps
attribute [local go_sem] after_cell
set_option linter.unusedVariables false

/-- none of the first k caps differs from what it was a minute before -/
def sameN (r : RulR) (t : Int) (k : Nat) : Prop := ∀ j, j < k → capF r.lim (j : Nat) t = capF r.lim (j : Nat) (t - 1)
theorem lim_len (r : RulR) : r.lim.R.length = r.S.F.length := by simp [RulR.lim]
theorem sameN_step {r : RulR} {t : Int} {k : Nat} (h : sameN r t k) (e : capF r.lim k t = capF r.lim k (t - 1)) : sameN r t (k + 1) := fun j hj => by
  by_cases q : j = k
  · rw [q]; exact e
  · exact h j (by omega)
theorem sameN_end {r : RulR} {t : Int} {k : Nat} (h : sameN r t k) (hk : ¬ k < r.S.F.length) : difR r.lim t = false :=
  difR_false.2 fun i hi => h i (by rw [lim_len] at hi; omega)
theorem sameN_dif {r : RulR} {t : Int} {k : Nat} (hk : k < r.S.F.length) (e : ¬ capF r.lim k t = capF r.lim k (t - 1)) : difR r.lim t = true := by
  cases h : difR r.lim t with
  | true => rfl
  | false => exact absurd (difR_false.1 h k (by rw [lim_len]; exact hk)) e

set_option maxRecDepth 100000 in
set_option maxHeartbeats 6400000 in
theorem changed_any (r : RulR) (fv pv cv uv : Value) (t : Int) (w : World) (hv : LenV w) (hI : LimIn w r fv pv cv uv) (hR : Rated r.S.F) (h0 : 0 ≤ t) (h1 : t ≤ 268435457) :
    Calls Tryz.prog 62 #[.agg #[.string r.S.name, fv, pv, .int .i64 r.z.off, .bool r.z.sum, cv, uv], .int .i64 t] w fun e w' => e = .returned (.bool (difR r.lim t)) ∧ Below w.heap.size w w' := by
  have HI := Lib.hid hI
  have HR := Lib.hid hR
  obtain ⟨A, B, C, D, a, b, c, d, rfl, rfl, rfl, rfl, hA⟩ := hI.ad
  obtain ⟨W0, hW0, hb0, hg0, hx0⟩ := box1 w #[.string r.S.name, .slice A r.S.F.length a, .slice B r.S.P.length b, .int .i64 r.z.off, .bool r.z.sum, .slice C r.C.length c, .slice D r.U.length d] 31
  obtain ⟨l1, l2⟩ := hA.lF
  unfold maxLen at l2
  have HI0 := Lib.hid (HI.out.below hb0)
  have HV0 := Lib.hid (hv.below hb0)
  have hwt : IntKind.i64.wrap (t - 1) = t - 1 := IntWalk.i64_in _ (by omega)
  clear hA hI hv hR
  go_enter Tryz.func62, Tryz.ntmps62
  go_wp2_with fail
  rw [← hW0]
  clear hW0
  go_loopw [10] (fun i wr => ∃ k : Nat, k ≤ r.S.F.length ∧ i = .int .i64 k ∧ Hid (sameN r t k) ∧ Below W0.heap.size W0 wr) (fun i _ => r.S.F.length - (intOf i).toNat)
  case atStart => exact ⟨0, by omega, rfl, fun j hj => by omega, Below.refl _ _⟩
  case round =>
    obtain ⟨k, hk, rfl, HS, hbw⟩ := hrel
    obtain ⟨hc, hf⟩ := bcell hbw
    by_cases hlt : k < r.S.F.length
    · have hki : (k : Int) < (r.S.F.length : Int) := by omega
      have y0 : ∀ j, wr.cell? ⟨w.heap.size, j, none⟩ = _ := fun j => (hc _ j hg0).trans (hx0 j)
      have y1 : w.heap.size < wr.heap.size := Nat.lt_of_lt_of_le hg0 hbw.size
      have hbr := Below.refl wr.heap.size wr
      have HI1 := Lib.hid (HI0.out.below hbw)
      have HV1 := Lib.hid (HV0.out.below hbw)
      have HCC := Lib.hid (fun (t : Int) (w' : World) (hb : Below wr.heap.size wr w') => capAt_any r _ _ _ _ k t w' (HV1.out.below hb) (HI1.out.below hb) hlt HR.out)
      have HST := Lib.hid (fun e => sameN_step HS.out e)
      have HDF := Lib.hid (fun e => sameN_dif (t := t) hlt e)
      generalize r.S.F[k] = x at *
      have hnq := neq_cap ⟨x.a, x.b, x.c, capF r.lim k t⟩ ⟨x.a, x.b, x.c, capF r.lim k (t - 1)⟩
      have heg := fun w => run_eqGuard_agg (P := Tryz.prog) w .neq 56 (.tmp 16) (.tmp 21) #[.int .i64 x.a, .int .i64 x.b, .int .i64 x.c, .int .i64 (capF r.lim k t)] #[.int .i64 x.a, .int .i64 x.b, .int .i64 x.c, .int .i64 (capF r.lim k (t - 1))] Tryz.eqGuardType56
      clear hc hf HS
      by_cases he : capF r.lim k t = capF r.lim k (t - 1)
      · have HN := Lib.hid (HST.out he)
        rw [show eqC ⟨x.a, x.b, x.c, capF r.lim k t⟩ ⟨x.a, x.b, x.c, capF r.lim k (t - 1)⟩ = true by rw [he]; exact (eqC_iff _ _).2 rfl] at hnq
        clear he
        go_wp2_with fail
        (refine wp_region_kept wr (by kernel_rfl) (by kernel_rfl) (by assumption) ?_; (repeat (go_big_quiet_step ((first | (go_at_call 36; exact kept_call (HCC.out _ _ (after_kept _).2)))))); refine wpQuiet_nil ?_; intro _ hw'; obtain ⟨x9, hw''⟩ := hw'; subst hw''; have hk9 := after_kept x9; generalize after x9 = w9 at *)
        obtain ⟨hc9, hb9⟩ := hk9
        go_wp2_with fail
        go_roundw
        case measure => simp [intOf]; omega
        case rel => exact ⟨k + 1, by omega, by go_num, HN, below_step hbw hb9⟩
      · have HE := Lib.hid (HDF.out he)
        rw [show eqC ⟨x.a, x.b, x.c, capF r.lim k t⟩ ⟨x.a, x.b, x.c, capF r.lim k (t - 1)⟩ = false by
          cases h : eqC ⟨x.a, x.b, x.c, capF r.lim k t⟩ ⟨x.a, x.b, x.c, capF r.lim k (t - 1)⟩ with
          | false => rfl
          | true => have := (eqC_iff _ _).1 h; injection this with _ _ _ h4; exact absurd h4 he] at hnq
        clear he
        go_wp2_with fail
        (refine wp_region_kept wr (by kernel_rfl) (by kernel_rfl) (by assumption) ?_; (repeat (go_big_quiet_step ((first | (go_at_call 36; exact kept_call (HCC.out _ _ (after_kept _).2)))))); refine wpQuiet_nil ?_; intro _ hw'; obtain ⟨x9, hw''⟩ := hw'; subst hw''; have hk9 := after_kept x9; generalize after x9 = w9 at *)
        obtain ⟨hc9, hb9⟩ := hk9
        go_wp2_with fail
        go_ret
        exact ⟨ret_bool HE.out.symm, below_step hb0 (below_step hbw hb9)⟩
    · have hki : ¬ (k : Int) < (r.S.F.length : Int) := by omega
      have HE := Lib.hid (sameN_end HS.out hlt)
      go_wp2_with fail
      go_ret
      exact ⟨ret_bool HE.out.symm, below_step hb0 hbw⟩

end Go.Proofs.YtmappmeojmdekaaGreatDoor

namespace Go.Proofs.YtmappmeojmdekaaGreatDoor
set_option linter.unusedVariables false

def exW : WinR := ⟨0, 480, 1020, 0, -1⟩
def exN : WinR := ⟨32, 1320, 360, 0, -1⟩
def exF : WinR := ⟨0, 0, 0, 5, -1⟩
def exZ : ZoneR := ⟨0, false⟩
theorem exW_ok : winB exW = true := by decide
theorem exN_ok : winB exN = true := by decide
theorem exF_ok : winB exF = true := by decide
theorem exZ_ok : zoneB exZ = true := by decide
theorem off_ex (t : Int) : offF exZ t = 0 := by unfold offF exZ; simp
theorem holds_exW {t : Int} (h0 : 0 ≤ t) (h1 : t ≤ 268435456) : holdsB exW exZ t = (decide (480 ≤ t % 1440) && decide (t % 1440 < 1020)) := by
  rw [holdsB_in exW_ok exZ_ok h0 h1 h0 (.inl rfl)]
  unfold patB
  rw [off_ex, Int.add_zero]
  unfold dayB
  rw [if_neg (by decide), if_pos (by decide)]
  have : onB exW.dy (wdF (t / 1440)) = true := rfl
  rw [this]; rfl
theorem holds_exN {t : Int} (h0 : 0 ≤ t) (h1 : t ≤ 268435456) : holdsB exN exZ t = ((onB 32 (wdF (t / 1440)) && decide (1320 ≤ t % 1440)) || (onB 32 ((wdF (t / 1440) + 5) % 7 + 1) && decide (t % 1440 < 360))) := by
  rw [holdsB_in exN_ok exZ_ok h0 h1 h0 (.inl rfl)]
  unfold patB
  rw [off_ex, Int.add_zero]
  unfold dayB
  rw [if_neg (by decide), if_neg (by decide)]
  rfl
theorem exN_1320 : holdsB exN exZ 1320 = true := by rw [holds_exN (by omega) (by omega)]; decide
theorem exN_1799 : holdsB exN exZ 1799 = true := by rw [holds_exN (by omega) (by omega)]; decide
theorem exN_0 : holdsB exN exZ 0 = false := by rw [holds_exN (by omega) (by omega)]; decide
theorem exN_1800 : holdsB exN exZ 1800 = false := by rw [holds_exN (by omega) (by omega)]; decide
theorem next_exW {t r : Int} (h0 : 0 ≤ t) (h1 : t < r) (h2 : r ≤ 10000) (hd : ((decide (480 ≤ r % 1440) && decide (r % 1440 < 1020)) != (decide (480 ≤ (r - 1) % 1440) && decide ((r - 1) % 1440 < 1020))) = true)
    (hs : ∀ u, t < u → u < r → ((480 ≤ u % 1440 ∧ u % 1440 < 1020) ↔ (480 ≤ (u - 1) % 1440 ∧ (u - 1) % 1440 < 1020))) : nextF (holdsB exW exZ) t = r := by
  refine nextF_of (.inl ⟨h1, by unfold maxT; omega, ?_, fun u a b => ?_⟩)
  · rw [holds_exW (by omega) (by omega), holds_exW (by omega) (by omega)]
    simpa using hd
  · rw [holds_exW (by omega) (by omega), holds_exW (by omega) (by omega), Bool.eq_iff_iff]
    simpa using hs u a b
theorem next_0 : nextF (holdsB exW exZ) 0 = 480 := next_exW (by omega) (by omega) (by omega) (by decide) (fun u a b => by omega)
theorem next_480 : nextF (holdsB exW exZ) 480 = 1020 := next_exW (by omega) (by omega) (by omega) (by decide) (fun u a b => by omega)
theorem next_500 : nextF (holdsB exW exZ) 500 = 1020 := next_exW (by omega) (by omega) (by omega) (by decide) (fun u a b => by omega)
theorem next_1020 : nextF (holdsB exW exZ) 1020 = 1920 := next_exW (by omega) (by omega) (by omega) (by decide) (fun u a b => by omega)
theorem next_1920 : nextF (holdsB exW exZ) 1920 = 2460 := next_exW (by omega) (by omega) (by omega) (by decide) (fun u a b => by omega)
theorem toF_500 : toF (holdsB exW exZ) 2000 500 = 1020 := by unfold toF; rw [next_500]; decide
theorem toF_1020 : toF (holdsB exW exZ) 2000 1020 = 1920 := by unfold toF; rw [next_1020]; decide
theorem toF_1920 : toF (holdsB exW exZ) 2000 1920 = 2000 := by unfold toF; rw [next_1920]; decide
theorem spans_ex : SpansIs exW exZ 500 2000 0 [(500, 1020), (1920, 2000)] := by
  refine spans_some exW_ok exZ_ok (by omega) ?_
  have h1 : holdsB exW exZ 500 = true := by rw [holds_exW (by omega) (by omega)]; decide
  have h2 : holdsB exW exZ 1020 = false := by rw [holds_exW (by omega) (by omega)]; decide
  have h3 : holdsB exW exZ 1920 = true := by rw [holds_exW (by omega) (by omega)]; decide
  rw [restS_step (by omega) (by omega), if_pos h1, if_neg (by decide), toF_500, restS_step (by omega) (by omega), if_neg (by rw [h2]; decide), toF_1020, restS_step (by omega) (by omega), if_pos h3, if_neg (by decide), toF_1920, restS_end (by omega)]
  rfl
theorem nextA_0 : nextA exW exZ 0 = 480 := by rw [nextA_ok exW_ok exZ_ok (by decide), next_0]
theorem nextA_480 : nextA exW exZ 480 = 1020 := by rw [nextA_ok exW_ok exZ_ok (by decide), next_480]
theorem nextA_5 : nextA exF exZ 5 = -1 := by
  rw [nextA_ok exF_ok exZ_ok (by decide)]
  have h := nextF_of (calm_all exF_ok exZ_ok rfl (.inl rfl) (u := 5) (by decide) (by decide))
  rw [h, if_neg (by simp [exF])]
theorem valid_ex : winE ⟨0, 0, 1440, 0, 0⟩ = 1 := winE_false (by decide)

end Go.Proofs.YtmappmeojmdekaaGreatDoor

namespace Go.Proofs.YtmappmeojmdekaaGreatDoor
open Go.RowKit

theorem wp_still_tail {P : Program} {id : Nat} {Q : Exit → Act → World → Prop} {a : Act} {w : World} {l : List Oper} (n : Nat) (hm : P.follows .mixedOrders = true) (hB : Region.lexTailB .any l.toArray n = true)
    (h : wpStill P l.toArray w.drew (fun a' => wpList P l.toArray Q (l.drop n) a' w.drew) (l.take n) a) : (Code.region id l.toArray true).wp P Q a w := wp_region_still_tail n hm hB h

end Go.Proofs.YtmappmeojmdekaaGreatDoor
