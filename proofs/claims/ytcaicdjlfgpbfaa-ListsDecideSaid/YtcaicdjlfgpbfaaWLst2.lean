/-
  Walks: Valid of package list, at a list that is valid.
-/
import Derived.Test.YtcaicdjlfgpbfaaWLst1
import Derived.Test.YtcaicdjlfgpbfaaBox
import Derived.Test.YtcaicdjlfgpbfaaKept
namespace Go.Proofs.Ytcaicdjlfgpbfaa
open Go.RowKit Go.Lib Go.Joins
attribute [local go_sem] after_cell
set_option linter.unusedVariables false

theorem byKey_less {a b : Tok} (h : lessT a b = true) (ha : a.id.size ≤ maxLen) (hb : b.id.size ≤ maxLen) (w : World) :
    Calls Try.prog 17 #[.agg #[.string a.id, .string a.group, .string a.contract, .int .i64 a.kind, .int .i64 a.status, .int .i64 a.expiry], .agg #[.string b.id, .string b.group, .string b.contract, .int .i64 b.kind, .int .i64 b.status, .int .i64 b.expiry]] w fun e w' => e = .returned (.int .i64 (-1)) ∧ Below w.heap.size w w' :=
  (byKey_any a b w ha hb).mono fun e w' ⟨h1, h2⟩ => ⟨by rw [h1, show cmpK a b = -1 by unfold cmpK; rw [if_pos h]], h2.below⟩

set_option maxRecDepth 100000 in
set_option maxHeartbeats 6400000 in
theorem lvalid_zero (c : Nat) (A : Option Addr) (w : World) : Calls Try.prog 13 #[.agg #[.int .i64 0, .slice A 0 c]] w fun e w' => e = .returned (.int .i64 0) ∧ Below w.heap.size w w' := by
  obtain ⟨W0, hW0, hb0, hg0, hx0⟩ := box1 w #[.int .i64 0, .slice A 0 c] 29
  go_enter Try.func13, Try.ntmps13
  go_wp2_with fail
  rw [← hW0]
  clear hW0
  go_wp2_with fail
  go_loopw [30] (fun i wr => i = .int .i64 0 ∧ wr = W0) (fun i _ => 0)
  case atStart => exact ⟨rfl, rfl⟩
  case round =>
    obtain ⟨rfl, rfl⟩ := hrel
    go_wp2_with fail
    go_ret
    exact ⟨rfl, hb0⟩

set_option maxRecDepth 100000 in
set_option maxHeartbeats 6400000 in
theorem lvalid_any (L : List Tok) (v : Int) (u : Value) (w : World) (hu : IsSl w 6 u (L.map Tok.cells)) (hL : GoodL L) (hv : 1 ≤ v ∧ v ≤ 2) :
    Calls Try.prog 13 #[.agg #[.int .i64 v, u]] w fun e w' => e = .returned (.int .i64 0) ∧ Below w.heap.size w w' := by
  obtain ⟨A, c, rfl, hlc, hcm, hsl⟩ := islen' hu
  obtain ⟨W0, hW0, hb0, hg0, hx0⟩ := box1 w #[.int .i64 v, .slice A L.length c] 29
  have HL := Lib.hid hL
  have hlen := hL.len
  have HSL := Lib.hid (hsl.below hb0)
  obtain ⟨v1, v2⟩ := hv
  have v3 : ¬ (v < 0) := by omega
  have v4 : ¬ (2147483647 < v) := by omega
  have v5 : (v == 0) = false := beq_eq_false_iff_ne.2 (by omega)
  have v6 : ¬ (128 < (L.length : Int)) := by omega
  clear hL hu hsl hcm hlc
  go_enter Try.func13, Try.ntmps13
  go_wp2_with fail
  rw [← hW0]
  clear hW0
  go_wp2_with fail
  go_loopw [30] (fun i wr => ∃ k : Nat, k ≤ L.length ∧ i = .int .i64 k ∧ Below W0.heap.size W0 wr) (fun i _ => L.length - (intOf i).toNat)
  case atStart => exact ⟨0, by omega, rfl, Below.refl _ _⟩
  case round =>
    obtain ⟨k, hk, rfl, hbw⟩ := hrel
    obtain ⟨hc, hf⟩ := bcell hbw
    by_cases hlt : k < L.length
    · have hki : (k : Int) < (L.length : Int) := by omega
      obtain ⟨b, off, rfl, hbb, c0, c1, c2, c3, c4, c5⟩ := tok_at HSL.out hlt
      have hv := HL.out.valid _ (List.getElem_mem hlt)
      have hft := HL.out.fits _ (List.getElem_mem hlt)
      obtain ⟨X, hX⟩ : ∃ X, X = L[k] := ⟨_, rfl⟩
      have HX := Lib.hid hX
      rw [← hX] at c0 c1 c2 c3 c4 c5 hv hft
      clear hX
      obtain ⟨W1, hW1, hb1, hg1, hx1⟩ := box1 wr #[.string X.id, .string X.group, .string X.contract, .int .i64 X.kind, .int .i64 X.status, .int .i64 X.expiry] 24
      have HV := Lib.hid (fun w' => tvalid_any X w' hft)
      rw [hv] at HV
      clear hv
      go_wp2_with fail
      rw [← hW1]
      clear hW1
      go_wp2_with fail
      refine (HV.out _).mono ?_
      rintro e w2 ⟨rfl, hb2⟩
      have hb12 := below_step hb1 hb2
      have hbw2 := below_step hbw hb12
      have hx2 : ∀ j, w2.cell? ⟨wr.heap.size, j, none⟩ = (#[.string X.id, .string X.group, .string X.contract, .int .i64 X.kind, .int .i64 X.status, .int .i64 X.expiry] : Array Value)[j]? := fun j => (hb2.cell (p := ⟨wr.heap.size, j, none⟩) hg1).trans (hx1 j)
      have hg2 : wr.heap.size < w2.heap.size := Nat.lt_of_lt_of_le hg1 hb2.size
      have hx02 : ∀ j, w2.cell? ⟨w.heap.size, j, none⟩ = (#[.int .i64 v, .slice (some ⟨b, off, none⟩) L.length c] : Array Value)[j]? := fun j => (hbw2.cell (p := ⟨w.heap.size, j, none⟩) hg0).trans (hx0 j)
      have hg02 : w.heap.size < w2.heap.size := Nat.lt_of_lt_of_le hg0 hbw2.size
      have hbr := Below.refl w2.heap.size w2
      clear hc hf hx1 hb1 hb2 hg1 hb12 c0 c1 c2 c3 c4 c5
      rcases Nat.eq_zero_or_pos k with h0 | h0
      · subst h0
        go_wp2_with fail
        (refine wp_region_kept w2 (by kernel_rfl) (by kernel_rfl) (by assumption) ?_; (repeat (go_big_quiet_step ((first | fail)))); refine wpQuiet_nil ?_; intro _ hw'; obtain ⟨x9, hw''⟩ := hw'; subst hw''; have hk9 := after_kept x9; generalize after x9 = w9 at *)
        go_wp2_with fail
        go_roundw
        case measure => simp [intOf]; omega
        case rel => exact ⟨1, by omega, by go_num, below_step hbw2 hk9.2⟩
      · obtain ⟨j, rfl⟩ : ∃ j, k = j + 1 := ⟨k - 1, by omega⟩
        have hj0 : (0 : Int) < (j : Int) + 1 := by omega
        have hj1 : (0 : Int) ≤ (j : Int) := by omega
        have hj2 : (j : Int) < (L.length : Int) := by omega
        have hjw : IntKind.i64.wrap ((j : Int) + 1 - 1) = (j : Int) := by rw [show (j : Int) + 1 - 1 = j by omega]; exact IntWalk.i64_in _ (by omega)
        have hjw1 : IntKind.i64.wrap (j : Int) = (j : Int) := IntWalk.i64_in _ (by omega)
        obtain ⟨b', off', eb, hbb', d0, d1, d2, d3, d4, d5⟩ := tok_at (HSL.out.below hbw2) (k := j) (by omega)
        injection eb with eb
        injection eb with eb1 eb2 eb3
        subst eb1 eb2
        have hle : lessT L[j] X = true := by rw [HX.out]; exact List.pairwise_iff_getElem.1 HL.out.sorted j (j + 1) (by omega) hlt (by omega)
        have hfy := HL.out.fits _ (List.getElem_mem (show j < L.length by omega))
        generalize L[j] = Y at *
        have HB := Lib.hid (fun w' => byKey_less hle hfy.1 hft.1 w')
        clear eb3 hle
        go_wp2_with fail
        (refine wp_region_kept w2 (by kernel_rfl) (by kernel_rfl) (by assumption) ?_; (repeat (go_big_quiet_step ((first | (go_at_call 17; exact kept_call (HB.out _)))))); refine wpQuiet_nil ?_; intro _ hw'; obtain ⟨x9, hw''⟩ := hw'; subst hw''; have hk9 := after_kept x9; generalize after x9 = w9 at *)
        go_wp2_with fail
        go_roundw
        case measure => simp [intOf]; omega
        case rel => exact ⟨j + 1 + 1, by omega, by go_num, below_step hbw2 hk9.2⟩
    · have hki : ¬ (k : Int) < (L.length : Int) := by omega
      go_wp2_with fail
      go_ret
      exact ⟨rfl, below_step hb0 hbw⟩

end Go.Proofs.Ytcaicdjlfgpbfaa
