/-
  Walks: slices.Equal of api.Token.
-/
import Derived.Test.YtcaicdjlfgpbfaaDoorWToken2
namespace Go.Proofs.YtcaicdjlfgpbfaaDoor
open Go.RowKit Go.Lib Go.Joins
set_option linter.unusedVariables false

noncomputable def tokEqL (a b : List Tok) : Bool := @decide (a = b) (Classical.propDecidable _)
theorem tokEqL_t {a b : List Tok} (h : a = b) : tokEqL a b = true := by unfold tokEqL; simpa using h
theorem tokEqL_f {a b : List Tok} (h : ¬ a = b) : tokEqL a b = false := by unfold tokEqL; simpa using h

theorem tokTake_step {a b : List Tok} {k : Nat} (h : a.take k = b.take k) (h1 : k < a.length) (h2 : k < b.length) (e : a[k] = b[k]) : a.take (k + 1) = b.take (k + 1) := by
  rw [List.take_succ_eq_append_getElem h1, List.take_succ_eq_append_getElem h2, h, e]
theorem tokTake_stop {a b : List Tok} {k : Nat} (h1 : k < a.length) (h2 : k < b.length) (e : a = b) : a[k] = b[k] := by subst e; rfl
theorem tokTake_all {a b : List Tok} {k : Nat} (h : a.take k = b.take k) (hl : a.length = b.length) (h1 : ¬ k < a.length) : a = b := by
  rw [List.take_of_length_le (by omega), List.take_of_length_le (by omega)] at h
  exact h
theorem tokDrawn_more {w wr : World} (n : Nat) (h : ∃ m, wr = w.drewN m) : ∃ m, wr.drewN n = w.drewN m := by
  obtain ⟨k, rfl⟩ := h
  exact ⟨_, World.drewN_drewN _ _ _⟩

def tokEqX (x y : Tok) : Bool := x.id.toList == y.id.toList && (x.group.toList == y.group.toList && (x.contract.toList == y.contract.toList && (x.kind == y.kind && (x.status == y.status && (x.expiry == y.expiry)))))

theorem tokEqX_iff (x y : Tok) : tokEqX x y = true ↔ x = y := by
  obtain ⟨a0, a1, a2, a3, a4, a5⟩ := x
  obtain ⟨b0, b1, b2, b3, b4, b5⟩ := y
  have e : ∀ s t : ByteArray, s.toList = t.toList ↔ s = t := fun s t => by
    rw [ByteArray.toList_eq, ByteArray.toList_eq]
    obtain ⟨⟨x⟩⟩ := s
    obtain ⟨⟨y⟩⟩ := t
    simp
  simp [tokEqX, e]

set_option maxRecDepth 100000 in
set_option maxHeartbeats 1600000 in
set_option linter.unusedSimpArgs false in
theorem tokEq_run (x y : Tok) (w : World) : (Op.equalIn 10000 24 (.agg #[.string x.id, .string x.group, .string x.contract, .int .i64 x.kind, .int .i64 x.status, .int .i64 x.expiry]) (.agg #[.string y.id, .string y.group, .string y.contract, .int .i64 y.kind, .int .i64 y.status, .int .i64 y.expiry])).run Tryd.prog w = .ok (tokEqX x y) w := by
  rw [run_equalIn_agg w 9999 _ _ _ Tryd.underlying24 Tryd.stoodInHeld24]
  simp only [Program.fieldsOf, Tryd.underlying24]
  cases h0 : (x.id.toList == y.id.toList)
  · simp [go_sem, Op.eqFields, part, tokEqX, run_equalIn_int _ _ _ _ _ _ _ Tryd.underlying3, run_equalIn_string _ _ _ _ _ Tryd.underlying9, h0]
  cases h1 : (x.group.toList == y.group.toList)
  · simp [go_sem, Op.eqFields, part, tokEqX, run_equalIn_int _ _ _ _ _ _ _ Tryd.underlying3, run_equalIn_string _ _ _ _ _ Tryd.underlying9, h0, h1]
  cases h2 : (x.contract.toList == y.contract.toList)
  · simp [go_sem, Op.eqFields, part, tokEqX, run_equalIn_int _ _ _ _ _ _ _ Tryd.underlying3, run_equalIn_string _ _ _ _ _ Tryd.underlying9, h0, h1, h2]
  cases h3 : (x.kind == y.kind)
  · simp [go_sem, Op.eqFields, part, tokEqX, run_equalIn_int _ _ _ _ _ _ _ Tryd.underlying3, run_equalIn_string _ _ _ _ _ Tryd.underlying9, h0, h1, h2, h3]
  cases h4 : (x.status == y.status)
  · simp [go_sem, Op.eqFields, part, tokEqX, run_equalIn_int _ _ _ _ _ _ _ Tryd.underlying3, run_equalIn_string _ _ _ _ _ Tryd.underlying9, h0, h1, h2, h3, h4]
  cases h5 : (x.expiry == y.expiry)
  · simp [go_sem, Op.eqFields, part, tokEqX, run_equalIn_int _ _ _ _ _ _ _ Tryd.underlying3, run_equalIn_string _ _ _ _ _ Tryd.underlying9, h0, h1, h2, h3, h4, h5]
  simp [go_sem, Op.eqFields, part, tokEqX, run_equalIn_int _ _ _ _ _ _ _ Tryd.underlying3, run_equalIn_string _ _ _ _ _ Tryd.underlying9, h0, h1, h2, h3, h4, h5]

set_option maxRecDepth 100000 in
theorem tokNeq_run (x y : Tok) (w : World) : (binOp .neq 24 (.agg #[.string x.id, .string x.group, .string x.contract, .int .i64 x.kind, .int .i64 x.status, .int .i64 x.expiry]) (.agg #[.string y.id, .string y.group, .string y.contract, .int .i64 y.kind, .int .i64 y.status, .int .i64 y.expiry])).run Tryd.prog w = .ok (.bool (!tokEqX x y)) w := by
  rw [run_neq_struct, tokEq_run]; rfl
set_option maxRecDepth 100000 in
theorem tokEql_run (x y : Tok) (w : World) : (binOp .eql 24 (.agg #[.string x.id, .string x.group, .string x.contract, .int .i64 x.kind, .int .i64 x.status, .int .i64 x.expiry]) (.agg #[.string y.id, .string y.group, .string y.contract, .int .i64 y.kind, .int .i64 y.status, .int .i64 y.expiry])).run Tryd.prog w = .ok (.bool (tokEqX x y)) w := by
  rw [run_eql_struct, tokEq_run]; rfl

set_option maxRecDepth 100000 in
set_option maxHeartbeats 1600000 in
theorem tokEqual_any (a b : List Tok) (u v : Value) (w : World) (ha : a.length ≤ 1000000) (hb : b.length ≤ 1000000) (hu : IsSl w 6 u (a.map Tok.cells)) (hv : IsSl w 6 v (b.map Tok.cells)) :
    Calls Tryd.prog 10 #[u, v] w
      fun e w' => e = .returned (.bool (tokEqL a b)) ∧ ∃ n, w' = w.drewN n := by
  obtain ⟨A, c, rfl, hlc, hcm, hsl⟩ := islen' hu
  obtain ⟨B, d, rfl, hld, hdm, hsl2⟩ := islen' hv
  clear hu hv
  by_cases hl : a.length = b.length
  · have hne : ((a.length : Int) != (b.length : Int)) = false := by simp; omega
    have HL := Lib.hid hl
    clear hl
    go_enter Tryd.func10, Tryd.ntmps10
    go_wp2_with fail
    go_loopw [5, 13] (fun p i wr => ∃ (k : Nat), k ≤ a.length ∧ i = .int .i64 k ∧ Below w.heap.size w wr ∧ Hid (∃ n, wr = w.drewN n) ∧ Hid (a.take k = b.take k)) (fun _ i _ => a.length - (intOf i).toNat)
    case atStart => exact ⟨0, by omega, rfl, Below.refl _ _, ⟨0, rfl⟩, rfl⟩
    case round =>
      obtain ⟨k, hk, rfl, hbw, HD, HT⟩ := hrel
      by_cases hlt : k < a.length
      · have hki : (k : Int) < (a.length : Int) := by omega
        have hlt2 : k < b.length := by have := HL.out; omega
        have hki2 : (k : Int) < (b.length : Int) := by omega
        obtain ⟨g, off, rfl, hb, c0, c1, c2, c3, c4, c5⟩ := tok_at (hsl.below hbw) hlt
        obtain ⟨g2, off2, rfl, hb2, d0, d1, d2, d3, d4, d5⟩ := tok_at (hsl2.below hbw) hlt2
        have HS := Lib.hid (tokTake_step HT.out hlt hlt2)
        have HF := Lib.hid (tokTake_stop hlt hlt2)
        generalize hx : a[k] = x at *
        generalize hy : b[k] = y at *
        clear hx hy
        have hnq := tokNeq_run x y
        have heg := fun w => run_eqGuard_agg (P := Tryd.prog) w .neq 24 (.tmp 19) (.tmp 23) #[.string x.id, .string x.group, .string x.contract, .int .i64 x.kind, .int .i64 x.status, .int .i64 x.expiry] #[.string y.id, .string y.group, .string y.contract, .int .i64 y.kind, .int .i64 y.status, .int .i64 y.expiry] Tryd.eqGuardType24
        cases hq : tokEqX x y with
        | true =>
          have HT2 := Lib.hid (HS.out ((tokEqX_iff x y).1 hq))
          rw [hq] at hnq
          go_wp2_with fail
          go_quiet (fail)
          go_wp2_with fail
          go_roundw
          case measure => simp [intOf]; omega
          case rel => exact ⟨k + 1, by omega, by go_num, (by repeat (first | exact hbw | refine below_alloc ?_ _ | refine below_drew ?_ | refine below_drewN ?_ _)), tokDrawn_more _ HD.out, HT2⟩
        | false =>
          have HE := Lib.hid (tokEqL_f (fun h => absurd ((tokEqX_iff x y).2 (HF.out h)) (by simp [hq])))
          rw [hq] at hnq
          go_wp2_with fail
          go_quiet (fail)
          go_wp2_with fail
          go_ret
          exact ⟨ret_bool (by rw [HE.out]), tokDrawn_more _ HD.out⟩
      · have hkl : ¬ (k : Int) < (a.length : Int) := by omega
        have HE := Lib.hid (tokEqL_t (tokTake_all HT.out HL.out hlt))
        go_wp2_with fail
        go_ret
        exact ⟨ret_bool (by rw [HE.out]), HD.out⟩
  · have HE := Lib.hid (tokEqL_f (fun h : a = b => hl (by rw [h])))
    have hne : ((a.length : Int) != (b.length : Int)) = true := by simp; omega
    clear hl
    go_enter Tryd.func10, Tryd.ntmps10
    go_wp2_with fail
    go_ret
    exact ⟨ret_bool (by rw [HE.out]), 0, rfl⟩

end Go.Proofs.YtcaicdjlfgpbfaaDoor
