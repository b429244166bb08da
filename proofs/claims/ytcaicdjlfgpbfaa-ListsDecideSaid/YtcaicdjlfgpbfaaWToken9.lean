/-
  Walks: slices.Equal of api.Token.
-/
import Derived.Test.YtcaicdjlfgpbfaaWToken2
namespace Go.Proofs.Ytcaicdjlfgpbfaa
open Go.RowKit Go.Lib Go.Joins
set_option linter.unusedVariables false

noncomputable def tokEqL (a b : List Tok) : Bool := @decide (a = b) (Classical.propDecidable _)
theorem tokEqL_t {a b : List Tok} (h : a = b) : tokEqL a b = true := by unfold tokEqL; simpa using h
theorem tokEqL_f {a b : List Tok} (h : ¬ a = b) : tokEqL a b = false := by unfold tokEqL; simpa using h

theorem tokTake_step {a b : List Tok} {k : Nat} (h : a.take k = b.take k) (h1 : k < a.length) (h2 : k < b.length) (e : a[k] = b[k]) : a.take (k + 1) = b.take (k + 1) := by
  rw [List.take_succ_eq_append_getElem h1, List.take_succ_eq_append_getElem h2, h, e]
theorem tokTake_stop {a b : List Tok} {k : Nat} (h1 : k < a.length) (h2 : k < b.length) (e : a = b) : a[k] = b[k] := by subst e; rfl
theorem tokTake_all {a b : List Tok} {k : Nat} (h : a.take k = b.take k) (hl : a.length = b.length) (h1 : ¬ k < a.length) : a = b := by
  rw [List.take_of_length_le (by omega), List.take_of_length_le (by omega)] at h
  exact h
theorem tokDrawn_more {w wr : World} (n : Nat) (h : ∃ m, wr = w.drewN m) : ∃ m, wr.drewN n = w.drewN m := by
  obtain ⟨k, rfl⟩ := h
  exact ⟨_, World.drewN_drewN _ _ _⟩

def tokEqX (x y : Tok) : Bool := x.id.toList == y.id.toList && (x.group.toList == y.group.toList && (x.contract.toList == y.contract.toList && (x.kind == y.kind && (x.status == y.status && (x.expiry == y.expiry)))))

theorem tokEqX_iff (x y : Tok) : tokEqX x y = true ↔ x = y := by
  obtain ⟨a0, a1, a2, a3, a4, a5⟩ := x
  obtain ⟨b0, b1, b2, b3, b4, b5⟩ := y
  have e : ∀ s t : ByteArray, s.toList = t.toList ↔ s = t := fun s t => by
    rw [ByteArray.toList_eq, ByteArray.toList_eq]
    obtain ⟨⟨x⟩⟩ := s
    obtain ⟨⟨y⟩⟩ := t
    simp
  simp [tokEqX, e]

set_option maxRecDepth 100000 in
set_option maxHeartbeats 1600000 in
set_option linter.unusedSimpArgs false in
theorem tokEq_run (x y : Tok) (w : World) : (Op.equalIn 10000 24 (.agg #[.string x.id, .string x.group, .string x.contract, .int .i64 x.kind, .int .i64 x.status, .int .i64 x.expiry]) (.agg #[.string y.id, .string y.group, .string y.contract, .int .i64 y.kind, .int .i64 y.status, .int .i64 y.expiry])).run Try.prog w = .ok (tokEqX x y) w := by
  rw [run_equalIn_agg w 9999 _ _ _ Try.underlying24 Try.stoodInHeld24]
  simp only [Program.fieldsOf, Try.underlying24]
  cases h0 : (x.id.toList == y.id.toList)
  · simp [go_sem, Op.eqFields, part, tokEqX, run_equalIn_int _ _ _ _ _ _ _ Try.underlying3, run_equalIn_string _ _ _ _ _ Try.underlying9, h0]
  cases h1 : (x.group.toList == y.group.toList)
  · simp [go_sem, Op.eqFields, part, tokEqX, run_equalIn_int _ _ _ _ _ _ _ Try.underlying3, run_equalIn_string _ _ _ _ _ Try.underlying9, h0, h1]
  cases h2 : (x.contract.toList == y.contract.toList)
  · simp [go_sem, Op.eqFields, part, tokEqX, run_equalIn_int _ _ _ _ _ _ _ Try.underlying3, run_equalIn_string _ _ _ _ _ Try.underlying9, h0, h1, h2]
  cases h3 : (x.kind == y.kind)
  · simp [go_sem, Op.eqFields, part, tokEqX, run_equalIn_int _ _ _ _ _ _ _ Try.underlying3, run_equalIn_string _ _ _ _ _ Try.underlying9, h0, h1, h2, h3]
  cases h4 : (x.status == y.status)
  · simp [go_sem, Op.eqFields, part, tokEqX, run_equalIn_int _ _ _ _ _ _ _ Try.underlying3, run_equalIn_string _ _ _ _ _ Try.underlying9, h0, h1, h2, h3, h4]
  cases h5 : (x.expiry == y.expiry)
  · simp [go_sem, Op.eqFields, part, tokEqX, run_equalIn_int _ _ _ _ _ _ _ Try.underlying3, run_equalIn_string _ _ _ _ _ Try.underlying9, h0, h1, h2, h3, h4, h5]
  simp [go_sem, Op.eqFields, part, tokEqX, run_equalIn_int _ _ _ _ _ _ _ Try.underlying3, run_equalIn_string _ _ _ _ _ Try.underlying9, h0, h1, h2, h3, h4, h5]

set_option maxRecDepth 100000 in
theorem tokNeq_run (x y : Tok) (w : World) : (binOp .neq 24 (.agg #[.string x.id, .string x.group, .string x.contract, .int .i64 x.kind, .int .i64 x.status, .int .i64 x.expiry]) (.agg #[.string y.id, .string y.group, .string y.contract, .int .i64 y.kind, .int .i64 y.status, .int .i64 y.expiry])).run Try.prog w = .ok (.bool (!tokEqX x y)) w := by
  rw [run_neq_struct, tokEq_run]; rfl
set_option maxRecDepth 100000 in
theorem tokEql_run (x y : Tok) (w : World) : (binOp .eql 24 (.agg #[.string x.id, .string x.group, .string x.contract, .int .i64 x.kind, .int .i64 x.status, .int .i64 x.expiry]) (.agg #[.string y.id, .string y.group, .string y.contract, .int .i64 y.kind, .int .i64 y.status, .int .i64 y.expiry])).run Try.prog w = .ok (.bool (tokEqX x y)) w := by
  rw [run_eql_struct, tokEq_run]; rfl

end Go.Proofs.Ytcaicdjlfgpbfaa
