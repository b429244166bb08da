/-
  Walks: slices.Equal and slices.Index of reservations.
-/
import Derived.Test.YtpokacnbdojncaaDoorWReserve9
namespace Go.Proofs.YtpokacnbdojncaaDoor
open Go.RowKit Go.Lib Go.Joins
set_option linter.unusedVariables false

noncomputable def eqL {α : Type} (a b : List α) : Bool := @decide (a = b) (Classical.propDecidable _)
theorem eqL_t {α : Type} {a b : List α} (h : a = b) : eqL a b = true := by unfold eqL; simpa using h
theorem eqL_f {α : Type} {a b : List α} (h : ¬ a = b) : eqL a b = false := by unfold eqL; simpa using h

theorem take_step {α : Type} {a b : List α} {k : Nat} (h : a.take k = b.take k) (h1 : k < a.length) (h2 : k < b.length) (e : a[k] = b[k]) : a.take (k + 1) = b.take (k + 1) := by
  rw [List.take_succ_eq_append_getElem h1, List.take_succ_eq_append_getElem h2, h, e]
theorem take_stop {α : Type} {a b : List α} {k : Nat} (h1 : k < a.length) (h2 : k < b.length) (e : a = b) : a[k] = b[k] := by subst e; rfl
theorem take_all {α : Type} {a b : List α} {k : Nat} (h : a.take k = b.take k) (hl : a.length = b.length) (h1 : ¬ k < a.length) : a = b := by
  rw [List.take_of_length_le (by omega), List.take_of_length_le (by omega)] at h
  exact h

theorem drawn_more {w wr : World} (n : Nat) (h : ∃ m, wr = w.drewN m) : ∃ m, wr.drewN n = w.drewN m := by
  obtain ⟨k, rfl⟩ := h
  exact ⟨_, World.drewN_drewN _ _ _⟩

def eqX (x y : Resv) : Bool := x.id == y.id && (x.conn == y.conn && (x.token.toList == y.token.toList && (x.group.toList == y.group.toList && x.expiry == y.expiry)))

theorem eqX_iff (x y : Resv) : eqX x y = true ↔ x = y := by
  obtain ⟨a1, a2, a3, a4, a5⟩ := x
  obtain ⟨b1, b2, b3, b4, b5⟩ := y
  have e : ∀ s t : ByteArray, s.toList = t.toList ↔ s = t := fun s t => by
    rw [ByteArray.toList_eq, ByteArray.toList_eq]
    obtain ⟨⟨x⟩⟩ := s
    obtain ⟨⟨y⟩⟩ := t
    simp
  simp [eqX, e]

theorem eq_resv (x y : Resv) (w : World) : (Op.equalIn 10000 24 (.agg #[.int .i64 x.id, .int .i64 x.conn, .string x.token, .string x.group, .int .i64 x.expiry]) (.agg #[.int .i64 y.id, .int .i64 y.conn, .string y.token, .string y.group, .int .i64 y.expiry])).run Tryd.prog w = .ok (eqX x y) w := by
  rw [run_equalIn_agg w 9999 _ _ _ Tryd.underlying24 Tryd.stoodInHeld24]
  simp only [Program.fieldsOf, Tryd.underlying24]
  cases h1 : (x.id == y.id) <;> cases h2 : (x.conn == y.conn) <;> cases h3 : (x.token.toList == y.token.toList) <;> cases h4 : (x.group.toList == y.group.toList) <;> cases h5 : (x.expiry == y.expiry) <;>
    simp [go_sem, Op.eqFields, part, eqX, run_equalIn_int _ _ _ _ _ _ _ Tryd.underlying3, run_equalIn_string _ _ _ _ _ Tryd.underlying9, h1, h2, h3, h4, h5]

theorem neq_resv (x y : Resv) (w : World) : (binOp .neq 24 (.agg #[.int .i64 x.id, .int .i64 x.conn, .string x.token, .string x.group, .int .i64 x.expiry]) (.agg #[.int .i64 y.id, .int .i64 y.conn, .string y.token, .string y.group, .int .i64 y.expiry])).run Tryd.prog w = .ok (.bool (!eqX x y)) w := by
  rw [run_neq_struct, eq_resv]; rfl
theorem eql_resv (x y : Resv) (w : World) : (binOp .eql 24 (.agg #[.int .i64 x.id, .int .i64 x.conn, .string x.token, .string x.group, .int .i64 x.expiry]) (.agg #[.int .i64 y.id, .int .i64 y.conn, .string y.token, .string y.group, .int .i64 y.expiry])).run Tryd.prog w = .ok (.bool (eqX x y)) w := by
  rw [run_eql_struct, eq_resv]; rfl

set_option maxHeartbeats 1600000 in
theorem equal_any (a b : List Resv) (u v : Value) (w : World) (ha : a.length ≤ 1000000) (hb : b.length ≤ 1000000) (hu : IsSl w 5 u (a.map Resv.cells)) (hv : IsSl w 5 v (b.map Resv.cells)) :
    Calls Tryd.prog 15 #[u, v] w
      fun e w' => e = .returned (.bool (eqL a b)) ∧ ∃ n, w' = w.drewN n := by
  obtain ⟨A, c, rfl, hlc, hcm, hsl⟩ := islen hu
  obtain ⟨B, d, rfl, hld, hdm, hsl2⟩ := islen hv
  clear hu hv
  by_cases hl : a.length = b.length
  · have hne : ((a.length : Int) != (b.length : Int)) = false := by simp; omega
    have HL := Lib.hid hl
    clear hl
    go_enter Tryd.func15, Tryd.ntmps15
    go_wp2_with fail
    go_loopw [5, 13] (fun p i wr => ∃ (k : Nat), k ≤ a.length ∧ i = .int .i64 k ∧ Below w.heap.size w wr ∧ Hid (∃ n, wr = w.drewN n) ∧ Hid (a.take k = b.take k)) (fun _ i _ => a.length - (intOf i).toNat)
    case atStart => exact ⟨0, by omega, rfl, Below.refl _ _, ⟨0, rfl⟩, rfl⟩
    case round =>
      obtain ⟨k, hk, rfl, hbw, HD, HT⟩ := hrel
      by_cases hlt : k < a.length
      · have hki : (k : Int) < (a.length : Int) := by omega
        have hlt2 : k < b.length := by have := HL.out; omega
        have hki2 : (k : Int) < (b.length : Int) := by omega
        obtain ⟨g, off, rfl, hb, c0, c1, c2, c3, c4⟩ := resv_at (hsl.below hbw) hlt
        obtain ⟨g2, off2, rfl, hb2, d0, d1, d2, d3, d4⟩ := resv_at (hsl2.below hbw) hlt2
        have HS := Lib.hid (take_step HT.out hlt hlt2)
        have HF := Lib.hid (take_stop hlt hlt2)
        generalize hx : a[k] = x at *
        generalize hy : b[k] = y at *
        clear hx hy
        have hnq := neq_resv x y
        have heg := fun w => run_eqGuard_agg (P := Tryd.prog) w .neq 24 (.tmp 19) (.tmp 23) #[.int .i64 x.id, .int .i64 x.conn, .string x.token, .string x.group, .int .i64 x.expiry] #[.int .i64 y.id, .int .i64 y.conn, .string y.token, .string y.group, .int .i64 y.expiry] Tryd.eqGuardType24
        cases hq : eqX x y with
        | true =>
          have HT2 := Lib.hid (HS.out ((eqX_iff x y).1 hq))
          rw [hq] at hnq
          go_wp2_with fail
          go_quiet (fail)
          go_wp2_with fail
          go_roundw
          case measure => simp [intOf]; omega
          case rel => exact ⟨k + 1, by omega, by go_num, (by repeat (first | exact hbw | refine below_alloc ?_ _ | refine below_drew ?_ | refine below_drewN ?_ _)), drawn_more _ HD.out, HT2⟩
        | false =>
          have HE := Lib.hid (eqL_f (fun h => absurd ((eqX_iff x y).2 (HF.out h)) (by simp [hq])))
          rw [hq] at hnq
          go_wp2_with fail
          go_quiet (fail)
          go_wp2_with fail
          go_ret
          exact ⟨ret_bool (by rw [HE.out]), drawn_more _ HD.out⟩
      · have hkl : ¬ (k : Int) < (a.length : Int) := by omega
        have HE := Lib.hid (eqL_t (take_all HT.out HL.out hlt))
        go_wp2_with fail
        go_ret
        exact ⟨ret_bool (by rw [HE.out]), HD.out⟩
  · have HE := Lib.hid (eqL_f (fun h : a = b => hl (by rw [h])))
    have hne : ((a.length : Int) != (b.length : Int)) = true := by simp; omega
    clear hl
    go_enter Tryd.func15, Tryd.ntmps15
    go_wp2_with fail
    go_ret
    exact ⟨ret_bool (by rw [HE.out]), 0, rfl⟩

end Go.Proofs.YtpokacnbdojncaaDoor
