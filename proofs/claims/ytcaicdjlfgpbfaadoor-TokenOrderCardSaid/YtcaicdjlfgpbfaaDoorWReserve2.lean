/-
  Walks: long strings; tokens that belong together; who may use a connector.
-/
import Derived.Test.YtcaicdjlfgpbfaaDoorWIdent4
import Derived.Test.YtcaicdjlfgpbfaaDoorPReserve
import Derived.Test.YtcaicdjlfgpbfaaDoorSl
namespace Go.Proofs.YtcaicdjlfgpbfaaDoor
open Go.RowKit Go.Lib Go.Joins
set_option linter.unusedVariables false

/-- a reservation has a string of more than 4096 bytes -/
def longB (r : Resv) : Bool := decide (4096 < r.token.size) || decide (4096 < r.group.size)
theorem long_iff (r : Resv) : longB r = false ↔ r.ok := by unfold longB Resv.ok; simp

/-- tokens that belong together -/
def sameT (a b : Tok) : Bool := sameS a.id b.id || (!a.group.toList.isEmpty && sameS a.group b.group)

theorem or_t {A B : Bool} (h : A = true) : (A || B) = true := by simp [h]

set_option maxHeartbeats 1600000 in
theorem tokSame_any (a b : Tok) (w : World) (h1 : a.id.size ≤ maxLen) (h2 : a.group.size ≤ maxLen) :
    Calls Tryd.prog 17 #[.agg #[.string a.id, .string a.group, .string a.contract, .int .i64 a.kind, .int .i64 a.status, .int .i64 a.expiry], .agg #[.string b.id, .string b.group, .string b.contract, .int .i64 b.kind, .int .i64 b.status, .int .i64 b.expiry]] w fun e w' => e = .returned (.bool (sameT a b)) ∧ Below w.heap.size w w' := by
  have hbw := Below.refl w.heap.size w
  go_enter Tryd.func17, Tryd.ntmps17
  go_wp2_with (go_at_call 30; refine (same_any _ _ _ (by assumption)).mono ?_; rintro e w' ⟨rfl, hb⟩; replace hb := drewN_below hb; obtain ⟨hc, hf⟩ := bcell hb; have hz := hb.size; (try simp only [World.size_alloc, Nat.add_one_le_iff] at hz); (try (have hz0 : w.heap.size < w'.heap.size := by omega)); (try (have hz1 : w.heap.size + 1 < w'.heap.size := by omega)); (try (have hz2 : w.heap.size < w'.heap.size := by omega)); replace hbw := below_step (w := w) (by repeat (first | exact hbw | refine below_alloc ?_ _ | refine below_drew ?_ | refine below_drewN ?_ _ | (refine below_set ?_ ?_ _; rotate_left; (first | exact Nat.le_refl _ | (simp only [World.size_alloc]; omega) | omega)))) hb; clear hb)
  all_goals clear hc
  all_goals go_ret
  all_goals refine ⟨ret_bool ?_, (by repeat (first | exact hbw | refine below_alloc ?_ _ | refine below_drew ?_ | refine below_drewN ?_ _))⟩
  · rw [sameT, ‹sameS a.id b.id = true›]; rfl
  · have e : sameS a.id b.id = false := by simpa using ‹¬ sameS a.id b.id = true›
    have e2 : a.group.toList.isEmpty = true := by rw [‹a.group.toList = []›]; rfl
    rw [sameT, e, e2]; rfl
  · have e : sameS a.id b.id = false := by simpa using ‹¬ sameS a.id b.id = true›
    have e2 : a.group.toList.isEmpty = false := by simpa using ‹¬ a.group.toList = []›
    rw [sameT, e, e2]
    simp

theorem sameT_comm (a b : Tok) : sameT b a = sameT a b := by
  have hs : ∀ x y : ByteArray, sameS y x = sameS x y := by
    intro x y
    unfold sameS
    by_cases h : capL x.data.toList = capL y.data.toList
    · simp [h]
    · simp [h, Ne.symm h]
  have hg : sameS a.group b.group = true → a.group.toList.isEmpty = b.group.toList.isEmpty := by
    intro h
    unfold sameS at h
    simp only [decide_eq_true_eq] at h
    have hl := congrArg List.length h
    simp only [capL, List.length_map] at hl
    rw [Lib.toList_data, Lib.toList_data]
    cases ha : a.group.data.toList <;> cases hb : b.group.data.toList <;> simp_all
  unfold sameT
  rw [hs a.id b.id, hs a.group b.group]
  cases hsg : sameS a.group b.group with
  | false => simp
  | true => rw [hg hsg]

end Go.Proofs.YtcaicdjlfgpbfaaDoor
