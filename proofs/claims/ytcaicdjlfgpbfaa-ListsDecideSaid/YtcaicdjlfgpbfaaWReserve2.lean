/-
  Walks: long strings; tokens that belong together; who may use a connector.
-/
import Derived.Test.YtcaicdjlfgpbfaaWIdent4
import Derived.Test.YtcaicdjlfgpbfaaPReserve
import Derived.Test.YtcaicdjlfgpbfaaSl
namespace Go.Proofs.Ytcaicdjlfgpbfaa
open Go.RowKit Go.Lib Go.Joins
set_option linter.unusedVariables false

/-- a reservation has a string of more than 4096 bytes -/
def longB (r : Resv) : Bool := decide (4096 < r.token.size) || decide (4096 < r.group.size)
theorem long_iff (r : Resv) : longB r = false ↔ r.ok := by unfold longB Resv.ok; simp

/-- tokens that belong together -/
def sameT (a b : Tok) : Bool := sameS a.id b.id || (!a.group.toList.isEmpty && sameS a.group b.group)

theorem or_t {A B : Bool} (h : A = true) : (A || B) = true := by simp [h]

theorem sameT_comm (a b : Tok) : sameT b a = sameT a b := by
  have hs : ∀ x y : ByteArray, sameS y x = sameS x y := by
    intro x y
    unfold sameS
    by_cases h : capL x.data.toList = capL y.data.toList
    · simp [h]
    · simp [h, Ne.symm h]
  have hg : sameS a.group b.group = true → a.group.toList.isEmpty = b.group.toList.isEmpty := by
    intro h
    unfold sameS at h
    simp only [decide_eq_true_eq] at h
    have hl := congrArg List.length h
    simp only [capL, List.length_map] at hl
    rw [Lib.toList_data, Lib.toList_data]
    cases ha : a.group.data.toList <;> cases hb : b.group.data.toList <;> simp_all
  unfold sameT
  rw [hs a.id b.id, hs a.group b.group]
  cases hsg : sameS a.group b.group with
  | false => simp
  | true => rw [hg hsg]

end Go.Proofs.Ytcaicdjlfgpbfaa
