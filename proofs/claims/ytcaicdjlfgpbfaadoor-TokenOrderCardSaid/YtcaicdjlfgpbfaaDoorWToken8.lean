/-
  Walks: Put, in the reference.
-/
import Derived.Test.YtcaicdjlfgpbfaaDoorWToken7
import Derived.Test.YtcaicdjlfgpbfaaDoorAp
namespace Go.Proofs.YtcaicdjlfgpbfaaDoor
open Go.RowKit Go.Lib Go.Joins
attribute [local go_sem] after_cell
set_option linter.unusedVariables false

theorem more_cap (x t : Tok) : (!(Op.bytesLess (capS x.id).toList (capS t.id).toList || (capS x.id).toList == (capS t.id).toList)) = !notMore t x := by
  unfold notMore
  rw [Lib.toList_data, Lib.toList_data, capS_data, capS_data]

/-- the list that the reference builds, after k elements -/
def buildT (t : Tok) (l : List Tok) : List Tok := l.takeWhile (notMore t) ++ (if l.all (notMore t) then [] else t :: l.dropWhile (notMore t))
theorem build_nil (t : Tok) : buildT t [] = [] := by simp [buildT]
theorem tw_all {p : Tok → Bool} : ∀ {l : List Tok}, l.all p = true → l.takeWhile p = l ∧ l.dropWhile p = []
  | [], _ => by simp
  | x :: l, h => by
    rw [List.all_cons, Bool.and_eq_true] at h
    have ih := tw_all (p := p) h.2
    simp [h.1, ih.1, ih.2]
theorem tw_snoc {p : Tok → Bool} {x : Tok} : ∀ {l : List Tok}, l.all p = false → (l ++ [x]).takeWhile p = l.takeWhile p ∧ (l ++ [x]).dropWhile p = l.dropWhile p ++ [x]
  | [], h => by simp at h
  | y :: l, h => by
    cases hy : p y with
    | false => simp [hy]
    | true =>
      have h' : l.all p = false := by simpa [hy] using h
      have ih := tw_snoc (p := p) (x := x) h'
      simp [hy, ih.1, ih.2]
theorem build_more {t x : Tok} {l : List Tok} (h : l.all (notMore t) = true) (hx : notMore t x = false) : buildT t (l ++ [x]) = buildT t l ++ [t] ++ [x] := by
  have e := tw_stop (p := notMore t) (a := l) (b := [x]) (fun y hy => List.all_eq_true.1 h y hy) (fun y b' hb => by injection hb with hb _; rw [← hb]; exact hx)
  have e2 := tw_all h
  unfold buildT
  rw [e.1, e.2, e2.1, h, List.all_append, h]
  simp [hx]
theorem build_less {t x : Tok} {l : List Tok} (h : l.all (notMore t) = true) (hx : notMore t x = true) : buildT t (l ++ [x]) = buildT t l ++ [x] := by
  have h2 : (l ++ [x]).all (notMore t) = true := by rw [List.all_append, h]; simp [hx]
  unfold buildT
  rw [(tw_all h2).1, (tw_all h).1, h2, h]
  simp
theorem build_done {t x : Tok} {l : List Tok} (h : l.all (notMore t) = false) : buildT t (l ++ [x]) = buildT t l ++ [x] := by
  have h2 : (l ++ [x]).all (notMore t) = false := by simp only [List.all_append, h]; simp
  have e := tw_snoc (x := x) h
  unfold buildT
  rw [e.1, e.2, h2, h]
  simp
theorem build_end_t {t : Tok} {l : List Tok} (h : l.all (notMore t) = true) : buildT t l ++ [t] = l.takeWhile (notMore t) ++ t :: l.dropWhile (notMore t) := by
  unfold buildT
  rw [h, (tw_all h).1, (tw_all h).2]
  simp
theorem build_end_f {t : Tok} {l : List Tok} (h : l.all (notMore t) = false) : buildT t l = l.takeWhile (notMore t) ++ t :: l.dropWhile (notMore t) := by
  unfold buildT
  rw [h]
  simp
theorem build_len (t : Tok) (l : List Tok) : (buildT t l).length ≤ l.length + 1 := by
  have e : l.length = (l.takeWhile (notMore t) ++ l.dropWhile (notMore t)).length := by rw [List.takeWhile_append_dropWhile]
  rw [List.length_append] at e
  unfold buildT
  split
  · simp only [List.length_append, List.length_nil]; omega
  · simp only [List.length_append, List.length_cons]; omega

theorem puttr_bad {l : List Tok} {t : Tok} (h : validT t ≠ 0) : putTR l t = l ∧ putTE l t = validT t := by
  have e := (tput_bad (l := l) h).2
  exact ⟨by unfold putTR; rw [e, if_pos h], e⟩
theorem puttr_full {l : List Tok} {t : Tok} (h : validT t = 0) (hi : idxT l t.id = none) (hl : 128 ≤ l.length) : putTR l t = l ∧ putTE l t = 3 := by
  have e := (tput_full h hi hl).2
  exact ⟨by unfold putTR; rw [e, if_pos (by omega)], e⟩
theorem puttr_go {l : List Tok} {t : Tok} (e : putTE l t = 0) : putTR l t = (dropTL l t.id).takeWhile (notMore t) ++ t :: (dropTL l t.id).dropWhile (notMore t) := by
  unfold putTR; rw [e, if_neg (by omega)]

end Go.Proofs.YtcaicdjlfgpbfaaDoor
