/-
  Walks: the statements about identifiers, but the one on wrong characters.
-/
import Derived.Test.YtidmikodihkapaaWIdent9
namespace Go.Proofs.Ytidmikodihkapaa
open Go.RowKit Go.Lib Go.Joins
set_option linter.unusedVariables false

set_option maxHeartbeats 1600000 in
theorem lawValid (s : ByteArray) (w : World) (hs : s.size ≤ maxLen) :
    Calls Try.prog 3 #[.string s] w fun e w' => e = .returned (.bool true) ∧ Below w.heap.size w w' := by
  unfold maxLen at hs
  have hbw := Below.refl w.heap.size w
  by_cases hl : 4096 < s.size
  · go_enter Try.func3, Try.ntmps3
    go_wp2_with (go_at_call 9; refine (example_any _).mono ?_; rintro e w' ⟨rfl, hb⟩; replace hbw := hbw.trans (hb.mono hbw.size); clear hb)
    go_ret
    exact ⟨rfl, hbw⟩
  · have hm : s.size ≤ maxLen := small_max (by omega)
    go_enter Try.func3, Try.ntmps3
    go_wp2_with ((first
      | (go_at_call 10; refine (valid_any _ _ hm).mono ?_; rintro e w' ⟨rfl, hb⟩)
      | (go_at_call 11; refine (refValid_any _ _ hm).mono ?_; rintro e w' ⟨rfl, hb⟩; replace hb := drewN_below hb)
      | (go_at_call 9; refine (example_any _).mono ?_; rintro e w' ⟨rfl, hb⟩)); replace hbw := hbw.trans (hb.mono hbw.size); clear hb)
    go_ret
    exact ⟨rfl, hbw⟩

set_option maxHeartbeats 1600000 in
theorem lawCheck (s : ByteArray) (w : World) (hs : s.size ≤ maxLen) :
    Calls Try.prog 4 #[.string s] w fun e w' => e = .returned (.bool true) ∧ Below w.heap.size w w' := by
  unfold maxLen at hs
  have hbw := Below.refl w.heap.size w
  by_cases hl : 4096 < s.size
  · go_enter Try.func4, Try.ntmps4
    go_wp2_with (go_at_call 9; refine (example_any _).mono ?_; rintro e w' ⟨rfl, hb⟩; replace hbw := hbw.trans (hb.mono hbw.size); clear hb)
    go_ret
    exact ⟨rfl, hbw⟩
  · have hm : s.size ≤ maxLen := small_max (by omega)
    go_enter Try.func4, Try.ntmps4
    go_wp2_with ((first
      | (go_at_call 12; refine (check_any _ _ hm).mono ?_; rintro e w' ⟨rfl, hb⟩)
      | (go_at_call 13; refine (refCheck_any _ _ hm).mono ?_; rintro e w' ⟨rfl, hb⟩; replace hb := drewN_below hb)
      | (go_at_call 9; refine (example_any _).mono ?_; rintro e w' ⟨rfl, hb⟩)); replace hbw := hbw.trans (hb.mono hbw.size); clear hb)
    go_ret
    exact ⟨rfl, hbw⟩

set_option maxHeartbeats 1600000 in
theorem lawMake (c p i : ByteArray) (w : World) (h1 : c.size ≤ maxLen) (h2 : p.size ≤ maxLen) (h3 : i.size ≤ maxLen) :
    Calls Try.prog 5 #[.string c, .string p, .string i] w fun e w' => e = .returned (.bool true) ∧ Below w.heap.size w w' := by
  have hbw := Below.refl w.heap.size w
  by_cases hl : 4096 < c.size ∨ 4096 < p.size ∨ 4096 < i.size
  · unfold maxLen at h1 h2 h3
    go_enter Try.func5, Try.ntmps5
    go_wp2_with (go_at_call 9; refine (example_any _).mono ?_; rintro e w' ⟨rfl, hb⟩; replace hbw := hbw.trans (hb.mono hbw.size); clear hb)
    all_goals go_ret
    all_goals exact ⟨rfl, hbw⟩
  · have y1 : c.size ≤ 4096 := by omega
    have y2 : p.size ≤ 4096 := by omega
    have y3 : i.size ≤ 4096 := by omega
    clear hl
    go_enter Try.func5, Try.ntmps5
    go_wp2_with ((first
      | (go_at_call 14; refine (make_any _ _ _ _).mono ?_; rintro e w' ⟨rfl, hb⟩)
      | (go_at_call 15; refine (refMake_any _ _ _ _ h1 h2 h3).mono ?_; rintro e w' ⟨rfl, hb⟩)
      | (go_at_call 9; refine (example_any _).mono ?_; rintro e w' ⟨rfl, hb⟩)); replace hbw := hbw.trans (hb.mono hbw.size); clear hb)
    go_ret
    exact ⟨rfl, hbw⟩

set_option maxHeartbeats 1600000 in
theorem lawParse (s : ByteArray) (w : World) (hs : s.size ≤ maxLen) :
    Calls Try.prog 6 #[.string s] w fun e w' => e = .returned (.bool true) ∧ Below w.heap.size w w' := by
  unfold maxLen at hs
  have hbw := Below.refl w.heap.size w
  by_cases hl : 4096 < s.size
  · go_enter Try.func6, Try.ntmps6
    go_wp2_with (go_at_call 9; refine (example_any _).mono ?_; rintro e w' ⟨rfl, hb⟩; replace hbw := hbw.trans (hb.mono hbw.size); clear hb)
    go_ret
    exact ⟨rfl, hbw⟩
  · have hm : s.size ≤ maxLen := small_max (by omega)
    go_enter Try.func6, Try.ntmps6
    go_wp2_with ((first
      | (go_at_call 16; refine (parse_any _ _).mono ?_; rintro e w' ⟨rfl, hb⟩)
      | (go_at_call 17; refine (refParse_any _ _ hm).mono ?_; rintro e w' ⟨rfl, hb⟩)
      | (go_at_call 9; refine (example_any _).mono ?_; rintro e w' ⟨rfl, hb⟩)); replace hbw := hbw.trans (hb.mono hbw.size); clear hb)
    go_ret
    exact ⟨rfl, hbw⟩

theorem same_comm (a b : ByteArray) : sameS b a = sameS a b := by
  unfold sameS
  by_cases h : capL a.data.toList = capL b.data.toList
  · simp [h]
  · simp [h, Ne.symm h]
theorem same_refl (a : ByteArray) : sameS a a = true := by simp [sameS]

set_option maxHeartbeats 1600000 in
theorem lawSame (a b : ByteArray) (w : World) (h1 : a.size ≤ maxLen) (h2 : b.size ≤ maxLen) :
    Calls Try.prog 7 #[.string a, .string b] w fun e w' => e = .returned (.bool true) ∧ Below w.heap.size w w' := by
  have hbw := Below.refl w.heap.size w
  by_cases hl : 4096 < a.size ∨ 4096 < b.size
  · unfold maxLen at h1 h2
    go_enter Try.func7, Try.ntmps7
    go_wp2_with (go_at_call 9; refine (example_any _).mono ?_; rintro e w' ⟨rfl, hb⟩; replace hbw := hbw.trans (hb.mono hbw.size); clear hb)
    all_goals go_ret
    all_goals exact ⟨rfl, hbw⟩
  · have y1 : a.size ≤ 4096 := by omega
    have y2 : b.size ≤ 4096 := by omega
    have hc := same_comm a b
    have hr := same_refl a
    clear hl
    go_enter Try.func7, Try.ntmps7
    go_wp2_with ((first
      | (go_at_call 19; (first | (with_reducible refine (same_any a b _ h1).mono ?_) | (with_reducible refine (same_any b a _ h2).mono ?_) | (with_reducible refine (same_any a a _ h1).mono ?_)); rintro e w' ⟨rfl, hb⟩; replace hb := drewN_below hb)
      | (go_at_call 18; refine (refSame_any _ _ _ h1 h2).mono ?_; rintro e w' ⟨rfl, hb⟩)
      | (go_at_call 9; refine (example_any _).mono ?_; rintro e w' ⟨rfl, hb⟩)); replace hbw := hbw.trans (hb.mono hbw.size); clear hb)
    go_ret
    exact ⟨rfl, hbw⟩

end Go.Proofs.Ytidmikodihkapaa
