/-
  Walks: the law IdentBack.
-/
import Derived.Test.YtidmikodihkapaaDoorPBack
import Derived.Test.YtidmikodihkapaaDoorWIdent12
import Derived.Test.YtidmikodihkapaaDoorAscCase
import Derived.Test.YtidmikodihkapaaDoorBox
namespace Go.Proofs.YtidmikodihkapaaDoor
open Go.RowKit Go.Lib Go.Joins
set_option linter.unusedVariables false

theorem str_same (s : ByteArray) : (s.toList != s.toList) = false := by simp

set_option maxHeartbeats 3200000 in
theorem lawBack (c p i : ByteArray) (w : World) (h1 : c.size ≤ maxLen) (h2 : p.size ≤ maxLen) (h3 : i.size ≤ maxLen) :
    Calls Tryd.prog 3 #[.string c, .string p, .string i] w fun e w' => e = .returned (.bool true) ∧ Below w.heap.size w w' := by
  have hbw := Below.refl w.heap.size w
  by_cases hl : 4096 < c.size ∨ 4096 < p.size ∨ 4096 < i.size
  · unfold maxLen at h1 h2 h3
    go_enter Tryd.func3, Tryd.ntmps3
    go_wp2_with (go_at_call 4; refine (example_any _).mono ?_; rintro e w' ⟨rfl, hb⟩; replace hbw := hbw.trans (hb.mono hbw.size); clear hb)
    all_goals go_ret
    all_goals exact ⟨rfl, hbw⟩
  · have y1 : c.size ≤ 4096 := by omega
    have y2 : p.size ≤ 4096 := by omega
    have y3 : i.size ≤ 4096 := by omega
    clear hl h1 h2 h3
    cases hm : makeOK c p i with
    | false =>
      have he := make_err hm
      have hs : makeS c p i = ⟨#[]⟩ := by unfold makeS; rw [hm]; rfl
      clear hm
      go_enter Tryd.func3, Tryd.ntmps3
      go_wp2_with fail
      refine (make_any _ _ _ _).mono ?_
      rintro e w' ⟨rfl, hb⟩
      replace hbw := hbw.trans (hb.mono hbw.size)
      clear hb
      rw [he, hs]
      go_wp2_with (go_at_call 4; refine (example_any _).mono ?_; rintro e w' ⟨rfl, hb⟩; replace hbw := hbw.trans (hb.mono hbw.size); clear hb)
      go_ret
      exact ⟨rfl, hbw⟩
    | true =>
      have he := make_ok hm
      have HB1 := Lib.hid (back_self hm)
      have HB2 := Lib.hid (back_low hm)
      obtain ⟨ma, mv, ms⟩ := make_ascii hm
      have hok := hm
      simp only [makeOK, Bool.and_eq_true] at hok
      have a1 := alnum_ascii hok.1 (by decide)
      have a2 := alnum_ascii hok.2.1 (by decide)
      have a3 := alnum_ascii hok.2.2 (by decide)
      clear hok
      go_enter Tryd.func3, Tryd.ntmps3
      go_wp2_with fail
      refine (make_any _ _ _ _).mono ?_
      rintro e w1 ⟨rfl, hb⟩
      replace hbw := hbw.trans (hb.mono hbw.size)
      clear hb
      rw [he]
      clear he hm
      generalize makeS c p i = S at *
      have s1 : 18 ≤ S.size := by omega
      have s2 : S.size ≤ 18 := by omega
      go_wp2_with fail
      refine (lowerA_any S _ (by omega) ma).mono ?_
      rintro e w2 ⟨rfl, hb⟩
      replace hbw := hbw.trans (hb.mono hbw.size)
      clear hb
      obtain ⟨W3, hW3, hb3, hg3, hx3⟩ := box1 w2 #[.string S, .string (lowS S)] 9
      go_wp2_with fail
      rw [← hW3]
      clear hW3
      replace hbw := below_step hbw hb3
      go_loopw [48] (fun i wr => ∃ k : Nat, k ≤ 2 ∧ i = .int .i64 k ∧ Below W3.heap.size W3 wr) (fun i _ => 2 - (intOf i).toNat)
      case atStart => exact ⟨0, by omega, rfl, Below.refl _ _⟩
      case round =>
        obtain ⟨k, hk, rfl, hbr⟩ := hrel
        obtain ⟨hc, hf⟩ := bcell hbr
        have q1 := str_same (capS c)
        have q2 := str_same (capS p)
        have q3 := str_same (capS i)
        have hs18 : ((S.size : Int) == 18) = true := by simp; omega
        rcases (by omega : k = 0 ∨ k = 1 ∨ k = 2) with rfl | rfl | rfl
        · skip
          go_wp2_with fail
          refine (parse_any S _).mono ?_
          rintro e w4 ⟨rfl, hb4⟩
          rw [HB1.out.1, HB1.out.2.1, HB1.out.2.2.1, HB1.out.2.2.2]
          replace hbr := hbr.trans (hb4.mono hbr.size)
          clear hb4
          go_wp2_with (go_at_call 8; (first | (with_reducible refine (upperA_any c _ y1 a1).mono ?_) | (with_reducible refine (upperA_any p _ y2 a2).mono ?_) | (with_reducible refine (upperA_any i _ y3 a3).mono ?_)); rintro e w' ⟨rfl, hb⟩; replace hbr := hbr.trans (hb.mono hbr.size); clear hb)
          go_roundw
          case measure => simp [intOf]
          case rel => exact ⟨1, by omega, by go_num, hbr⟩
        · skip
          go_wp2_with fail
          refine (parse_any (lowS S) _).mono ?_
          rintro e w4 ⟨rfl, hb4⟩
          rw [HB2.out.1, HB2.out.2.1, HB2.out.2.2.1, HB2.out.2.2.2]
          replace hbr := hbr.trans (hb4.mono hbr.size)
          clear hb4
          go_wp2_with (go_at_call 8; (first | (with_reducible refine (upperA_any c _ y1 a1).mono ?_) | (with_reducible refine (upperA_any p _ y2 a2).mono ?_) | (with_reducible refine (upperA_any i _ y3 a3).mono ?_)); rintro e w' ⟨rfl, hb⟩; replace hbr := hbr.trans (hb.mono hbr.size); clear hb)
          go_roundw
          case measure => simp [intOf]
          case rel => exact ⟨2, by omega, by go_num, hbr⟩
        · skip
          go_wp2_with fail
          refine (valid_any S _ (by unfold maxLen; omega)).mono ?_
          rintro e w4 ⟨rfl, hb4⟩
          rw [mv]
          go_wp2_with fail
          go_ret
          exact ⟨rfl, below_step hbw (hbr.trans (hb4.mono hbr.size))⟩

end Go.Proofs.YtidmikodihkapaaDoor
