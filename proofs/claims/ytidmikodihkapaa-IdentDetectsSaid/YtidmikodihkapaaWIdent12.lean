/-
  Walks: the law IdentDetects.
-/
import Derived.Test.YtidmikodihkapaaWIdent11
namespace Go.Proofs.Ytidmikodihkapaa
open Go.RowKit Go.Lib Go.Joins
set_option linter.unusedVariables false

theorem make_ok {c p i : ByteArray} (h : makeOK c p i = true) : makeE c p i = 0 := by simp [makeE, h]
theorem make_err {c p i : ByteArray} (h : makeOK c p i = false) : makeE c p i = 4 := by simp [makeE, h]

theorem byte_at {s : ByteArray} {k : Nat} (hk : k < s.size) : ((s[k].toNat : Int) == 45) = (s.data.toList.getD k 0 == 45) := by
  have h := byte_eq hk
  cases hd : (s.data.toList.getD k 0 == 45) <;> rw [hd] at h <;> simpa using h

theorem set_size (s : ByteArray) (k : Nat) (c : UInt8) (hk : k < s.size) : (s.extract 0 k ++ ⟨#[c]⟩ ++ s.extract (k + 1) s.size).size = s.size := by
  have h := congrArg List.length (set_data s k c hk)
  rw [List.length_set] at h
  have e : ∀ x : ByteArray, x.data.toList.length = x.size := fun x => by simp
  rw [e, e] at h
  exact h

set_option maxHeartbeats 3200000 in
theorem lawDetects (c p i : ByteArray) (t b : Int) (w : World) (h1 : c.size ≤ maxLen) (h2 : p.size ≤ maxLen) (h3 : i.size ≤ maxLen) (ht0 : 0 ≤ t) (ht1 : t ≤ 255) (hb0 : 0 ≤ b) (hb1 : b ≤ 255) :
    Calls Try.prog 8 #[.string c, .string p, .string i, .int .u8 t, .int .u8 b] w fun e w' => e = .returned (.bool true) ∧ Below w.heap.size w w' := by
  have hbw := Below.refl w.heap.size w
  by_cases hl : 4096 < c.size ∨ 4096 < p.size ∨ 4096 < i.size
  · unfold maxLen at h1 h2 h3
    go_enter Try.func8, Try.ntmps8
    go_wp2_with (go_at_call 9; refine (example_any _).mono ?_; rintro e w' ⟨rfl, hb⟩; replace hbw := hbw.trans (hb.mono hbw.size); clear hb)
    all_goals go_ret
    all_goals exact ⟨rfl, hbw⟩
  · have y1 : c.size ≤ 4096 := by omega
    have y2 : p.size ≤ 4096 := by omega
    have y3 : i.size ≤ 4096 := by omega
    clear hl h1 h2 h3
    cases hm : makeOK c p i with
    | false =>
      have he := make_err hm
      clear hm
      go_enter Try.func8, Try.ntmps8
      go_wp2_with fail
      refine (make_any _ _ _ _).mono ?_
      rintro e w' ⟨rfl, hb⟩
      replace hbw := hbw.trans (hb.mono hbw.size)
      clear hb
      rw [he]
      go_wp2_with (go_at_call 9; refine (example_any _).mono ?_; rintro e w' ⟨rfl, hb⟩; replace hbw := hbw.trans (hb.mono hbw.size); clear hb)
      go_ret
      exact ⟨rfl, hbw⟩
    | true =>
      have he := make_ok hm
      have HF := Lib.hid (make_form hm)
      have hsz : (makeS c p i).size = 18 := by have := (form_dash HF.out.1).1; simpa using this
      clear hm
      go_enter Try.func8, Try.ntmps8
      go_wp2_with fail
      refine (make_any _ _ _ _).mono ?_
      rintro e w' ⟨rfl, hb⟩
      replace hbw := hbw.trans (hb.mono hbw.size)
      clear hb
      rw [he]
      clear he
      generalize makeS c p i = S at *
      have s1 : 18 ≤ S.size := by omega
      have s2 : S.size ≤ 18 := by omega
      have sne : ((S.size : Int) != 18) = false := by simp; omega
      clear hsz
      obtain ⟨k, hk, hkt⟩ : ∃ k : Nat, k < 18 ∧ t % 18 = (k : Int) := ⟨(t % 18).toNat, by omega, by omega⟩
      have hob := one_byte (P := Try.prog) 33 9 5 Try.underlying33 Try.underlying5 Try.underlying9 b (by omega) (by omega)
      have hki : (k : Int) ≤ (S.size : Int) := by omega
      have hki2 : (k : Int) + 1 ≤ (S.size : Int) := by omega
      have hbk := byte_at (s := S) (k := k) (by omega)
      cases hd : (S.data.toList.getD k 0 == 45) with
      | true =>
        rw [hd] at hbk
        clear hob hd
        go_wp2_with (go_at_call 9; refine (example_any _).mono ?_; rintro e w' ⟨rfl, hb⟩; replace hbw := hbw.trans (hb.mono hbw.size); clear hb)
        go_ret
        exact ⟨rfl, hbw⟩
      | false =>
        rw [hd] at hbk
        have HL := Lib.hid (detect_law HF.out.1 HF.out.2.1 HF.out.2.2 k (by omega) hd (UInt8.ofNat b.toNat))
        have HZ := Lib.hid (set_size S k (UInt8.ofNat b.toNat) (by omega))
        clear hd
        go_wp2_with fail
        have hob2 : ∀ w : World, (convert 33 9 (.slice (some ⟨w.heap.size, 0, none⟩) 1 1)).run Try.prog (w.alloc (.cells #[.int .u8 b] 5)).drew = .ok (.string ⟨#[UInt8.ofNat b.toNat]⟩) (w.alloc (.cells #[.int .u8 b] 5)).drew := fun w => hob w.drew
        go_region
        obtain ⟨g1, g2⟩ := HL.out
        have hz := HZ.out
        clear HL HZ hob hob2 hki hki2
        replace hbw := (hbw.alloc hbw.size (.cells #[.int .u8 b] 5)).drew
        generalize S.extract 0 k ++ { data := #[UInt8.ofNat b.toNat] } ++ S.extract (k + 1) S.size = X at *
        have hm : X.size ≤ maxLen := by unfold maxLen; omega
        cases hx : sameS X S with
        | true =>
          have he := g1 hx
          clear g1 g2
          go_wp2_with ((first
            | (go_at_call 19; refine (same_any X S _ hm).mono ?_; rintro e w' ⟨rfl, hb⟩; replace hb := drewN_below hb; rw [hx])
            | (go_at_call 16; refine (parse_any _ _).mono ?_; rintro e w' ⟨rfl, hb⟩; rw [he])); replace hbw := hbw.trans (hb.mono hbw.size); clear hb)
          go_ret
          exact ⟨rfl, hbw⟩
        | false =>
          have he := g2 hx
          obtain ⟨e1, e2, e3⟩ := parse_none he
          clear g1 g2
          have hne : (parseE X.data.toList != 0) = true := by simpa using he
          go_wp2_with ((first
            | (go_at_call 19; refine (same_any X S _ hm).mono ?_; rintro e w' ⟨rfl, hb⟩; replace hb := drewN_below hb; rw [hx])
            | (go_at_call 16; refine (parse_any _ _).mono ?_; rintro e w' ⟨rfl, hb⟩; rw [e1, e2, e3])); replace hbw := hbw.trans (hb.mono hbw.size); clear hb)
          go_ret
          exact ⟨rfl, hbw⟩

theorem u8_range {n : Int} (h : (Lit.int .u8 n).wf = true) : 0 ≤ n ∧ n ≤ 255 := by
  simp [Lit.wf, IntKind.min, IntKind.max, IntKind.signed, IntKind.bits] at h
  omega

theorem lawDetects' (c p i : ByteArray) (t b : Int) (w : World) (h1 : c.size ≤ maxLen) (h2 : p.size ≤ maxLen) (h3 : i.size ≤ maxLen) (ht : (Lit.int .u8 t).wf = true) (hb : (Lit.int .u8 b).wf = true) :
    Calls Try.prog 8 #[.string c, .string p, .string i, .int .u8 t, .int .u8 b] w fun e w' => e = .returned (.bool true) ∧ Below w.heap.size w w' :=
  lawDetects c p i t b w h1 h2 h3 (u8_range ht).1 (u8_range ht).2 (u8_range hb).1 (u8_range hb).2

end Go.Proofs.Ytidmikodihkapaa
