/-
  Walks: Parse, in package ident and in its reference.
-/
import Derived.Test.YtidmikodihkapaaDoorWIdent6
namespace Go.Proofs.YtidmikodihkapaaDoor
open Go.RowKit Go.Lib Go.Joins
set_option linter.unusedVariables false

def emptyS : ByteArray := ⟨#[]⟩
def parse1 (s : ByteArray) : ByteArray := if parseOK s.data.toList then capS (s.extract 0 2) else ⟨#[]⟩
def parse2 (s : ByteArray) : ByteArray := if parseOK s.data.toList then capS (s.extract 3 6) else ⟨#[]⟩
def parse3 (s : ByteArray) : ByteArray := if parseOK s.data.toList then capS (s.extract 7 16) else ⟨#[]⟩
def ParseIs (s a b c : ByteArray) (e : Int) : Prop := parse1 s = a ∧ parse2 s = b ∧ parse3 s = c ∧ parseE s.data.toList = e

theorem parse_form {s : ByteArray} (h : formL s.data.toList = false) : ParseIs s ⟨#[]⟩ ⟨#[]⟩ ⟨#[]⟩ 5 := by
  simp [ParseIs, parse1, parse2, parse3, parseOK, parseE, h]
theorem parse_sum {s : ByteArray} (h : formL s.data.toList = true) (hs : sumOK s.data.toList = false) : ParseIs s ⟨#[]⟩ ⟨#[]⟩ ⟨#[]⟩ 7 := by
  simp [ParseIs, parse1, parse2, parse3, parseOK, parseE, h, hs]
theorem parse_good {s : ByteArray} (h : formL s.data.toList = true) (hs : sumOK s.data.toList = true) : ParseIs s (capS (s.extract 0 2)) (capS (s.extract 3 6)) (capS (s.extract 7 16)) 0 := by
  simp [ParseIs, parse1, parse2, parse3, parseOK, parseE, h, hs]

theorem ret_parse {s a b c : ByteArray} {k : IntKind} {e : Int} (h : ParseIs s a b c e) :
    Ending.returned (.tuple #[.string a, .string b, .string c, .int k e]) = .returned (.tuple #[.string (parse1 s), .string (parse2 s), .string (parse3 s), .int k (parseE s.data.toList)]) := by
  obtain ⟨h1, h2, h3, h4⟩ := h
  rw [h1, h2, h3, h4]

theorem results_tmp4 {fn : Func} {t u v x : Tmp} (h : fn.results = #[.tmp t, .tmp u, .tmp v, .tmp x]) (tmps : Array Value) (P : Program) (w : World) :
    (results fn tmps).run P w = .ok (.tuple #[tmps.getD t undef, tmps.getD u undef, tmps.getD v undef, tmps.getD x undef]) w := by simp [results, h]

/-- the form, as the walk asks it -/
theorem form_eq (s : ByteArray) (h18 : s.size = 18) : formL s.data.toList =
    ((s.data.toList.getD 2 0 == 45) && ((s.data.toList.getD 6 0 == 45) && ((s.data.toList.getD 16 0 == 45) &&
    (alnumL (s.data.toList.take 2) 2 10 && (alnumL ((s.data.toList.drop 3).take 3) 3 0 && (alnumL ((s.data.toList.drop 7).take 9) 9 0 && alnumL ((s.data.toList.drop 17).take (s.size - 17)) 1 0)))))) := by
  have hl : s.data.toList.length = 18 := by simpa using h18
  unfold formL
  rw [decide_eq_true hl, Bool.true_and, h18]
  have e : (s.data.toList.drop 17).take (18 - 17) = s.data.toList.drop 17 := List.take_of_length_le (by simp; omega)
  rw [e]
theorem and_f1 {A B C D : Bool} (h : ¬ A = true) : (A && (B && (C && D))) = false := by cases A <;> simp_all
theorem and_f2 {A B C D : Bool} (h : ¬ B = true) : (A && (B && (C && D))) = false := by cases B <;> simp_all
theorem and_f3 {A B C D : Bool} (h : ¬ C = true) : (A && (B && (C && D))) = false := by cases C <;> simp_all
theorem and_f4 {A B C D : Bool} (h : (!D) = true) : (A && (B && (C && D))) = false := by cases D <;> simp_all
theorem and_t {A B C D : Bool} (h1 : A = true) (h2 : B = true) (h3 : C = true) (h : (!D) = false) : (A && (B && (C && D))) = true := by cases D <;> simp_all

/-- what a good form says of the sum -/
theorem form_check {s : ByteArray} (h : formL s.data.toList = true) : checkE (s.data.toList.take 16) = 0 ∧ 48 ≤ checkC (s.data.toList.take 16) ∧ checkC (s.data.toList.take 16) ≤ 90 := by
  unfold formL at h
  simp only [Bool.and_eq_true, decide_eq_true_eq, beq_iff_eq] at h
  obtain ⟨hl, h2, h6, h16, a1, a2, a3, _⟩ := h
  rw [(form_split hl h2 h6 h16).1]
  exact join_check a1 a2 a3
theorem size_extract_le (s : ByteArray) (a b : Nat) (h : s.size ≤ 18) : (s.extract a b).size ≤ maxLen := by
  have : (s.extract a b).size ≤ s.size := by simp; omega
  unfold maxLen; omega
theorem byte_eq {s : ByteArray} {k : Nat} (hk : k < s.size) : ((s[k].toNat : Int) != 45) = !(s.data.toList.getD k 0 == 45) := by
  have e : s.data.toList.getD k 0 = s[k] := by
    have hk' : k < s.data.size := hk
    simp [List.getD_eq_getElem?_getD, Array.getElem?_eq_getElem hk']; rfl
  rw [e]
  by_cases h : s[k] = 45
  · rw [h]; decide
  · have h1 : (s[k] == 45) = false := by simpa using h
    have h2 : ¬ s[k].toNat = 45 := fun x => h (UInt8.toNat_inj.1 (by rw [x]; rfl))
    rw [h1]
    simp
    omega
theorem byte_17 {s : ByteArray} {k : Nat} (hk : k < s.size) : ((s.data.toList.getD k 0).toNat : Int) = (s[k].toNat : Int) := by
  have hk' : k < s.data.size := hk
  simp [List.getD_eq_getElem?_getD, Array.getElem?_eq_getElem hk']; rfl

set_option maxHeartbeats 1600000 in
theorem parse_any (s : ByteArray) (w : World) :
    Calls Tryd.prog 7 #[.string s] w fun e w' => e = .returned (.tuple #[.string (parse1 s), .string (parse2 s), .string (parse3 s), .int .i64 (parseE s.data.toList)]) ∧ Below w.heap.size w w' := by
  by_cases h18 : s.size = 18
  · have hlo : 18 ≤ s.size := by omega
    have hhi : s.size ≤ 18 := by omega
    have hne : ((s.size : Int) != 18) = false := by simp; omega
    have hf := form_eq s h18
    clear h18
    have b2 := byte_eq (s := s) (k := 2) (by omega)
    have b6 := byte_eq (s := s) (k := 6) (by omega)
    have b16 := byte_eq (s := s) (k := 16) (by omega)
    have hbw := Below.refl w.heap.size w
    cases c2 : (s.data.toList.getD 2 0 == 45) with
    | false =>
      rw [c2] at b2 hf
      simp only [Bool.not_false, Bool.false_and] at b2 hf
      have HP := Lib.hid (parse_form hf)
      clear hf c2 b6 b16
      go_enter Tryd.func7, Tryd.ntmps7
      go_wp2
      refine bodyPost_ret (results_tmp4 rfl _ _ _) rfl ?_
      exact ⟨ret_parse HP.out, Below.refl _ _⟩
    | true =>
    cases c6 : (s.data.toList.getD 6 0 == 45) with
    | false =>
      rw [c2] at b2 hf
      rw [c6] at b6 hf
      simp only [Bool.not_true, Bool.not_false, Bool.true_and, Bool.false_and] at b2 b6 hf
      have HP := Lib.hid (parse_form hf)
      clear hf c2 c6 b16
      go_enter Tryd.func7, Tryd.ntmps7
      go_wp2
      refine bodyPost_ret (results_tmp4 rfl _ _ _) rfl ?_
      exact ⟨ret_parse HP.out, Below.refl _ _⟩
    | true =>
    cases c16 : (s.data.toList.getD 16 0 == 45) with
    | false =>
      rw [c2] at b2 hf
      rw [c6] at b6 hf
      rw [c16] at b16 hf
      simp only [Bool.not_true, Bool.not_false, Bool.true_and, Bool.false_and] at b2 b6 b16 hf
      have HP := Lib.hid (parse_form hf)
      clear hf c2 c6 c16 
      go_enter Tryd.func7, Tryd.ntmps7
      go_wp2
      refine bodyPost_ret (results_tmp4 rfl _ _ _) rfl ?_
      exact ⟨ret_parse HP.out, Below.refl _ _⟩
    | true =>
      rw [c2, c6, c16] at hf
      rw [c2] at b2
      rw [c6] at b6
      rw [c16] at b16
      simp only [Bool.not_true, Bool.true_and] at b2 b6 b16 hf
      have HF := Lib.hid hf
      clear hf c2 c6 c16
      go_enter Tryd.func7, Tryd.ntmps7
      go_wp2_with (first
        | (go_at_call 12; refine (alphanumeric_any _ _ _ _ (by omega)).mono ?_; rintro e w' ⟨rfl, hb⟩; replace hbw := hbw.trans (hb.mono hbw.size); clear hb))
      all_goals try (
        have hff : formL s.data.toList = false := by first | exact HF.out.trans (and_f1 ‹_›) | exact HF.out.trans (and_f2 ‹_›) | exact HF.out.trans (and_f3 ‹_›) | exact HF.out.trans (and_f4 ‹_›)
        refine bodyPost_ret (results_tmp4 rfl _ _ _) rfl ?_
        exact ⟨ret_parse (parse_form hff), hbw⟩)
      have hft : formL s.data.toList = true := HF.out.trans (and_t ‹_› ‹_› ‹_› ‹_›)
      obtain ⟨hE, hC0, hC1⟩ := form_check hft
      have HFT := Lib.hid hft
      clear hft
      have hx : s.size ≤ 18 := hhi
      refine (check_any _ _ (size_extract_le s _ _ hx)).mono ?_
      rintro e w2 ⟨rfl, hb⟩
      replace hbw := hbw.trans (hb.mono hbw.size)
      clear hb
      rw [Lib.extract_data, List.drop_zero]
      have e16 : (16 - 0 : Nat) = 16 := rfl
      rw [e16, hE]
      clear e16
      have b17 := byte_17 (s := s) (k := 17) (by omega)
      cases hs : sumOK s.data.toList with
      | false =>
        have hq : (checkC (s.data.toList.take 16) != capI (s[17].toNat : Int)) = true := by rw [← b17]; unfold sumOK at hs; simpa using hs
        have HP := Lib.hid (parse_sum HFT.out hs)
        obtain ⟨y0, y1⟩ := byte_lt s 17 (by omega)
        clear hs b17
        go_wp2_with (go_at_call 20; refine (capital_any _ _ (by omega) (by omega)).mono ?_; rintro e w' ⟨rfl, rfl⟩)
        refine bodyPost_ret (results_tmp4 rfl _ _ _) rfl ?_
        exact ⟨ret_parse HP.out, hbw⟩
      | true =>
        have hq : (checkC (s.data.toList.take 16) != capI (s[17].toNat : Int)) = false := by rw [← b17]; unfold sumOK at hs; simpa using hs
        have HP := Lib.hid (parse_good HFT.out hs)
        obtain ⟨y0, y1⟩ := byte_lt s 17 (by omega)
        clear hs b17
        go_wp2_with (first
          | (go_at_call 20; refine (capital_any _ _ (by omega) (by omega)).mono ?_; rintro e w' ⟨rfl, rfl⟩)
          | (go_at_call 13; refine (capitals_any _ _ (size_extract_le s _ _ hx)).mono ?_; rintro e w' ⟨rfl, hb⟩; replace hbw := hbw.trans (hb.mono hbw.size); clear hb))
        refine bodyPost_ret (results_tmp4 rfl _ _ _) rfl ?_
        exact ⟨ret_parse HP.out, hbw⟩
  · have hf : formL s.data.toList = false := by
      have hl : ¬ s.data.toList.length = 18 := by simpa using h18
      unfold formL; rw [decide_eq_false hl]; rfl
    have hne : ((s.size : Int) != 18) = true := by simp; omega
    have HP := Lib.hid (parse_form hf)
    clear hf h18
    go_enter Tryd.func7, Tryd.ntmps7
    go_wp2
    refine bodyPost_ret (results_tmp4 rfl _ _ _) rfl ?_
    exact ⟨ret_parse HP.out, Below.refl _ _⟩

end Go.Proofs.YtidmikodihkapaaDoor
