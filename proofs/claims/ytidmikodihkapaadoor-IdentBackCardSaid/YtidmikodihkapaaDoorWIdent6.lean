/-
  Walks: Check of the reference; Make, in package ident and in its reference.
-/
import Derived.Test.YtidmikodihkapaaDoorWIdent5
import Derived.Test.YtidmikodihkapaaDoorPIdent2
namespace Go.Proofs.YtidmikodihkapaaDoor
open Go.RowKit Go.Lib Go.Joins
set_option linter.unusedVariables false

theorem chr_hit {P : Int} {k : Nat} (hP0 : 1 ≤ P) (hP1 : P ≤ 36) (hk : k < 36) (h : ((P + k) % 36 == 1) = true) : (37 - P) % 36 = k := by
  simp at h; omega
theorem chr_miss {P : Int} {k : Nat} (hP0 : 1 ≤ P) (hP1 : P ≤ 36) (h : ∀ j : Nat, j < k → ((P + j) % 36 == 1) = false) (hk : ¬ k < 36) : False := by
  have := h ((37 - P) % 36).toNat (by omega)
  simp at this; omega
theorem chr_letter (k : Nat) : chrI (k : Int) = letterAt k := by
  unfold chrI letterAt; (repeat' split) <;> omega

def joinS (c p i : ByteArray) : ByteArray := c ++ ⟨#[45]⟩ ++ p ++ ⟨#[45]⟩ ++ i
def makeOK (c p i : ByteArray) : Bool := alnumL c.data.toList 2 10 && (alnumL p.data.toList 3 0 && alnumL i.data.toList 9 0)
def makeGood (c p i : ByteArray) : ByteArray := capS (joinS c p i) ++ ⟨#[45]⟩ ++ ⟨#[UInt8.ofNat (checkC (capS (joinS c p i)).data.toList).toNat]⟩
def makeS (c p i : ByteArray) : ByteArray := if makeOK c p i then makeGood c p i else ⟨#[]⟩
def makeE (c p i : ByteArray) : Int := if makeOK c p i then 0 else 4

theorem joinS_data (c p i : ByteArray) : (joinS c p i).data.toList = joinL c.data.toList p.data.toList i.data.toList := by
  simp [joinS, joinL]
theorem joinS_check {c p i : ByteArray} (h1 : alnumL c.data.toList 2 10 = true) (h2 : alnumL p.data.toList 3 0 = true) (h3 : alnumL i.data.toList 9 0 = true) :
    checkE (capS (joinS c p i)).data.toList = 0 ∧ 48 ≤ checkC (capS (joinS c p i)).data.toList ∧ checkC (capS (joinS c p i)).data.toList ≤ 90 := by
  rw [capS_data, joinS_data, checkE_cap, checkC_cap]
  exact join_check h1 h2 h3
theorem size_join (c p i : ByteArray) : (joinS c p i).size = c.size + p.size + i.size + 2 := by
  have h := congrArg List.length (joinS_data c p i)
  simp [joinL] at h
  have e : (joinS c p i).size = (joinS c p i).data.size := rfl
  have e1 : c.size = c.data.size := rfl
  have e2 : p.size = p.data.size := rfl
  have e3 : i.size = i.data.size := rfl
  omega
theorem size_cap (s : ByteArray) : (capS s).size = s.size := by
  have h := congrArg List.length (capS_data s)
  simp [capL] at h
  exact h
theorem alnum_size {s : ByteArray} {n k : Int} (h : alnumL s.data.toList n k = true) : (s.size : Int) = n := by
  have := (alnum_of h).1; simpa using this

/-- 'string(rune(c))' of an ASCII character -/
theorem rune_string (x : Int) (h0 : 0 ≤ x) (h1 : x < 128) (w : World) :
    (convert 21 9 (.int .i32 x)).run Tryd.prog w = .ok (.string ⟨#[UInt8.ofNat x.toNat]⟩) w := by
  have he : Utf8.encode x = ⟨#[UInt8.ofNat x.toNat]⟩ := by
    have hv : Utf8.valid x = true := by simp [Utf8.valid]; omega
    simp only [Utf8.encode, hv, if_true]
    rw [if_pos (by omega)]
  have h : (convert 21 9 (.int .i32 x)).run Tryd.prog w = .ok (.string (Utf8.encode x)) w := by rfl
  rw [h, he]

set_option maxHeartbeats 1600000 in
theorem make_bad (c p i : ByteArray) (w : World) (hm : makeOK c p i = false) :
    Calls Tryd.prog 5 #[.string c, .string p, .string i] w fun e w' => e = .returned (.tuple #[.string (makeS c p i), .int .i64 (makeE c p i)]) ∧ Below w.heap.size w w' := by
  have HM : Hid (makeS c p i = ⟨#[]⟩ ∧ makeE c p i = 4) := by constructor <;> simp [makeS, makeE, hm]
  unfold makeOK at hm
  cases h1 : alnumL c.data.toList 2 10 with
  | false =>
    clear hm
    go_enter Tryd.func5, Tryd.ntmps5
    go_wp2_with fail
    refine (alphanumeric_any c _ _ _ (by omega)).mono ?_
    rintro e w1 ⟨rfl, hb1⟩
    rw [h1]
    go_wp2_with fail
    go_ret2
    exact ⟨ret_strint (by rw [HM.out.1]) (by rw [HM.out.2]), hb1⟩
  | true =>
  cases h2 : alnumL p.data.toList 3 0 with
  | false =>
    clear hm
    go_enter Tryd.func5, Tryd.ntmps5
    go_wp2_with fail
    refine (alphanumeric_any c _ _ _ (by omega)).mono ?_
    rintro e w1 ⟨rfl, hb1⟩
    rw [h1]
    go_wp2_with fail
    refine (alphanumeric_any p _ _ _ (by omega)).mono ?_
    rintro e w2 ⟨rfl, hb2⟩
    rw [h2]
    go_wp2_with fail
    go_ret2
    exact ⟨ret_strint (by rw [HM.out.1]) (by rw [HM.out.2]), hb1.trans (hb2.mono hb1.size)⟩
  | true =>
    have h3 : alnumL i.data.toList 9 0 = false := by rw [h1, h2] at hm; simpa using hm
    clear hm
    go_enter Tryd.func5, Tryd.ntmps5
    go_wp2_with fail
    refine (alphanumeric_any c _ _ _ (by omega)).mono ?_
    rintro e w1 ⟨rfl, hb1⟩
    rw [h1]
    go_wp2_with fail
    refine (alphanumeric_any p _ _ _ (by omega)).mono ?_
    rintro e w2 ⟨rfl, hb2⟩
    rw [h2]
    go_wp2_with fail
    refine (alphanumeric_any i _ _ _ (by omega)).mono ?_
    rintro e w3 ⟨rfl, hb3⟩
    rw [h3]
    go_wp2_with fail
    go_ret2
    exact ⟨ret_strint (by rw [HM.out.1]) (by rw [HM.out.2]), (hb1.trans (hb2.mono hb1.size)).trans (hb3.mono (Nat.le_trans hb1.size hb2.size))⟩

set_option maxHeartbeats 1600000 in
theorem make_good (c p i : ByteArray) (w : World) (h1 : alnumL c.data.toList 2 10 = true) (h2 : alnumL p.data.toList 3 0 = true) (h3 : alnumL i.data.toList 9 0 = true) :
    Calls Tryd.prog 5 #[.string c, .string p, .string i] w fun e w' => e = .returned (.tuple #[.string (makeS c p i), .int .i64 (makeE c p i)]) ∧ Below w.heap.size w w' := by
  have HM : Hid (makeS c p i = makeGood c p i ∧ makeE c p i = 0) := by constructor <;> simp [makeS, makeE, makeOK, h1, h2, h3]
  obtain ⟨hE, hc0, hc1⟩ := joinS_check h1 h2 h3
  have hsz := size_join c p i
  have z1 := alnum_size h1
  have z2 := alnum_size h2
  have z3 := alnum_size h3
  have hszc := size_cap (joinS c p i)
  have HZ : Hid ((joinS c p i).size ≤ 36 ∧ (capS (joinS c p i)).size ≤ 36) := ⟨by omega, by omega⟩
  have y1 : c.size ≤ 2 := by omega
  have y2 : p.size ≤ 3 := by omega
  have y3 : i.size ≤ 9 := by omega
  clear hsz z1 z2 z3 hszc
  go_enter Tryd.func5, Tryd.ntmps5
  go_wp2_with fail
  refine (alphanumeric_any c _ _ _ (by omega)).mono ?_
  rintro e w1 ⟨rfl, hb1⟩
  rw [h1]
  go_wp2_with fail
  refine (alphanumeric_any p _ _ _ (by omega)).mono ?_
  rintro e w2 ⟨rfl, hb2⟩
  rw [h2]
  go_wp2_with fail
  refine (alphanumeric_any i _ _ _ (by omega)).mono ?_
  rintro e w3 ⟨rfl, hb3⟩
  rw [h3]
  have hb := (hb1.trans (hb2.mono hb1.size)).trans (hb3.mono (Nat.le_trans hb1.size hb2.size))
  go_wp2_with fail
  refine (capitals_any (joinS c p i) _ (by have := HZ.out.1; unfold maxLen; omega)).mono ?_
  rintro e w4 ⟨rfl, hb4⟩
  go_wp2_with fail
  refine (check_any (capS (joinS c p i)) _ (by have := HZ.out.2; unfold maxLen; omega)).mono ?_
  rintro e w5 ⟨rfl, hb5⟩
  have HG : Hid (makeGood c p i = capS (joinS c p i) ++ ⟨#[45]⟩ ++ ⟨#[UInt8.ofNat (checkC (capS (joinS c p i)).data.toList).toNat]⟩) := rfl
  rw [hE]
  clear hE
  generalize checkC (capS (joinS c p i)).data.toList = x at *
  have hrs := fun w => rune_string x (by omega) (by omega) w
  have hcs := HZ.out.2
  go_wp2
  go_ret2
  exact ⟨ret_strint (by rw [HM.out.1, HG.out]) (by rw [HM.out.2]), (hb.trans (hb4.mono hb.size)).trans (hb5.mono (Nat.le_trans hb.size hb4.size))⟩

theorem make_any (c p i : ByteArray) (w : World) :
    Calls Tryd.prog 5 #[.string c, .string p, .string i] w fun e w' => e = .returned (.tuple #[.string (makeS c p i), .int .i64 (makeE c p i)]) ∧ Below w.heap.size w w' := by
  cases hm : makeOK c p i with
  | false => exact make_bad c p i w hm
  | true =>
    simp only [makeOK, Bool.and_eq_true] at hm
    exact make_good c p i w hm.1 hm.2.1 hm.2.2

end Go.Proofs.YtidmikodihkapaaDoor
