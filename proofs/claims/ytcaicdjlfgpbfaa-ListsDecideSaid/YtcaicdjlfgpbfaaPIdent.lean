/-
  Plain functions on characters and strings: what package ident and its reference compute. No program is named here.
-/
namespace Go.Proofs.Ytcaicdjlfgpbfaa

/-- a byte, as a number, as a capital -/
def capI (c : Int) : Int := if 97 ≤ c ∧ c ≤ 122 then c - 32 else c

/-- the value of a digit or a letter, or -1 -/
def valI (r : Int) : Int :=
  if 48 ≤ r ∧ r ≤ 57 then r - 48 else if 65 ≤ r ∧ r ≤ 90 then r - 55 else if 97 ≤ r ∧ r ≤ 122 then r - 87 else -1

/-- the reference's letters -/
def letterAt (k : Nat) : Int := if k < 10 then 48 + (k : Int) else 55 + (k : Int)

theorem valI_lt (r : Int) : -1 ≤ valI r ∧ valI r < 36 := by unfold valI; (repeat' split) <;> omega
theorem capI_range (c : Int) (h0 : 0 ≤ c) (h1 : c ≤ 255) : 0 ≤ capI c ∧ capI c ≤ 255 := by unfold capI; split <;> omega
theorem valI_high (r : Int) (h : 123 ≤ r) : valI r = -1 := by unfold valI; (repeat' split) <;> omega

theorem letter_hit (c : Int) (k : Nat) (hk : k < 36) (h : letterAt k = capI c) : valI c = k := by
  unfold letterAt capI at h; unfold valI
  (repeat' split at h) <;> (repeat' split) <;> omega
theorem letter_miss (c : Int) (h : ∀ j : Nat, j < 36 → ¬ letterAt j = capI c) : valI c = -1 := by
  unfold valI
  (repeat' split)
  · have := h (c - 48).toNat (by omega); exfalso; apply this; unfold letterAt capI; (repeat' split) <;> omega
  · have := h (c - 55).toNat (by omega); exfalso; apply this; unfold letterAt capI; (repeat' split) <;> omega
  · have := h (c - 87).toNat (by omega); exfalso; apply this; unfold letterAt capI; (repeat' split) <;> omega
  · rfl

/-- the bytes that an identifier may have, as numbers (of runes or bytes) -/
def okC (r : Int) : Bool := decide (0 ≤ valI r) || (r == 45 || r == 95 || r == 46 || r == 58 || r == 42)

theorem okC_high (r : Int) (h : 123 ≤ r) : okC r = false := by
  have hv := valI_high r h
  have h1 : (r == 45) = false := by simp; omega
  have h2 : (r == 95) = false := by simp; omega
  have h3 : (r == 46) = false := by simp; omega
  have h4 : (r == 58) = false := by simp; omega
  have h5 : (r == 42) = false := by simp; omega
  simp [okC, hv, h1, h2, h3, h4, h5]

def validL (l : List UInt8) : Bool := decide (1 ≤ l.length) && decide (l.length ≤ 36) && l.all (fun b => okC b.toNat)

def sumStep (p v : Int) : Int := if (p + v) % 36 = 0 then 35 else 2 * ((p + v) % 36) % 37

theorem sumStep_range (p v : Int) : 1 ≤ sumStep p v ∧ sumStep p v ≤ 36 := by
  unfold sumStep
  split
  · omega
  · have h1 : 0 ≤ (p + v) % 36 := Int.emod_nonneg _ (by omega)
    have h2 : (p + v) % 36 < 36 := Int.emod_lt_of_pos _ (by omega)
    omega

/-- the sum and the number of the characters that have a value -/
def sumL : List UInt8 → Int → Int → Int × Int
  | [], p, n => (p, n)
  | b :: l, p, n => if valI b.toNat < 0 then sumL l p n else sumL l (sumStep p (valI b.toNat)) (n + 1)

theorem sumL_append (l : List UInt8) (b : UInt8) (p n : Int) :
    sumL (l ++ [b]) p n = if valI b.toNat < 0 then sumL l p n else (sumStep (sumL l p n).1 (valI b.toNat), (sumL l p n).2 + 1) := by
  induction l generalizing p n with
  | nil => simp [sumL]
  | cons a l ih => simp only [List.cons_append, sumL]; split <;> simp [ih]

theorem sumL_range (l : List UInt8) (p n : Int) (hp : 1 ≤ p ∧ p ≤ 36) : 1 ≤ (sumL l p n).1 ∧ (sumL l p n).1 ≤ 36 := by
  induction l generalizing p n with
  | nil => simpa [sumL] using hp
  | cons a l ih => simp only [sumL]; split; exact ih _ _ hp; exact ih _ _ (sumStep_range _ _)

theorem sumL_count (l : List UInt8) (p n : Int) : n ≤ (sumL l p n).2 ∧ (sumL l p n).2 ≤ n + l.length := by
  induction l generalizing p n with
  | nil => simp [sumL]
  | cons a l ih =>
    simp only [sumL, List.length_cons]
    split
    · have := ih p n; omega
    · have := ih (sumStep p (valI a.toNat)) (n + 1); omega

/-- the character of a number below 36 -/
def chrI (c : Int) : Int := if c < 10 then 48 + c else 55 + c

/-- the check character and the error -/
def checkC (l : List UInt8) : Int := if validL l && decide (0 < (sumL l 36 0).2) then chrI ((37 - (sumL l 36 0).1) % 36) else 0
def checkE (l : List UInt8) : Int := if validL l && decide (0 < (sumL l 36 0).2) then 0 else 4

def alnumL (l : List UInt8) (n least : Int) : Bool := decide ((l.length : Int) = n) && l.all (fun b => decide (least ≤ valI b.toNat))

def capU (b : UInt8) : UInt8 := if 97 ≤ b.toNat ∧ b.toNat ≤ 122 then b - 32 else b
theorem capU_capI (b : UInt8) : ((capU b).toNat : Int) = capI b.toNat := by
  unfold capU capI
  have hb := b.toNat_lt
  split
  · rename_i h
    rw [if_pos (by omega)]
    have : (32 : UInt8) ≤ b := by rw [UInt8.le_iff_toNat_le]; have : (32 : UInt8).toNat = 32 := rfl; omega
    rw [UInt8.toNat_sub_of_le _ _ this]
    have : (32 : UInt8).toNat = 32 := rfl
    omega
  · rename_i h
    rw [if_neg (by omega)]

def capL (l : List UInt8) : List UInt8 := l.map capU
def capS (s : ByteArray) : ByteArray := ⟨(capL s.data.toList).toArray⟩

/-- equal without regard to case -/
def sameS (a b : ByteArray) : Bool := decide (capL a.data.toList = capL b.data.toList)

end Go.Proofs.Ytcaicdjlfgpbfaa
