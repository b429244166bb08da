/-
  Plain laws on identifiers: capitals, joined parts, the sum. No program is named here.
-/
import Derived.Test.YtidmikodihkapaaDoorPIdent
namespace Go.Proofs.YtidmikodihkapaaDoor

theorem valI_cap (b : UInt8) : valI ((capU b).toNat : Int) = valI (b.toNat : Int) := by
  rw [capU_capI]; have := b.toNat_lt; unfold valI capI; (repeat' split) <;> omega
theorem okC_iff' {r : Int} : okC r = true ↔ 0 ≤ valI r ∨ r = 45 ∨ r = 95 ∨ r = 46 ∨ r = 58 ∨ r = 42 := by simp [okC]; omega
theorem okC_cap (b : UInt8) : okC ((capU b).toNat : Int) = okC (b.toNat : Int) := by
  have h : okC ((capU b).toNat : Int) = true ↔ okC (b.toNat : Int) = true := by
    rw [okC_iff', okC_iff', valI_cap, capU_capI]
    have hb := b.toNat_lt
    unfold capI valI
    (repeat' split) <;> omega
  cases h1 : okC ((capU b).toNat : Int) <;> cases h2 : okC (b.toNat : Int) <;> simp_all
theorem capU_capU (b : UInt8) : capU (capU b) = capU b := by
  apply UInt8.toNat_inj.1
  have h1 := capU_capI (capU b)
  have h2 := capU_capI b
  have hb := b.toNat_lt
  rw [h2] at h1
  have : capI (capI (b.toNat : Int)) = capI (b.toNat : Int) := by unfold capI; (repeat' split) <;> omega
  omega
theorem capL_len (l : List UInt8) : (capL l).length = l.length := by simp [capL]
theorem capL_capL (l : List UInt8) : capL (capL l) = capL l := by simp [capL, capU_capU]
theorem capL_append (a b : List UInt8) : capL (a ++ b) = capL a ++ capL b := by simp [capL]
theorem capL_take (l : List UInt8) (n : Nat) : capL (l.take n) = (capL l).take n := by simp [capL]
theorem capL_drop (l : List UInt8) (n : Nat) : capL (l.drop n) = (capL l).drop n := by simp [capL]
theorem validL_cap (l : List UInt8) : validL (capL l) = validL l := by
  unfold validL
  rw [capL_len]
  congr 1
  unfold capL
  rw [List.all_map]
  congr 1
  funext b
  exact okC_cap b
theorem sumL_cap (l : List UInt8) (p n : Int) : sumL (capL l) p n = sumL l p n := by
  induction l generalizing p n with
  | nil => rfl
  | cons b l ih =>
    have e : capL (b :: l) = capU b :: capL l := rfl
    rw [e]; simp only [sumL, valI_cap, ih]
theorem checkC_cap (l : List UInt8) : checkC (capL l) = checkC l := by unfold checkC; rw [validL_cap, sumL_cap]
theorem checkE_cap (l : List UInt8) : checkE (capL l) = checkE l := by unfold checkE; rw [validL_cap, sumL_cap]
theorem alnumL_cap (l : List UInt8) (n k : Int) : alnumL (capL l) n k = alnumL l n k := by
  unfold alnumL
  rw [capL_len]
  congr 1
  unfold capL
  rw [List.all_map]
  congr 1
  funext b
  simp only [Function.comp]
  rw [valI_cap]

theorem alnum_of {l : List UInt8} {n k : Int} (h : alnumL l n k = true) : (l.length : Int) = n ∧ ∀ b ∈ l, k ≤ valI (b.toNat : Int) := by
  unfold alnumL at h; simpa using h

def joinL (c p i : List UInt8) : List UInt8 := c ++ [45] ++ p ++ [45] ++ i

theorem join_valid {c p i : List UInt8} (h1 : alnumL c 2 10 = true) (h2 : alnumL p 3 0 = true) (h3 : alnumL i 9 0 = true) : validL (joinL c p i) = true := by
  obtain ⟨l1, a1⟩ := alnum_of h1
  obtain ⟨l2, a2⟩ := alnum_of h2
  obtain ⟨l3, a3⟩ := alnum_of h3
  have hd : okC (((45 : UInt8).toNat : Nat) : Int) = true := by decide
  unfold validL joinL
  simp only [Bool.and_eq_true, List.all_eq_true, decide_eq_true_eq, List.length_append, List.length_cons, List.length_nil]
  refine ⟨⟨by omega, by omega⟩, fun b hb => ?_⟩
  simp only [List.mem_append, List.mem_cons, List.not_mem_nil, or_false] at hb
  rcases hb with ((((hb | hb) | hb) | hb) | hb)
  · rw [okC_iff']; have := a1 b hb; omega
  · subst hb; exact hd
  · rw [okC_iff']; have := a2 b hb; omega
  · subst hb; exact hd
  · rw [okC_iff']; have := a3 b hb; omega

theorem join_count {c p i : List UInt8} (h1 : alnumL c 2 10 = true) : 0 < (sumL (joinL c p i) 36 0).2 := by
  obtain ⟨l1, a1⟩ := alnum_of h1
  match c, l1, a1 with
  | b :: c', _, a1 =>
    have hv := a1 b (by simp)
    have e : joinL (b :: c') p i = b :: joinL c' p i := rfl
    rw [e, sumL, if_neg (by omega)]
    have := (sumL_count (joinL c' p i) (sumStep 36 (valI b.toNat)) (0 + 1)).1
    omega

theorem join_check {c p i : List UInt8} (h1 : alnumL c 2 10 = true) (h2 : alnumL p 3 0 = true) (h3 : alnumL i 9 0 = true) :
    checkE (joinL c p i) = 0 ∧ 48 ≤ checkC (joinL c p i) ∧ checkC (joinL c p i) ≤ 90 := by
  have hv := join_valid h1 h2 h3
  have hc := join_count (p := p) (i := i) h1
  have hr := sumL_range (joinL c p i) 36 0 (by omega)
  have hd : decide (0 < (sumL (joinL c p i) 36 0).2) = true := by simpa using hc
  have he : checkE (joinL c p i) = 0 := by unfold checkE; rw [hv, hd]; rfl
  have hx : checkC (joinL c p i) = chrI ((37 - (sumL (joinL c p i) 36 0).1) % 36) := by unfold checkC; rw [hv, hd]; rfl
  rw [he, hx]
  unfold chrI
  refine ⟨rfl, ?_, ?_⟩ <;> split <;> omega

/-- the parts of a contract identifier -/
def formL (l : List UInt8) : Bool :=
  decide (l.length = 18) && (l.getD 2 0 == 45 && (l.getD 6 0 == 45 && (l.getD 16 0 == 45 &&
    (alnumL (l.take 2) 2 10 && (alnumL ((l.drop 3).take 3) 3 0 && (alnumL ((l.drop 7).take 9) 9 0 && alnumL (l.drop 17) 1 0))))))
def sumOK (l : List UInt8) : Bool := checkC (l.take 16) == capI ((l.getD 17 0).toNat : Int)
def parseE (l : List UInt8) : Int := if formL l then (if sumOK l then 0 else 7) else 5
def parseOK (l : List UInt8) : Bool := formL l && sumOK l

/-- a list of 18 with its dashes is joined of its parts -/
theorem form_split {l : List UInt8} (hl : l.length = 18) (h2 : l.getD 2 0 = 45) (h6 : l.getD 6 0 = 45) (h16 : l.getD 16 0 = 45) :
    l.take 16 = joinL (l.take 2) ((l.drop 3).take 3) ((l.drop 7).take 9) ∧ l = l.take 16 ++ [45] ++ [l.getD 17 0] := by
  match l, hl with
  | [b0, b1, b2, b3, b4, b5, b6, b7, b8, b9, b10, b11, b12, b13, b14, b15, b16, b17], _ =>
    simp at h2 h6 h16
    subst h2; subst h6; subst h16
    exact ⟨rfl, rfl⟩

end Go.Proofs.YtidmikodihkapaaDoor
