/-
  Plain facts: what a valid site is; phases that are masked.
-/
import Derived.Test.YtkjggfhbnhpdnaaDoorPSite2
namespace Go.Proofs.YtkjggfhbnhpdnaaDoor
set_option linter.unusedVariables false

/-- a number that a cell may hold -/
def I64 (n : Int) : Prop := (Lit.int .i64 n).wf = true
theorem I64.bd {n : Int} (h : I64 n) : -9223372036854775808 ≤ n ∧ n ≤ 9223372036854775807 := by
  unfold I64 at h
  have h2 : (decide (IntKind.i64.min ≤ n) && decide (n ≤ IntKind.i64.max)) = true := h
  simp only [Bool.and_eq_true, decide_eq_true_eq] at h2
  exact ⟨h2.1, h2.2⟩

theorem mask_bd {a b : Int} (h : bits .andNot .i64 a b = 0) (hb0 : 0 ≤ b) (hb7 : b ≤ 7) (ha : I64 a) : 0 ≤ a ∧ a ≤ 7 := by
  obtain ⟨h1, h2⟩ := ha.bd
  have h3 : IntKind.i64.wrap ((BitVec.ofInt 64 a &&& ~~~ BitVec.ofInt 64 b).toNat : Nat) = 0 := h
  rw [IntKind.wrap_i64] at h3
  have hlt := (BitVec.ofInt 64 a &&& ~~~ BitVec.ofInt 64 b).isLt
  have h0 : (BitVec.ofInt 64 a &&& ~~~ BitVec.ofInt 64 b).toNat = 0 := by omega
  have hz : BitVec.ofInt 64 a &&& ~~~ BitVec.ofInt 64 b = 0#64 := BitVec.eq_of_toNat_eq (by simpa using h0)
  have he : BitVec.ofInt 64 a = BitVec.ofInt 64 a &&& BitVec.ofInt 64 b := by
    apply BitVec.eq_of_getLsbD_eq
    intro i hi
    have := congrArg (fun x => x.getLsbD i) hz
    simp only [BitVec.getLsbD_and, BitVec.getLsbD_not, BitVec.getLsbD_zero, hi, decide_true, Bool.true_and] at this ⊢
    cases hA : (BitVec.ofInt 64 a).getLsbD i <;> cases hB : (BitVec.ofInt 64 b).getLsbD i <;> simp_all
  have hn : (BitVec.ofInt 64 a).toNat ≤ (BitVec.ofInt 64 b).toNat := by
    rw [he, BitVec.toNat_and]
    exact Nat.and_le_right
  rw [BitVec.toNat_ofInt, BitVec.toNat_ofInt] at hn
  omega

theorem firstE_all {g : Nat → Int} : ∀ {n : Nat}, firstE g n = 0 → ∀ k, k < n → g k = 0
  | 0, _, k, hk => by omega
  | n + 1, h, k, hk => by
    unfold firstE at h
    split at h
    · rename_i h1; exact absurd h h1
    · rename_i h1
      rcases Nat.lt_or_ge k n with hlt | hge
      · exact firstE_all (by simpa using h1) k hlt
      · have : k = n := by omega
        subst this; exact h

structure SiteOk (S : SiteR) : Prop where
  lF : S.F.length ≤ 32
  lP : S.P.length ≤ 32
  par : ∀ k (h : k < S.F.length), -1 ≤ S.F[k].parent ∧ S.F[k].parent < (k : Int)
  pnt : ∀ k (h : k < S.P.length), 0 ≤ S.P[k].feeder ∧ S.P[k].feeder < (S.F.length : Int) ∧ 1 ≤ S.P[k].phases ∧ S.P[k].phases ≤ 7
  pow : ∀ k (h : k < S.P.length), 0 ≤ S.P[k].rated ∧ S.P[k].rated ≤ 1048576 ∧ 0 ≤ S.P[k].least ∧ S.P[k].least ≤ S.P[k].rated
  rat : ∀ k (h : k < S.F.length), 0 ≤ S.F[k].a ∧ S.F[k].a ≤ 1048576 ∧ 0 ≤ S.F[k].b ∧ S.F[k].b ≤ 1048576 ∧ 0 ≤ S.F[k].c ∧ S.F[k].c ≤ 1048576

theorem feedE_zero {ks : List (List UInt8)} {i : Int} {f : Feed} (h : feedE ks i f = 0) : ¬ (f.parent < -1 ∨ i ≤ f.parent) ∧ (powB f.a && (powB f.b && powB f.c)) = true := by
  unfold feedE at h
  split at h
  · rename_i h1; exact absurd h h1
  · split at h
    · simp at h
    · rename_i h2
      split at h
      · simp at h
      · rename_i h3; exact ⟨h2, by simpa using h3⟩
theorem pntE_zero {ks : List (List UInt8)} {n : Int} {p : Pnt} (h : pntE ks n p = 0) : ¬ (p.feeder < 0 ∨ n ≤ p.feeder ∨ p.phases < 1 ∨ 7 < p.phases) ∧ ¬ (powB p.rated = false ∨ p.least < 0 ∨ p.rated < p.least) := by
  unfold pntE at h
  split at h
  · rename_i h1; exact absurd h h1
  · split at h
    · simp at h
    · rename_i h2
      split at h
      · simp at h
      · rename_i h3; exact ⟨h2, h3⟩
theorem powB_iff {n : Int} : powB n = true ↔ 0 ≤ n ∧ n ≤ 1048576 := by simp [powB]

theorem siteE_ok {S : SiteR} (h : siteE S = 0) : SiteOk S := by
  unfold siteE at h
  split at h
  · simp at h
  · split at h
    · simp at h
    · rename_i hl
      split at h
      · rename_i h1; exact absurd h h1
      · rename_i h1
        have hF := firstE_all (by simpa using h1 : firstE (feedAt S.F) S.F.length = 0)
        have hP := firstE_all h
        refine ⟨by omega, by omega, fun k hk => ?_, fun k hk => ?_, fun k hk => ?_, fun k hk => ?_⟩
        · have := hF k hk
          rw [feedAt_eq hk] at this
          have := (feedE_zero this).1
          omega
        · have := hP k hk
          rw [pntAt_eq hk] at this
          have := (pntE_zero this).1
          omega
        · have := hP k hk
          rw [pntAt_eq hk] at this
          have h2 := (pntE_zero this).2
          have h3 : powB S.P[k].rated = true := by
            cases hh : powB S.P[k].rated
            · exact absurd (.inl hh) h2
            · rfl
          have h4 := powB_iff.1 h3
          have h5 : ¬ (S.P[k].least < 0 ∨ S.P[k].rated < S.P[k].least) := fun hh => h2 (.inr hh)
          omega
        · have := hF k hk
          rw [feedAt_eq hk] at this
          have h2 := (feedE_zero this).2
          simp only [Bool.and_eq_true] at h2
          have h3 := powB_iff.1 h2.1
          have h4 := powB_iff.1 h2.2.1
          have h5 := powB_iff.1 h2.2.2
          exact ⟨h3.1, h3.2, h4.1, h4.2, h5.1, h5.2⟩

/-- a want that is wrong, as the code asks -/
theorem want_code {S : SiteR} (hS : SiteOk S) {x : WantR × Int} (hi : I64 x.1.phases) {k : Nat} (hk : k < S.P.length) (e : x.1.point = k) :
    wantB S.P x = (!(x.1.phases == 0) && (maskB x.1.phases S.P[k].phases && powB x.2)) := by
  have hp := hS.pnt k hk
  have hf : S.P[x.1.point.toNat]? = some S.P[k] := by rw [e, Int.toNat_natCast, List.getElem?_eq_getElem hk]
  unfold wantB
  rw [hf]
  simp only
  cases hm : maskB x.1.phases S.P[k].phases with
  | false => simp
  | true =>
    have hm' : bits .andNot .i64 x.1.phases S.P[k].phases = 0 := by unfold maskB at hm; simpa using hm
    have hb := mask_bd hm' (by omega) (by omega) hi
    have h1 : (0 ≤ x.1.point) := by omega
    by_cases hz : x.1.phases = 0
    · simp [hz]
    · have e1 : decide (0 ≤ x.1.point) = true := by simpa using h1
      have e2 : decide (1 ≤ x.1.phases) = true := by simp; omega
      have e3 : decide (x.1.phases ≤ 7) = true := by simp; omega
      have e4 : (x.1.phases == 0) = false := by simpa using hz
      rw [e1, e2, e3, e4]
      rfl
theorem want_out {P : List Pnt} {x : WantR × Int} (h : x.1.point < 0 ∨ (P.length : Int) ≤ x.1.point) : wantB P x = false := by
  unfold wantB
  rcases h with h | h
  · split
    · have : ¬ 0 ≤ x.1.point := by omega
      simp [this]
    · rfl
  · rw [List.getElem?_eq_none (by omega)]

/-- a feeder is on the path of what lies below it -/
theorem path_up {S : SiteR} (hS : SiteOk S) {last : Nat} {i0 : Int} {f p : Nat} (hf : f < S.F.length) (hl : last ≤ S.F.length) (he : S.F[f].parent = (p : Int)) : f ∈ pathL S.F last i0 → p ∈ pathL S.F last i0 := by
  induction last using Nat.strongRecOn generalizing i0 with
  | _ last ih =>
    intro h
    rw [pathL] at h ⊢
    split at h
    · rename_i hi
      rw [dif_pos hi]
      have hk : i0.toNat < S.F.length := by omega
      rw [List.getElem?_eq_getElem hk] at h ⊢
      simp only at h ⊢
      rcases List.mem_cons.1 h with h | h
      · subst h
        refine List.mem_cons_of_mem _ ?_
        have hpar := hS.par _ hk
        rw [he, pathL, dif_pos (by omega)]
        simp
      · exact List.mem_cons_of_mem _ (ih _ (by omega) (by omega) h)
    · simp at h

end Go.Proofs.YtkjggfhbnhpdnaaDoor
