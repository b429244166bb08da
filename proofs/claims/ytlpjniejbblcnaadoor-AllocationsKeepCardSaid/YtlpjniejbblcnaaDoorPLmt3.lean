/-
  Plain functions of limits: the error of rules; caps as rows; what the loops find. No program is named here.
-/
import Derived.Test.YtlpjniejbblcnaaDoorCurAt
import Derived.Test.YtlpjniejbblcnaaDoorPConE
import Derived.Test.YtlpjniejbblcnaaDoorM1
import Derived.Test.YtlpjniejbblcnaaDoorM3
namespace Go.Proofs.YtlpjniejbblcnaaDoor
open Go.RowKit
set_option linter.unusedVariables false

structure RulR where
  S : SiteR
  z : ZoneR
  C : List ConR
  U : List CurR
def rateF (f : Feed) : Int := f.a + f.b + f.c
def RulR.lim (r : RulR) : LimR := ⟨r.S.F.map rateF, r.C, r.U, r.z⟩
def nameLe (a b : ByteArray) : Bool := Op.bytesLess a.toList b.toList || a.toList == b.toList
/-- the error of the contract k -/
def conAtE (C : List ConR) (n k : Nat) : Int := match C[k]? with
  | some c => if conE c n ≠ 0 then conE c n else if (C.take k).any (fun d => sameS d.nm c.nm) = true then 9 else 0
  | none => 0
/-- the error of the grid event k -/
def curAtE (U : List CurR) (n k : Nat) : Int := match U[k]? with
  | some u => if curE u n ≠ 0 then curE u n else (match k with | 0 => 0 | j + 1 => match U[j]? with | some v => if nameLe u.nm v.nm = true then 1 else 0 | none => 0)
  | none => 0
theorem conAtE_eq {C : List ConR} {n k : Nat} (h : k < C.length) : conAtE C n k = if conE C[k] n ≠ 0 then conE C[k] n else if (C.take k).any (fun d => sameS d.nm C[k].nm) = true then 9 else 0 := by
  simp only [conAtE, List.getElem?_eq_getElem h]
theorem conAtE_bad {C : List ConR} {n k : Nat} (h : k < C.length) (e : conE C[k] n ≠ 0) : conAtE C n k = conE C[k] n := by rw [conAtE_eq h, if_pos e]
theorem conAtE_two {C : List ConR} {n k : Nat} (h : k < C.length) (e : conE C[k] n = 0) (g : (C.take k).any (fun d => sameS d.nm C[k].nm) = true) : conAtE C n k = 9 := by rw [conAtE_eq h, if_neg (by rw [e]; decide), if_pos g]
theorem conAtE_ok {C : List ConR} {n k : Nat} (h : k < C.length) (e : conE C[k] n = 0) (g : (C.take k).any (fun d => sameS d.nm C[k].nm) = false) : conAtE C n k = 0 := by rw [conAtE_eq h, if_neg (by rw [e]; decide), if_neg (by rw [g]; decide)]
theorem curAtE_bad {U : List CurR} {n k : Nat} (h : k < U.length) (e : curE U[k] n ≠ 0) : curAtE U n k = curE U[k] n := by
  simp only [curAtE, List.getElem?_eq_getElem h]; rw [if_pos e]
theorem curAtE_zero {U : List CurR} {n : Nat} (h : 0 < U.length) (e : curE U[0] n = 0) : curAtE U n 0 = 0 := by
  simp only [curAtE, List.getElem?_eq_getElem h]; rw [if_neg (by rw [e]; decide)]
theorem curAtE_two {U : List CurR} {n j : Nat} (h : j + 1 < U.length) (e : curE U[j + 1] n = 0) (g : nameLe U[j + 1].nm U[j].nm = true) : curAtE U n (j + 1) = 1 := by
  simp only [curAtE, List.getElem?_eq_getElem h, List.getElem?_eq_getElem (show j < U.length by omega)]; rw [if_neg (by rw [e]; decide), if_pos g]
theorem curAtE_ok {U : List CurR} {n j : Nat} (h : j + 1 < U.length) (e : curE U[j + 1] n = 0) (g : nameLe U[j + 1].nm U[j].nm = false) : curAtE U n (j + 1) = 0 := by
  simp only [curAtE, List.getElem?_eq_getElem h, List.getElem?_eq_getElem (show j < U.length by omega)]; rw [if_neg (by rw [e]; decide), if_neg (by rw [g]; decide)]
/-- the error of rules -/
def limE (r : RulR) : Int :=
  if siteE r.S ≠ 0 then siteE r.S else if zoneB r.z = false then 1 else if 16 < r.C.length then 3
  else if firstE (conAtE r.C r.S.F.length) r.C.length ≠ 0 then firstE (conAtE r.C r.S.F.length) r.C.length
  else if 64 < r.U.length then 3 else firstE (curAtE r.U r.S.F.length) r.U.length
theorem limE_site {r : RulR} (h : siteE r.S ≠ 0) : limE r = siteE r.S := if_pos h
theorem limE_zone {r : RulR} (h : siteE r.S = 0) (hz : zoneB r.z = false) : limE r = 1 := by unfold limE; rw [if_neg (by rw [h]; decide), if_pos hz]
theorem limE_many {r : RulR} (h : siteE r.S = 0) (hz : zoneB r.z = true) (hn : 16 < r.C.length) : limE r = 3 := by unfold limE; rw [if_neg (by rw [h]; decide), if_neg (by rw [hz]; decide), if_pos hn]
theorem limE_con {r : RulR} (h : siteE r.S = 0) (hz : zoneB r.z = true) (hn : ¬ 16 < r.C.length) {k : Nat} (hk : k < r.C.length) (h0 : firstE (conAtE r.C r.S.F.length) k = 0) (he : conAtE r.C r.S.F.length k ≠ 0) : limE r = conAtE r.C r.S.F.length k := by
  have := firstE_stop h0 he hk
  unfold limE
  rw [if_neg (by rw [h]; decide), if_neg (by rw [hz]; decide), if_neg hn, this, if_pos he]
theorem limE_events {r : RulR} (h : siteE r.S = 0) (hz : zoneB r.z = true) (hn : ¬ 16 < r.C.length) (hC : firstE (conAtE r.C r.S.F.length) r.C.length = 0) (hu : 64 < r.U.length) : limE r = 3 := by
  unfold limE
  rw [if_neg (by rw [h]; decide), if_neg (by rw [hz]; decide), if_neg hn, if_neg (by rw [hC]; decide), if_pos hu]
theorem limE_cur {r : RulR} (h : siteE r.S = 0) (hz : zoneB r.z = true) (hn : ¬ 16 < r.C.length) (hC : firstE (conAtE r.C r.S.F.length) r.C.length = 0) (hu : ¬ 64 < r.U.length) {k : Nat} (hk : k < r.U.length) (h0 : firstE (curAtE r.U r.S.F.length) k = 0) (he : curAtE r.U r.S.F.length k ≠ 0) : limE r = curAtE r.U r.S.F.length k := by
  have := firstE_stop h0 he hk
  unfold limE
  rw [if_neg (by rw [h]; decide), if_neg (by rw [hz]; decide), if_neg hn, if_neg (by rw [hC]; decide), if_neg hu, this]
theorem limE_done {r : RulR} (h : siteE r.S = 0) (hz : zoneB r.z = true) (hn : ¬ 16 < r.C.length) (hC : firstE (conAtE r.C r.S.F.length) r.C.length = 0) (hu : ¬ 64 < r.U.length) (hU : firstE (curAtE r.U r.S.F.length) r.U.length = 0) : limE r = 0 := by
  unfold limE
  rw [if_neg (by rw [h]; decide), if_neg (by rw [hz]; decide), if_neg hn, if_neg (by rw [hC]; decide), if_neg hu, hU]

theorem firstE_zero {g : Nat → Int} : ∀ {n : Nat}, firstE g n = 0 ↔ ∀ k, k < n → g k = 0
  | 0 => ⟨fun _ k hk => absurd hk (by omega), fun _ => rfl⟩
  | n + 1 => by
    constructor
    · intro h k hk
      by_cases e : firstE g n = 0
      · rw [firstE_step e] at h
        by_cases hkn : k = n
        · rw [hkn]; exact h
        · exact firstE_zero.1 e k (by omega)
      · unfold firstE at h; rw [if_pos e] at h; exact absurd h e
    · intro h
      rw [firstE_step (firstE_zero.2 fun k hk => h k (by omega))]
      exact h n (by omega)
/-- valid rules -/
structure RulOk (r : RulR) : Prop where
  site : siteE r.S = 0
  zone : zoneB r.z = true
  cn : r.C.length ≤ 16
  un : r.U.length ≤ 64
  con : ∀ k (h : k < r.C.length), conE r.C[k] r.S.F.length = 0 ∧ (r.C.take k).any (fun d => sameS d.nm r.C[k].nm) = false
  cur : ∀ k (h : k < r.U.length), curE r.U[k] r.S.F.length = 0
  ord : ∀ k (h : k + 1 < r.U.length), nameLe r.U[k + 1].nm r.U[k].nm = false
theorem limE_zero {r : RulR} : limE r = 0 ↔ RulOk r := by
  constructor
  · intro h
    by_cases a : siteE r.S = 0
    · cases b : zoneB r.z with
      | false => rw [limE_zone a b] at h; cases h
      | true =>
        by_cases c : 16 < r.C.length
        · rw [limE_many a b c] at h; cases h
        · by_cases d : firstE (conAtE r.C r.S.F.length) r.C.length = 0
          · by_cases e : 64 < r.U.length
            · rw [limE_events a b c d e] at h; cases h
            · have f : firstE (curAtE r.U r.S.F.length) r.U.length = 0 := by
                unfold limE at h
                rw [if_neg (by rw [a]; decide), if_neg (by rw [b]; decide), if_neg c, if_neg (by rw [d]; decide), if_neg e] at h
                exact h
              have d' := firstE_zero.1 d
              have f' := firstE_zero.1 f
              have cu : ∀ k (h : k < r.U.length), curE r.U[k] r.S.F.length = 0 := fun k hk => by
                apply Classical.byContradiction
                intro g
                have := f' k hk
                rw [curAtE_bad hk g] at this
                exact g this
              refine ⟨a, b, by omega, by omega, fun k hk => ?_, cu, fun k hk => ?_⟩
              · have := d' k hk
                rw [conAtE_eq hk] at this
                split at this
                · rename_i g; exact absurd this g
                · rename_i g
                  refine ⟨Classical.not_not.1 g, ?_⟩
                  split at this
                  · cases this
                  · rename_i q; simpa using q
              · cases q : nameLe r.U[k + 1].nm r.U[k].nm with
                | false => rfl
                | true =>
                  have := f' (k + 1) hk
                  rw [curAtE_two hk (cu _ hk) q] at this
                  cases this
          · exfalso
            unfold limE at h
            rw [if_neg (by rw [a]; decide), if_neg (by rw [b]; decide), if_neg c, if_pos d] at h
            exact d h
    · rw [limE_site a] at h; exact absurd h a
  · rintro ⟨a, b, c, d, e, f, g⟩
    refine limE_done a b (by omega) (firstE_zero.2 fun k hk => conAtE_ok hk (e k hk).1 (e k hk).2) (by omega) (firstE_zero.2 fun k hk => ?_)
    match k, hk with
    | 0, hk => exact curAtE_zero hk (f 0 hk)
    | k + 1, hk => exact curAtE_ok hk (f _ hk) (g k hk)
theorem curE_zero {x : CurR} {n : Nat} (h : curE x n = 0) : 1 ≤ x.ver ∧ 0 ≤ x.fd ∧ x.fd < n ∧ 0 ≤ x.tot ∧ x.tot ≤ 1073741824 ∧ 0 ≤ x.fr ∧ x.fr ≤ x.to ∧ x.to ≤ 268435456 := by
  unfold curE at h
  split at h
  · cases h
  · split at h
    · cases h
    · omega
theorem conE_zero {x : ConR} {n : Nat} (h : conE x n = 0) : 0 ≤ x.fd ∧ x.fd < n ∧ 0 ≤ x.tot ∧ x.tot ≤ 1073741824 := by
  unfold conE at h
  split at h
  · cases h
  · split at h
    · cases h
    · omega
/-- without its first contract and its first grid event it is valid, too -/
theorem RulOk.drop {r : RulR} (h : RulOk r) : RulOk ⟨r.S, r.z, r.C.drop 1, r.U.drop 1⟩ := by
  obtain ⟨a, b, c, d, e, f, g⟩ := h
  refine ⟨a, b, by simp; omega, by simp; omega, fun k hk => ?_, fun k hk => ?_, fun k hk => ?_⟩
  · simp only [List.length_drop] at hk
    have := e (1 + k) (by omega)
    simp only [List.getElem_drop]
    refine ⟨this.1, ?_⟩
    rw [List.any_eq_false] at this ⊢
    intro x hx
    refine this.2 x ?_
    rw [List.take_drop] at hx
    exact List.mem_of_mem_drop hx
  · simp only [List.length_drop] at hk
    simp only [List.getElem_drop]
    exact f (1 + k) (by omega)
  · simp only [List.length_drop] at hk
    simp only [List.getElem_drop]
    have := g (1 + k) (by omega)
    simpa [Nat.add_assoc] using this

/-- the cap of a feeder -/
noncomputable def capFd (r : RulR) (t : Int) (f : Feed) (i : Int) : CapR := ⟨f.a, f.b, f.c, capF r.lim i t⟩
/-- the caps of all feeders -/
noncomputable def capsL (r : RulR) (t : Int) : List CapR := (List.range r.S.F.length).map (fun i => capFd r t (r.S.F.getD i ⟨ByteArray.empty, 0, 0, 0, 0⟩) i)
theorem capsL_len (r : RulR) (t : Int) : (capsL r t).length = r.S.F.length := by simp [capsL]
theorem capsL_get {r : RulR} {t : Int} {i : Nat} (h : i < r.S.F.length) : (capsL r t)[i]? = some (capFd r t r.S.F[i] i) := by
  simp [capsL, h]
theorem capsL_at {r : RulR} {t : Int} {i : Nat} (h : i < (capsL r t).length) : (capsL r t)[i] = capFd r t (r.S.F[i]'(by rw [capsL_len] at h; exact h)) i := by
  have := capsL_get (r := r) (t := t) (i := i) (by rw [capsL_len] at h; exact h)
  rw [List.getElem?_eq_getElem h] at this
  exact Option.some.inj this
theorem capsL_eq {r : RulR} {t u : Int} : capsL r t = capsL r u ↔ ∀ i : Nat, i < r.S.F.length → capF r.lim i t = capF r.lim i u := by
  constructor
  · intro h i hi
    have h1 := capsL_get (r := r) (t := t) hi
    rw [h, capsL_get hi] at h1
    have := Option.some.inj h1
    unfold capFd at this
    injection this with _ _ _ h4
    exact h4.symm
  · intro h
    refine List.ext_getElem? fun i => ?_
    by_cases hi : i < r.S.F.length
    · rw [capsL_get hi, capsL_get hi]; unfold capFd; rw [h i hi]
    · rw [List.getElem?_eq_none (by rw [capsL_len]; omega), List.getElem?_eq_none (by rw [capsL_len]; omega)]
theorem difR_caps {r : RulR} {t : Int} : difR r.lim t = false ↔ capsL r t = capsL r (t - 1) := by
  rw [difR_false, capsL_eq]
  have : r.lim.R.length = r.S.F.length := by simp [RulR.lim]
  rw [this]
theorem totF_at {r : RulR} {i : Nat} (h : i < r.S.F.length) (t : Int) : totF r.lim i t = min (rateF r.S.F[i]) (uAt r.U i t) := by
  unfold totF RulR.lim
  simp [h]

/-- what Path returns -/
noncomputable def pathA (r : RulR) (f t : Int) : Int :=
  if limE r ≠ 0 ∨ t < 0 ∨ 268435456 < t ∨ f < 0 ∨ (r.S.F.length : Int) ≤ f then 0
  else (pathL r.S.F r.S.F.length f).foldl (fun n (k : Nat) => min n (capF r.lim k t)) (capF r.lim f t)

end Go.Proofs.YtlpjniejbblcnaaDoor
