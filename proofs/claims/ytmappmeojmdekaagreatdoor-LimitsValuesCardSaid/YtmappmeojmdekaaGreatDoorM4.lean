/-
  Plain functions of limits: the error of rules; caps as rows; what the loops find. No program is named here.
  Plain functions of windows: the minutes at which a window may begin or end, ascending. No program is named here.
  Plain functions of limits: what the loops find. No program is named here.
  Regions that draw their order beside calls that make memory: one walk, in the order of the text, in any world in which the old memory reads as it did. No program is named here.
  Walks: check characters, in package ident and in its reference.
  Walks: capitals and comparisons, in package ident and in its reference.
  Walks: differs of package curtail; At and Valid of its reference.
-/
import Derived.Test.YtmappmeojmdekaaGreatDoorM3
import Derived.Test.YtmappmeojmdekaaGreatDoorM1
import Derived.Lib.SlicesCompact
import Derived.Deep.RegionWith
import Derived.Deep.DrawnRows

namespace Go.Proofs.YtmappmeojmdekaaGreatDoor
open Go.RowKit
set_option linter.unusedVariables false

structure RulR where
  S : SiteR
  z : ZoneR
  C : List ConR
  U : List CurR
def rateF (f : Feed) : Int := f.a + f.b + f.c
def RulR.lim (r : RulR) : LimR := ⟨r.S.F.map rateF, r.C, r.U, r.z⟩
def nameLe (a b : ByteArray) : Bool := Op.bytesLess a.toList b.toList || a.toList == b.toList
/-- the error of the contract k -/
def conAtE (C : List ConR) (n k : Nat) : Int := match C[k]? with
  | some c => if conE c n ≠ 0 then conE c n else if (C.take k).any (fun d => sameS d.nm c.nm) = true then 9 else 0
  | none => 0
/-- the error of the grid event k -/
def curAtE (U : List CurR) (n k : Nat) : Int := match U[k]? with
  | some u => if curE u n ≠ 0 then curE u n else (match k with | 0 => 0 | j + 1 => match U[j]? with | some v => if nameLe u.nm v.nm = true then 1 else 0 | none => 0)
  | none => 0
theorem conAtE_eq {C : List ConR} {n k : Nat} (h : k < C.length) : conAtE C n k = if conE C[k] n ≠ 0 then conE C[k] n else if (C.take k).any (fun d => sameS d.nm C[k].nm) = true then 9 else 0 := by
  simp only [conAtE, List.getElem?_eq_getElem h]
theorem conAtE_bad {C : List ConR} {n k : Nat} (h : k < C.length) (e : conE C[k] n ≠ 0) : conAtE C n k = conE C[k] n := by rw [conAtE_eq h, if_pos e]
theorem conAtE_two {C : List ConR} {n k : Nat} (h : k < C.length) (e : conE C[k] n = 0) (g : (C.take k).any (fun d => sameS d.nm C[k].nm) = true) : conAtE C n k = 9 := by rw [conAtE_eq h, if_neg (by rw [e]; decide), if_pos g]
theorem conAtE_ok {C : List ConR} {n k : Nat} (h : k < C.length) (e : conE C[k] n = 0) (g : (C.take k).any (fun d => sameS d.nm C[k].nm) = false) : conAtE C n k = 0 := by rw [conAtE_eq h, if_neg (by rw [e]; decide), if_neg (by rw [g]; decide)]
theorem curAtE_bad {U : List CurR} {n k : Nat} (h : k < U.length) (e : curE U[k] n ≠ 0) : curAtE U n k = curE U[k] n := by
  simp only [curAtE, List.getElem?_eq_getElem h]; rw [if_pos e]
theorem curAtE_zero {U : List CurR} {n : Nat} (h : 0 < U.length) (e : curE U[0] n = 0) : curAtE U n 0 = 0 := by
  simp only [curAtE, List.getElem?_eq_getElem h]; rw [if_neg (by rw [e]; decide)]
theorem curAtE_two {U : List CurR} {n j : Nat} (h : j + 1 < U.length) (e : curE U[j + 1] n = 0) (g : nameLe U[j + 1].nm U[j].nm = true) : curAtE U n (j + 1) = 1 := by
  simp only [curAtE, List.getElem?_eq_getElem h, List.getElem?_eq_getElem (show j < U.length by omega)]; rw [if_neg (by rw [e]; decide), if_pos g]
theorem curAtE_ok {U : List CurR} {n j : Nat} (h : j + 1 < U.length) (e : curE U[j + 1] n = 0) (g : nameLe U[j + 1].nm U[j].nm = false) : curAtE U n (j + 1) = 0 := by
  simp only [curAtE, List.getElem?_eq_getElem h, List.getElem?_eq_getElem (show j < U.length by omega)]; rw [if_neg (by rw [e]; decide), if_neg (by rw [g]; decide)]
/-- the error of rules -/
def limE (r : RulR) : Int :=
  if siteE r.S ≠ 0 then siteE r.S else if zoneB r.z = false then 1 else if 16 < r.C.length then 3
  else if firstE (conAtE r.C r.S.F.length) r.C.length ≠ 0 then firstE (conAtE r.C r.S.F.length) r.C.length
  else if 64 < r.U.length then 3 else firstE (curAtE r.U r.S.F.length) r.U.length
theorem limE_site {r : RulR} (h : siteE r.S ≠ 0) : limE r = siteE r.S := if_pos h
theorem limE_zone {r : RulR} (h : siteE r.S = 0) (hz : zoneB r.z = false) : limE r = 1 := by unfold limE; rw [if_neg (by rw [h]; decide), if_pos hz]
theorem limE_many {r : RulR} (h : siteE r.S = 0) (hz : zoneB r.z = true) (hn : 16 < r.C.length) : limE r = 3 := by unfold limE; rw [if_neg (by rw [h]; decide), if_neg (by rw [hz]; decide), if_pos hn]
theorem limE_con {r : RulR} (h : siteE r.S = 0) (hz : zoneB r.z = true) (hn : ¬ 16 < r.C.length) {k : Nat} (hk : k < r.C.length) (h0 : firstE (conAtE r.C r.S.F.length) k = 0) (he : conAtE r.C r.S.F.length k ≠ 0) : limE r = conAtE r.C r.S.F.length k := by
  have := firstE_stop h0 he hk
  unfold limE
  rw [if_neg (by rw [h]; decide), if_neg (by rw [hz]; decide), if_neg hn, this, if_pos he]
theorem limE_events {r : RulR} (h : siteE r.S = 0) (hz : zoneB r.z = true) (hn : ¬ 16 < r.C.length) (hC : firstE (conAtE r.C r.S.F.length) r.C.length = 0) (hu : 64 < r.U.length) : limE r = 3 := by
  unfold limE
  rw [if_neg (by rw [h]; decide), if_neg (by rw [hz]; decide), if_neg hn, if_neg (by rw [hC]; decide), if_pos hu]
theorem limE_cur {r : RulR} (h : siteE r.S = 0) (hz : zoneB r.z = true) (hn : ¬ 16 < r.C.length) (hC : firstE (conAtE r.C r.S.F.length) r.C.length = 0) (hu : ¬ 64 < r.U.length) {k : Nat} (hk : k < r.U.length) (h0 : firstE (curAtE r.U r.S.F.length) k = 0) (he : curAtE r.U r.S.F.length k ≠ 0) : limE r = curAtE r.U r.S.F.length k := by
  have := firstE_stop h0 he hk
  unfold limE
  rw [if_neg (by rw [h]; decide), if_neg (by rw [hz]; decide), if_neg hn, if_neg (by rw [hC]; decide), if_neg hu, this]
theorem limE_done {r : RulR} (h : siteE r.S = 0) (hz : zoneB r.z = true) (hn : ¬ 16 < r.C.length) (hC : firstE (conAtE r.C r.S.F.length) r.C.length = 0) (hu : ¬ 64 < r.U.length) (hU : firstE (curAtE r.U r.S.F.length) r.U.length = 0) : limE r = 0 := by
  unfold limE
  rw [if_neg (by rw [h]; decide), if_neg (by rw [hz]; decide), if_neg hn, if_neg (by rw [hC]; decide), if_neg hu, hU]

theorem firstE_zero {g : Nat → Int} : ∀ {n : Nat}, firstE g n = 0 ↔ ∀ k, k < n → g k = 0
  | 0 => ⟨fun _ k hk => absurd hk (by omega), fun _ => rfl⟩
  | n + 1 => by
    constructor
    · intro h k hk
      by_cases e : firstE g n = 0
      · rw [firstE_step e] at h
        by_cases hkn : k = n
        · rw [hkn]; exact h
        · exact firstE_zero.1 e k (by omega)
      · unfold firstE at h; rw [if_pos e] at h; exact absurd h e
    · intro h
      rw [firstE_step (firstE_zero.2 fun k hk => h k (by omega))]
      exact h n (by omega)
/-- valid rules -/
structure RulOk (r : RulR) : Prop where
  site : siteE r.S = 0
  zone : zoneB r.z = true
  cn : r.C.length ≤ 16
  un : r.U.length ≤ 64
  con : ∀ k (h : k < r.C.length), conE r.C[k] r.S.F.length = 0 ∧ (r.C.take k).any (fun d => sameS d.nm r.C[k].nm) = false
  cur : ∀ k (h : k < r.U.length), curE r.U[k] r.S.F.length = 0
  ord : ∀ k (h : k + 1 < r.U.length), nameLe r.U[k + 1].nm r.U[k].nm = false
theorem limE_zero {r : RulR} : limE r = 0 ↔ RulOk r := by
  constructor
  · intro h
    by_cases a : siteE r.S = 0
    · cases b : zoneB r.z with
      | false => rw [limE_zone a b] at h; cases h
      | true =>
        by_cases c : 16 < r.C.length
        · rw [limE_many a b c] at h; cases h
        · by_cases d : firstE (conAtE r.C r.S.F.length) r.C.length = 0
          · by_cases e : 64 < r.U.length
            · rw [limE_events a b c d e] at h; cases h
            · have f : firstE (curAtE r.U r.S.F.length) r.U.length = 0 := by
                unfold limE at h
                rw [if_neg (by rw [a]; decide), if_neg (by rw [b]; decide), if_neg c, if_neg (by rw [d]; decide), if_neg e] at h
                exact h
              have d' := firstE_zero.1 d
              have f' := firstE_zero.1 f
              have cu : ∀ k (h : k < r.U.length), curE r.U[k] r.S.F.length = 0 := fun k hk => by
                apply Classical.byContradiction
                intro g
                have := f' k hk
                rw [curAtE_bad hk g] at this
                exact g this
              refine ⟨a, b, by omega, by omega, fun k hk => ?_, cu, fun k hk => ?_⟩
              · have := d' k hk
                rw [conAtE_eq hk] at this
                split at this
                · rename_i g; exact absurd this g
                · rename_i g
                  refine ⟨Classical.not_not.1 g, ?_⟩
                  split at this
                  · cases this
                  · rename_i q; simpa using q
              · cases q : nameLe r.U[k + 1].nm r.U[k].nm with
                | false => rfl
                | true =>
                  have := f' (k + 1) hk
                  rw [curAtE_two hk (cu _ hk) q] at this
                  cases this
          · exfalso
            unfold limE at h
            rw [if_neg (by rw [a]; decide), if_neg (by rw [b]; decide), if_neg c, if_pos d] at h
            exact d h
    · rw [limE_site a] at h; exact absurd h a
  · rintro ⟨a, b, c, d, e, f, g⟩
    refine limE_done a b (by omega) (firstE_zero.2 fun k hk => conAtE_ok hk (e k hk).1 (e k hk).2) (by omega) (firstE_zero.2 fun k hk => ?_)
    match k, hk with
    | 0, hk => exact curAtE_zero hk (f 0 hk)
    | k + 1, hk => exact curAtE_ok hk (f _ hk) (g k hk)
theorem curE_zero {x : CurR} {n : Nat} (h : curE x n = 0) : 1 ≤ x.ver ∧ 0 ≤ x.fd ∧ x.fd < n ∧ 0 ≤ x.tot ∧ x.tot ≤ 1073741824 ∧ 0 ≤ x.fr ∧ x.fr ≤ x.to ∧ x.to ≤ 268435456 := by
  unfold curE at h
  split at h
  · cases h
  · split at h
    · cases h
    · omega
theorem conE_zero {x : ConR} {n : Nat} (h : conE x n = 0) : 0 ≤ x.fd ∧ x.fd < n ∧ 0 ≤ x.tot ∧ x.tot ≤ 1073741824 := by
  unfold conE at h
  split at h
  · cases h
  · split at h
    · cases h
    · omega
/-- without its first contract and its first grid event it is valid, too -/
theorem RulOk.drop {r : RulR} (h : RulOk r) : RulOk ⟨r.S, r.z, r.C.drop 1, r.U.drop 1⟩ := by
  obtain ⟨a, b, c, d, e, f, g⟩ := h
  refine ⟨a, b, by simp; omega, by simp; omega, fun k hk => ?_, fun k hk => ?_, fun k hk => ?_⟩
  · simp only [List.length_drop] at hk
    have := e (1 + k) (by omega)
    simp only [List.getElem_drop]
    refine ⟨this.1, ?_⟩
    rw [List.any_eq_false] at this ⊢
    intro x hx
    refine this.2 x ?_
    rw [List.take_drop] at hx
    exact List.mem_of_mem_drop hx
  · simp only [List.length_drop] at hk
    simp only [List.getElem_drop]
    exact f (1 + k) (by omega)
  · simp only [List.length_drop] at hk
    simp only [List.getElem_drop]
    have := g (1 + k) (by omega)
    simpa [Nat.add_assoc] using this

/-- the cap of a feeder -/
noncomputable def capFd (r : RulR) (t : Int) (f : Feed) (i : Int) : CapR := ⟨f.a, f.b, f.c, capF r.lim i t⟩
/-- the caps of all feeders -/
noncomputable def capsL (r : RulR) (t : Int) : List CapR := (List.range r.S.F.length).map (fun i => capFd r t (r.S.F.getD i ⟨ByteArray.empty, 0, 0, 0, 0⟩) i)
theorem capsL_len (r : RulR) (t : Int) : (capsL r t).length = r.S.F.length := by simp [capsL]
theorem capsL_get {r : RulR} {t : Int} {i : Nat} (h : i < r.S.F.length) : (capsL r t)[i]? = some (capFd r t r.S.F[i] i) := by
  simp [capsL, h]
theorem capsL_at {r : RulR} {t : Int} {i : Nat} (h : i < (capsL r t).length) : (capsL r t)[i] = capFd r t (r.S.F[i]'(by rw [capsL_len] at h; exact h)) i := by
  have := capsL_get (r := r) (t := t) (i := i) (by rw [capsL_len] at h; exact h)
  rw [List.getElem?_eq_getElem h] at this
  exact Option.some.inj this
theorem capsL_eq {r : RulR} {t u : Int} : capsL r t = capsL r u ↔ ∀ i : Nat, i < r.S.F.length → capF r.lim i t = capF r.lim i u := by
  constructor
  · intro h i hi
    have h1 := capsL_get (r := r) (t := t) hi
    rw [h, capsL_get hi] at h1
    have := Option.some.inj h1
    unfold capFd at this
    injection this with _ _ _ h4
    exact h4.symm
  · intro h
    refine List.ext_getElem? fun i => ?_
    by_cases hi : i < r.S.F.length
    · rw [capsL_get hi, capsL_get hi]; unfold capFd; rw [h i hi]
    · rw [List.getElem?_eq_none (by rw [capsL_len]; omega), List.getElem?_eq_none (by rw [capsL_len]; omega)]
theorem difR_caps {r : RulR} {t : Int} : difR r.lim t = false ↔ capsL r t = capsL r (t - 1) := by
  rw [difR_false, capsL_eq]
  have : r.lim.R.length = r.S.F.length := by simp [RulR.lim]
  rw [this]
theorem totF_at {r : RulR} {i : Nat} (h : i < r.S.F.length) (t : Int) : totF r.lim i t = min (rateF r.S.F[i]) (uAt r.U i t) := by
  unfold totF RulR.lim
  simp [h]

/-- what Path returns -/
noncomputable def pathA (r : RulR) (f t : Int) : Int :=
  if limE r ≠ 0 ∨ t < 0 ∨ 268435456 < t ∨ f < 0 ∨ (r.S.F.length : Int) ≤ f then 0
  else (pathL r.S.F r.S.F.length f).foldl (fun n (k : Nat) => min n (capF r.lim k t)) (capF r.lim f t)

end Go.Proofs.YtmappmeojmdekaaGreatDoor

namespace Go.Proofs.YtmappmeojmdekaaGreatDoor
set_option linter.unusedVariables false

def roundL (off : Int) (sum : Bool) (m : Int) : List Int := ((m - off).tmod 1440 + 1440) % 1440 :: (if sum = true then [((m - off).tmod 1440 - 60 + 2880) % 1440] else [])
def minL (W : WinR) : List Int := [0, W.st, W.en]
def rawK (W : WinR) (z : ZoneR) (k : Nat) : List Int := ((minL W).take k).flatMap (roundL z.off z.sum)
def edgesR (W : WinR) (z : ZoneR) : List Int := rawK W z 3 ++ (if z.sum = true then [60] else [])
def leB (x y : Int) : Bool := decide (x ≤ y)
def edgesL (W : WinR) (z : ZoneR) : List Int := Lib.compact ((edgesR W z).mergeSort fun x y => decide (x ≤ y))
theorem tmod_1440 (a : Int) : (a.tmod 1440 + 1440) % 1440 = a % 1440 ∧ (a.tmod 1440 - 60 + 2880) % 1440 = (a - 60) % 1440 := by
  have h := Int.tmod_add_mul_tdiv a 1440
  generalize a.tmod 1440 = t at *
  generalize a.tdiv 1440 = q at *
  omega
theorem roundL_eq (off : Int) (sum : Bool) (m : Int) : roundL off sum m = (m - off) % 1440 :: (if sum = true then [(m - off - 60) % 1440] else []) := by
  unfold roundL
  rw [(tmod_1440 (m - off)).1, (tmod_1440 (m - off)).2]
theorem edge_mem {W : WinR} {z : ZoneR} {x : Int} (h : edgeP W z x) : x ∈ edgesR W z := by
  unfold edgesR rawK minL
  simp only [List.take_succ_cons, List.take_zero, List.flatMap_cons, List.flatMap_nil, List.append_nil, roundL_eq, List.mem_append, List.mem_cons]
  rcases h with (h | h | h) | ⟨hs, h | h | h | h⟩
  · simp [h]
  · simp [h]
  · simp [h]
  · simp [h, hs]
  · simp [h, hs]
  · simp [h, hs]
  · simp [h, hs]
theorem edges_rng {W : WinR} {z : ZoneR} {x : Int} (h : x ∈ edgesR W z) : 0 ≤ x ∧ x < 1440 := by
  unfold edgesR rawK minL at h
  simp only [List.take_succ_cons, List.take_zero, List.flatMap_cons, List.flatMap_nil, List.append_nil, roundL_eq, List.mem_append, List.mem_cons] at h
  cases hs : z.sum <;> simp [hs] at h <;> omega

theorem arr_at (zs : List Int) {j : Nat} (h : j < zs.length) : zs.toArray[j]! = zs[j] := by
  rw [getElem!_pos _ _ (by simpa using h)]; simp
theorem compact_iff {zs : List Int} {x : Int} : x ∈ Lib.compact zs ↔ ∃ j, ∃ h : j < zs.length, Lib.keeps zs.toArray j = true ∧ zs[j] = x := by
  unfold Lib.compact Lib.compactUpTo
  simp only [List.mem_map, List.mem_filter, List.mem_range]
  constructor
  · rintro ⟨j, ⟨h, hk⟩, e⟩
    exact ⟨j, h, hk, by rw [← e, arr_at zs h]⟩
  · rintro ⟨j, h, hk, e⟩
    exact ⟨j, ⟨h, hk⟩, by rw [arr_at zs h, e]⟩
theorem compact_sub {zs : List Int} {x : Int} (h : x ∈ Lib.compact zs) : x ∈ zs := by
  obtain ⟨j, h, _, e⟩ := compact_iff.1 h
  rw [← e]; exact List.getElem_mem h
theorem compact_at {zs : List Int} (n : Nat) : ∀ h : n < zs.length, zs[n] ∈ Lib.compact zs := by
  induction n with
  | zero => exact fun h => compact_iff.2 ⟨0, h, by simp [Lib.keeps], rfl⟩
  | succ n ih =>
    intro h
    by_cases e : zs[n + 1] = zs[n]
    · rw [e]; exact ih (by omega)
    · refine compact_iff.2 ⟨n + 1, h, Lib.keeps_pos ?_, rfl⟩
      rw [arr_at zs h, show n + 1 - 1 = n by omega, arr_at zs (show n < zs.length by omega)]
      exact e
theorem compact_mem {zs : List Int} {x : Int} (h : x ∈ zs) : x ∈ Lib.compact zs := by
  obtain ⟨n, hn, rfl⟩ := List.mem_iff_getElem.1 h
  exact compact_at n hn
theorem compact_asc {zs : List Int} (h : zs.Pairwise (· ≤ ·)) : (Lib.compact zs).Pairwise (· ≤ ·) := by
  unfold Lib.compact Lib.compactUpTo
  rw [List.pairwise_map]
  have hr : (List.range zs.length).Pairwise (fun a b => a < b ∧ b < zs.length) := by
    rw [List.pairwise_iff_getElem]
    intro i j hi hj hij
    simp at hi hj ⊢
    exact ⟨hij, hj⟩
  refine (hr.filter _).imp ?_
  rintro a b ⟨hab, hb⟩
  rw [arr_at zs (by omega), arr_at zs hb]
  exact List.pairwise_iff_getElem.1 h a b (by omega) hb hab
structure EdgesOk (W : WinR) (z : ZoneR) (L : List Int) : Prop where
  mem : ∀ x, edgeP W z x → x ∈ L
  rng : ∀ x ∈ L, 0 ≤ x ∧ x < 1440
  asc : L.Pairwise (· ≤ ·)
theorem edges_ok (W : WinR) (z : ZoneR) : EdgesOk W z (edgesL W z) := by
  refine ⟨fun x h => compact_mem (List.mem_mergeSort.2 (edge_mem h)), fun x h => edges_rng (List.mem_mergeSort.1 (compact_sub h)), compact_asc ?_⟩
  have := List.pairwise_mergeSort (le := fun x y : Int => decide (x ≤ y)) (by intro a b c; simp; omega) (by intro a b; simp; omega) (edgesR W z)
  exact this.imp (by intro a b hab; simpa using hab)

end Go.Proofs.YtmappmeojmdekaaGreatDoor

namespace Go.Proofs.YtmappmeojmdekaaGreatDoor
open Go.RowKit
set_option linter.unusedVariables false

/-- the spans of grid events end within time -/
def CurIn (U : List CurR) : Prop := ∀ c ∈ U, c.fr ≤ 268435456 ∧ c.to ≤ 268435456
theorem RulOk.curIn {r : RulR} (h : RulOk r) : CurIn r.U := fun c hc => by
  obtain ⟨k, hk, rfl⟩ := List.mem_iff_getElem.1 hc
  have := curE_zero (h.cur k hk)
  omega
theorem RulOk.feeders {r : RulR} (h : RulOk r) : ∀ c ∈ r.C, 0 ≤ c.fd ∧ c.fd < r.S.F.length := fun c hc => by
  obtain ⟨k, hk, rfl⟩ := List.mem_iff_getElem.1 hc
  have := conE_zero (h.con k hk).1
  omega
theorem RulOk.totals {r : RulR} (h : RulOk r) : ∀ c ∈ r.C, 0 ≤ c.tot ∧ c.tot ≤ 1073741824 := fun c hc => by
  obtain ⟨k, hk, rfl⟩ := List.mem_iff_getElem.1 hc
  have := conE_zero (h.con k hk).1
  omega
theorem RulOk.feedersU {r : RulR} (h : RulOk r) : ∀ c ∈ r.U, 0 ≤ c.fd ∧ c.fd < r.S.F.length := fun c hc => by
  obtain ⟨k, hk, rfl⟩ := List.mem_iff_getElem.1 hc
  have := curE_zero (h.cur k hk)
  omega

/-- the times at which Next of grid events looks -/
def curL (l : List CurR) (t : Int) : List Int := Lib.compact ((timesU l t).mergeSort fun x y => decide (x ≤ y))
theorem curL_mem {l : List CurR} {t x : Int} : x ∈ curL l t ↔ x ∈ timesU l t := by
  unfold curL
  constructor
  · intro h; simpa using compact_sub h
  · intro h; exact compact_mem (by simpa using h)
theorem curL_asc (l : List CurR) (t : Int) : (curL l t).Pairwise (· ≤ ·) := by
  refine compact_asc ?_
  have := List.pairwise_mergeSort (le := fun x y : Int => decide (x ≤ y)) (fun a b c h1 h2 => by simp at *; omega) (fun a b => by simp; omega) (timesU l t)
  simpa using this
theorem cur_found {l : List CurR} {t : Int} (hU : CurIn l) {k : Nat} (hk : k < (curL l t).length) (h : ∀ x ∈ (curL l t).take k, difU l x = false) (hd : difU l (curL l t)[k] = true) : NextP (difU l) t (curL l t)[k] := by
  have hm := timesU_mem.1 (curL_mem.1 (List.getElem_mem hk))
  obtain ⟨c, hc, _, h1, h2⟩ := hm
  have := hU c hc
  refine .inl ⟨h1, by omega, hd, fun u hu1 hu2 => ?_⟩
  cases e : difU l u with
  | false => rfl
  | true =>
    obtain ⟨j, hj, hju⟩ := List.mem_iff_getElem.1 (curL_mem.2 (timesU_dif hu1 e))
    by_cases hjk : j < k
    · have := h u (List.mem_iff_getElem.2 ⟨j, by rw [List.length_take]; omega, by rw [List.getElem_take]; exact hju⟩)
      rw [this] at e; cases e
    · exfalso
      by_cases he : j = k
      · subst he; omega
      · have := List.pairwise_iff_getElem.1 (curL_asc l t) k j hk hj (by omega)
        omega
theorem cur_end {l : List CurR} {t : Int} (h : ∀ x ∈ curL l t, difU l x = false) : NextP (difU l) t (-1) := by
  refine .inr ⟨rfl, fun u h1 _ => ?_⟩
  cases e : difU l u with
  | false => rfl
  | true => rw [h u (curL_mem.2 (timesU_dif h1 e))] at e; cases e
theorem timesU_len (l : List CurR) (t : Int) : (timesU l t).length ≤ 2 * l.length := by
  induction l with
  | nil => simp [timesU]
  | cons c l ih =>
    unfold timesU at *
    rw [List.flatMap_cons, List.length_append, List.length_append, List.length_cons]
    have h1 : ∀ (p : Prop) [Decidable p] (a : Int), (if p then [a] else []).length ≤ 1 := fun p _ a => by split <;> simp
    have := h1 (c.off = false ∧ t < c.fr) c.fr
    have := h1 (c.off = false ∧ t < c.to) c.to
    omega
/-- the times of the first k grid events, and of the first j ends of the next one -/
def timesK (l : List CurR) (t : Int) (k j : Nat) : List Int := timesU (l.take k) t ++ (match l[k]? with
  | some c => (if 1 ≤ j ∧ c.off = false ∧ t < c.fr then [c.fr] else []) ++ (if 2 ≤ j ∧ c.off = false ∧ t < c.to then [c.to] else [])
  | none => [])
theorem timesK_zero (l : List CurR) (t : Int) (k : Nat) : timesK l t k 0 = timesU (l.take k) t := by
  unfold timesK
  split <;> simp
theorem timesK_one {l : List CurR} {t : Int} {k : Nat} (h : k < l.length) : timesK l t k 1 = timesK l t k 0 ++ (if l[k].off = false ∧ t < l[k].fr then [l[k].fr] else []) := by
  rw [timesK_zero]
  unfold timesK
  rw [List.getElem?_eq_getElem h]
  simp
theorem timesK_two {l : List CurR} {t : Int} {k : Nat} (h : k < l.length) : timesK l t k 2 = timesK l t k 1 ++ (if l[k].off = false ∧ t < l[k].to then [l[k].to] else []) := by
  rw [timesK_one h, timesK_zero]
  unfold timesK
  rw [List.getElem?_eq_getElem h]
  simp
theorem timesK_next {l : List CurR} {t : Int} {k : Nat} (h : k < l.length) : timesK l t (k + 1) 0 = timesK l t k 2 := by
  rw [timesK_two h, timesK_one h, timesK_zero, timesK_zero, List.take_succ_eq_append_getElem h]
  unfold timesU
  rw [List.flatMap_append]
  simp
theorem timesK_full (l : List CurR) (t : Int) : timesK l t l.length 0 = timesU l t := by rw [timesK_zero, List.take_length]
theorem timesK_len (l : List CurR) (t : Int) (k j : Nat) : (timesK l t k j).length ≤ 2 * l.length + 2 := by
  unfold timesK
  have h0 := timesU_len (l.take k) t
  rw [List.length_take] at h0
  rw [List.length_append]
  split
  · rw [List.length_append]
    have h1 : ∀ (p : Prop) [Decidable p] (a : Int), (if p then [a] else []).length ≤ 1 := fun p _ a => by split <;> simp
    rename_i c _
    have := h1 (1 ≤ j ∧ c.off = false ∧ t < c.fr) c.fr
    have := h1 (2 ≤ j ∧ c.off = false ∧ t < c.to) c.to
    omega
  · simp; omega

/-- what Next of grid events returns -/
noncomputable def curA (l : List CurR) (t : Int) : Int := nextP (difU l) t
theorem curA_rng (l : List CurR) (t : Int) : curA l t = -1 ∨ (t < curA l t ∧ curA l t ≤ 268435456) := nextP_rng (difU l) t

/-- a round of Next of limits -/
theorem lim_round {r : LimR} {t u ev a : Int} (hC : ∀ c ∈ r.C, 0 ≤ c.fd ∧ c.fd < r.R.length) (h0 : 0 ≤ t) (h1 : t ≤ u) (h2 : u ≤ 268435456) (hq : Quiet (difR r) t u) (hev : ev = curA r.U u) (ha : a = conA (strictF r u) r.z u) :
    (0 ≤ a ∧ (ev < 0 ∨ a < ev) ∧ limA r t = a) ∨ (¬ (0 ≤ a ∧ (ev < 0 ∨ a < ev)) ∧ ev < 0 ∧ limA r t = ev) ∨
      (¬ (0 ≤ a ∧ (ev < 0 ∨ a < ev)) ∧ 0 ≤ ev ∧ difR r ev = true ∧ limA r t = ev) ∨ (¬ (0 ≤ a ∧ (ev < 0 ∨ a < ev)) ∧ 0 ≤ ev ∧ difR r ev = false ∧ u < ev ∧ ev ≤ 268435456 ∧ Quiet (difR r) t ev) := by
  have hE := nextP_spec (difU r.U) u
  have hA := conA_spec (strictF r u) r.z (t := u) (by omega) h2
  rw [← ha] at hA
  have hE' : NextP (difU r.U) u ev := by rw [hev]; exact hE
  have glue : ∀ x, NextP (difR r) u x → limA r t = x := fun x hx => by
    refine nextP_of ?_
    rcases hx with ⟨a1, a2, a3, a4⟩ | ⟨a1, a4⟩
    · refine .inl ⟨by omega, a2, a3, fun v b c => ?_⟩
      by_cases e : v ≤ u
      · exact hq v b e (by omega)
      · exact a4 v (by omega) c
    · refine .inr ⟨a1, fun v b c => ?_⟩
      by_cases e : v ≤ u
      · exact hq v b e c
      · exact a4 v (by omega) c
  obtain ⟨e, he, hqe, hee⟩ : ∃ e, e ≤ 268435457 ∧ Quiet (difU r.U) u (e - 1) ∧ ((ev < 0 ∧ e = 268435457) ∨ (0 ≤ ev ∧ e = ev ∧ u < ev ∧ ev ≤ 268435456)) := by
    rcases hE' with ⟨a1, a2, a3, a4⟩ | ⟨a1, a4⟩
    · exact ⟨ev, by omega, fun v b c _ => a4 v b (by omega), .inr ⟨by omega, rfl, a1, a2⟩⟩
    · exact ⟨268435457, by omega, fun v b c d => a4 v b d, .inl ⟨by omega, rfl⟩⟩
  by_cases hi : 0 ≤ a ∧ (ev < 0 ∨ a < ev)
  · left
    refine ⟨hi.1, hi.2, glue a ?_⟩
    refine lim_found hC hqe he hA hi.1 (by omega) ?_
    rcases hee with ⟨_, rfl⟩ | ⟨_, rfl, _⟩
    · rcases hA with ⟨_, a2, _⟩ | ⟨a1, _⟩ <;> omega
    · omega
  · right
    have hqu : Quiet (difR r) u (e - 1) := lim_quiet hC hqe he hA (by omega) (by
      rcases hA with ⟨a1, a2, _⟩ | ⟨a1, _⟩
      · right
        rcases hee with ⟨h, rfl⟩ | ⟨h, rfl, _⟩
        · exact absurd ⟨by omega, .inl h⟩ hi
        · rcases Int.lt_or_le a e with g | g
          · exact absurd ⟨by omega, .inr g⟩ hi
          · exact g
      · exact .inl a1)
    rcases hee with ⟨h, rfl⟩ | ⟨h, rfl, h3, h4⟩
    · refine .inl ⟨hi, h, glue ev ?_⟩
      have hm : ev = -1 := by
        rcases hE' with ⟨a1, _⟩ | ⟨a1, _⟩ <;> omega
      rw [hm]
      exact hqu.none (by omega)
    · right
      cases hd : difR r e with
      | true => exact .inl ⟨hi, h, rfl, glue e (hqu.found h3 h4 hd)⟩
      | false =>
        refine .inr ⟨hi, h, rfl, h3, h4, fun v b c d => ?_⟩
        by_cases g : v ≤ u
        · exact hq v b g d
        · by_cases g2 : v = e
          · rw [g2]; exact hd
          · exact hqu v (by omega) (by omega) d

/-- where the loop of the reference's Next stands -/
def NxSt (r : LimR) (t u : Int) : Prop := (u = -1 ∧ ∀ x, Quiet (difR r) t x) ∨ (t < u ∧ u ≤ 268435456 ∧ Quiet (difR r) t (u - 1))
theorem candR_top {r : LimR} (hU : CurIn r.U) {t : Int} (h0 : 0 ≤ t) (h1 : t ≤ 268435456) : candR r t ≤ 268435456 := by
  unfold candR
  rcases firF_is (candL r t) with ⟨a, b⟩ | ⟨a, b, c⟩
  · omega
  · rcases List.mem_append.1 b with h | h
    · obtain ⟨c, _, h⟩ := List.mem_map.1 h
      have := nxA_rng r.z c h0 h1
      omega
    · obtain ⟨c, hc, h⟩ := List.mem_flatMap.1 h
      have := hU c hc
      rcases List.mem_append.1 h with h | h
      · split at h
        · simp at h; omega
        · simp at h
      · split at h
        · simp at h; omega
        · simp at h
theorem NxSt.start {r : LimR} (hU : CurIn r.U) {t : Int} (h0 : 0 ≤ t) (h1 : t ≤ 268435456) : NxSt r t (candR r t) := by
  have := candR_top hU h0 h1
  rcases candR_cases r h0 h1 with ⟨a, b⟩ | ⟨a, b⟩
  · exact .inl ⟨a, b⟩
  · exact .inr ⟨a, this, b⟩
theorem NxSt.next {r : LimR} (hU : CurIn r.U) {t u : Int} (h : NxSt r t u) (h0 : 0 ≤ t) (hu : 0 ≤ u) (hd : difR r u = false) : NxSt r t (candR r u) := by
  rcases h with ⟨a, b⟩ | ⟨a, b, c⟩
  · omega
  · have htop := candR_top hU hu b
    have hq : Quiet (difR r) t u := fun v x y z => by
      by_cases e : v = u
      · rw [e]; exact hd
      · exact c v x (by omega) z
    rcases candR_cases r hu b with ⟨d, e⟩ | ⟨d, e⟩
    · exact .inl ⟨d, fun x => hq.trans (e x)⟩
    · exact .inr ⟨by omega, htop, hq.trans e⟩
theorem NxSt.found {r : LimR} {t u : Int} (h : NxSt r t u) (hu : 0 ≤ u) (hd : difR r u = true) : limA r t = u := by
  rcases h with ⟨a, b⟩ | ⟨a, b, c⟩
  · omega
  · exact nextP_of (c.found a b hd)
theorem NxSt.done {r : LimR} {t u : Int} (h : NxSt r t u) (hu : u < 0) (h0 : 0 ≤ t) : limA r t = -1 := by
  rcases h with ⟨a, b⟩ | ⟨a, b, c⟩
  · exact nextP_of ((b 268435456).none (by omega))
  · omega
theorem NxSt.rng {r : LimR} {t u : Int} (h : NxSt r t u) : u = -1 ∨ (t < u ∧ u ≤ 268435456) := by
  rcases h with ⟨a, b⟩ | ⟨a, b, c⟩
  · exact .inl a
  · exact .inr ⟨a, b⟩

/-- Next of limits -/
noncomputable def limN (r : RulR) (t : Int) : Int := if limE r = 0 ∧ 0 ≤ t ∧ t ≤ 268435456 then limA r.lim t else -1
theorem limN_in {r : RulR} {t : Int} (h : limE r = 0) (h0 : 0 ≤ t) (h1 : t ≤ 268435456) : limN r t = limA r.lim t := if_pos ⟨h, h0, h1⟩
theorem limN_out {r : RulR} {t : Int} (h : ¬ (limE r = 0 ∧ 0 ≤ t ∧ t ≤ 268435456)) : limN r t = -1 := if_neg h
theorem caps_quiet {r : RulR} {t u : Int} (h : Quiet (difR r.lim) t u) (hu : u ≤ 268435456) : ∀ v, t ≤ v → v ≤ u → capsL r v = capsL r t := by
  intro v h1 h2
  obtain ⟨n, rfl⟩ : ∃ n : Nat, v = t + n := ⟨(v - t).toNat, by omega⟩
  clear h1
  induction n with
  | zero => simp
  | succ n ih =>
    rw [difR_caps.1 (h (t + ((n + 1 : Nat) : Int)) (by omega) h2 (by omega)), show t + ((n + 1 : Nat) : Int) - 1 = t + n by omega]
    exact ih (by omega)
/-- the caps stay until the next change, and change there -/
theorem limN_const (r : RulR) (t : Int) :
    (limA r.lim t = -1 ∧ ∀ v, t ≤ v → v ≤ 268435456 → capsL r v = capsL r t) ∨
    (t < limA r.lim t ∧ limA r.lim t ≤ 268435456 ∧ capsL r (limA r.lim t) ≠ capsL r (limA r.lim t - 1) ∧ ∀ v, t ≤ v → v < limA r.lim t → capsL r v = capsL r t) := by
  rcases nextP_spec (difR r.lim) t with ⟨a, b, c, d⟩ | ⟨a, d⟩
  · refine .inr ⟨a, b, fun h => ?_, fun v x y => ?_⟩
    · have c' : difR r.lim (limA r.lim t) = true := c
      rw [difR_caps.2 h] at c'; cases c'
    · exact caps_quiet (u := limA r.lim t - 1) (fun v x y z => d v x (by unfold limA at y; omega)) (by unfold limA; omega) v x (by omega)
  · exact .inl ⟨a, fun v x y => caps_quiet (u := 268435456) (fun v x y z => d v x z) (by omega) v x y⟩

/-- what Series of limits returns -/
def serE (r : RulR) (f a b : Int) : Int := if limE r ≠ 0 then limE r else if f < 0 ∨ (r.S.F.length : Int) ≤ f then 8 else if a < 0 ∨ b < a ∨ 268435456 < b then 2 else 0

theorem cap_rated {r : RulR} {i : Nat} (h : i < r.S.F.length) (t : Int) : capF r.lim i t ≤ rateF r.S.F[i] := by
  unfold capF
  rw [totF_at h]
  omega
/-- the rules without the first contract and the first grid event -/
def RulR.less (r : RulR) : RulR := ⟨r.S, r.z, r.C.drop 1, r.U.drop 1⟩
theorem less_more (r : RulR) (i : Int) (t : Int) : capF r.lim i t ≤ capF r.less.lim i t := cap_more r.lim i t

end Go.Proofs.YtmappmeojmdekaaGreatDoor

namespace Go.Proofs.YtmappmeojmdekaaGreatDoor
open Go.RowKit
set_option linter.unusedVariables false

/-- old memory reads as it did in W -/
def Kept (W w : World) : Prop := (∀ b o, b < W.heap.size → w.cell? ⟨b, o, none⟩ = W.cell? ⟨b, o, none⟩) ∧ Below W.heap.size W w
theorem Kept.of {W w : World} (h : Below W.heap.size W w) : Kept W w := ⟨(bcell h).1, h⟩
theorem Kept.refl (W : World) : Kept W W := .of (Below.refl _ _)
theorem Kept.below {W w w' : World} (h : Kept W w) (hb : Below w.heap.size w w') : Kept W w' := .of (below_step h.2 hb)
theorem Kept.drew {W w : World} (h : Kept W w) : Kept W w.drew := .of h.2.drew

/-- some world in which old memory reads as in W -/
def KeptOf (W : World) : Type := { w : World // Kept W w }
instance keptSome (W : World) : Nonempty (KeptOf W) := ⟨⟨W, Kept.refl W⟩⟩
def after {W : World} (x : KeptOf W) : World := x.1
theorem after_kept {W : World} (x : KeptOf W) : Kept W (after x) := x.2
theorem after_cell {W : World} (x : KeptOf W) {b o : Nat} (h : b < W.heap.size) : (after x).cell? ⟨b, o, none⟩ = W.cell? ⟨b, o, none⟩ := x.2.1 b o h

section
variable {P : Program}

theorem wp_region_kept {id : Nat} {Q : Exit → Act → World → Prop} {a : Act} (W : World) {w : World} {l : List Oper} (hm : P.follows .mixedOrders = true) (hB : Region.lexB .any l.toArray = true) (hK : Below W.heap.size W w)
    (h : wpQuiet P l.toArray (fun w' => ∃ x : KeptOf W, w' = after x) (fun a' => ∀ w', (∃ x : KeptOf W, w' = after x) → Q .normal a' w') l a) : (Code.region id l.toArray true).wp P Q a w :=
  wp_region_quiet (C := fun w' => ∃ x : KeptOf W, w' = after x) hm hB ⟨⟨_, (Kept.of hK).drew⟩, rfl⟩ (by simpa using h)

/-- a callee that only makes memory -/
theorem kept_call {W : World} {x : KeptOf W} {f : FuncId} {args : Array Value} {v : Value} (h : Calls P f args (after x) fun e w' => e = .returned v ∧ Below (after x).heap.size (after x) w') :
    Calls P f args (after x) fun e w' => e = .returned v ∧ ∃ y : KeptOf W, w' = after y :=
  h.mono fun _ w' ⟨he, hb⟩ => ⟨he, ⟨w', (after_kept x).below hb⟩, rfl⟩
/-- a callee that only draws -/
theorem kept_quiet {W : World} {x : KeptOf W} {f : FuncId} {args : Array Value} {v : Value} (h : Calls P f args (after x) fun e w' => e = .returned v ∧ ∃ n, w' = (after x).drewN n) :
    Calls P f args (after x) fun e w' => e = .returned v ∧ ∃ y : KeptOf W, w' = after y :=
  kept_call (h.mono fun _ w' ⟨he, n, hn⟩ => ⟨he, hn ▸ below_drewN (Below.refl _ _) n⟩)
/-- a callee that leaves the world alone -/
theorem kept_same {W : World} {x : KeptOf W} {f : FuncId} {args : Array Value} {v : Value} (h : Calls P f args (after x) fun e w' => e = .returned v ∧ after x = w') :
    Calls P f args (after x) fun e w' => e = .returned v ∧ ∃ y : KeptOf W, w' = after y :=
  h.mono fun _ w' ⟨he, hn⟩ => ⟨he, x, hn.symm⟩
end

end Go.Proofs.YtmappmeojmdekaaGreatDoor

namespace Go.Proofs.YtmappmeojmdekaaGreatDoor
open Go.RowKit
set_option linter.unusedVariables false

theorem byte_lt (s : ByteArray) (k : Nat) (h : k < s.size) : 0 ≤ (s[k].toNat : Int) ∧ (s[k].toNat : Int) ≤ 255 := by
  have := s[k].toNat_lt; omega

theorem okC_iff {r : Int} : okC r = true ↔ 0 ≤ valI r ∨ r = 45 ∨ r = 95 ∨ r = 46 ∨ r = 58 ∨ r = 42 := by
  simp [okC]; omega
theorem okC_last {r : Int} (h : ((((r != 45) = false ∨ (r != 95) = false) ∨ (r != 46) = false) ∨ (r != 58) = false) ∨ (r != 42) = false) : okC r = true := by
  simp at h; rw [okC_iff]; omega
theorem okC_none {r : Int} (hv : valI r < 0) (h : ((((r != 45) = true ∧ (r != 95) = true) ∧ (r != 46) = true) ∧ (r != 58) = true) ∧ (r != 42) = true) : okC r = false := by
  simp at h
  cases ho : okC r with
  | false => rfl
  | true => rw [okC_iff] at ho; omega

set_option maxHeartbeats 800000 in
theorem refIdV_any (s : ByteArray) (w : World) (hs : s.size ≤ maxLen) :
    Calls Tryz.prog 49 #[.string s] w fun e w' => e = .returned (.bool (validL s.data.toList)) ∧ ∃ n, w' = w.drewN n := by
  unfold maxLen at hs
  have hll : s.data.toList.length = s.size := by simp
  by_cases hlo : s.size < 1
  · have hv : validL s.data.toList = false := by unfold validL; rw [hll]; simp; omega
    have HV := Lib.hid hv
    clear hv hll
    go_enter Tryz.func49, Tryz.ntmps49
    go_wp2
    go_ret
    exact ⟨ret_bool (by rw [HV.out]), 0, rfl⟩
  · by_cases hhi : 36 < s.size
    · have hv : validL s.data.toList = false := by unfold validL; rw [hll]; simp; omega
      have HV := Lib.hid hv
      clear hv hll
      go_enter Tryz.func49, Tryz.ntmps49
      go_wp2
      go_ret
      exact ⟨ret_bool (by rw [HV.out]), 0, rfl⟩
    · have hv : validL s.data.toList = s.data.toList.all (fun b => okC b.toNat) := by
        unfold validL; rw [hll]; simp; intros; omega
      have HV := Lib.hid hv
      clear hv hll
      go_enter Tryz.func49, Tryz.ntmps49
      go_wp2
      go_loopw [3] (fun i wr => ∃ k : Nat, k ≤ s.size ∧ i = .int .i64 k ∧ Hid (∃ n, wr = w.drewN n) ∧ Hid ((s.data.toList.take k).all (fun b => okC b.toNat) = true)) (fun i _ => s.size - (intOf i).toNat)
      case atStart => exact ⟨0, by omega, rfl, ⟨0, rfl⟩, rfl⟩
      case round =>
        obtain ⟨k, hk, rfl, HW, H⟩ := hrel
        by_cases hlt : k < s.size
        · obtain ⟨hb0, hb1⟩ := byte_lt s k hlt
          go_wp2_with (go_at_call 67; refine (refValue_any _ _ (by omega) (by omega)).mono ?_; rintro e w' ⟨rfl, n', rfl⟩)
          all_goals try (
            have hk' : okC (s[k].toNat : Int) = true := by
              first
                | (rw [okC_iff]; omega)
                | exact okC_last ‹_›
            go_roundw
            case rel => exact ⟨k + 1, by omega, by go_num, drewN_more HW _, by show _ = true; rw [all_take_succ s k hlt, H.out, hk']; rfl⟩
            case measure => simp [intOf]; omega)
          have hb : okC (s[k].toNat : Int) = false := okC_none ‹valI (s[k].toNat : Int) < 0› ‹_›
          go_ret
          exact ⟨ret_bool (by rw [HV.out, all_false_at s k hlt _ hb]), drewN_more HW _⟩
        · have hall := H.out
          rw [all_full s _ k hlt] at hall
          have HA := Lib.hid hall
          clear hall
          go_wp2
          go_ret
          exact ⟨ret_bool (by rw [HV.out, HA.out]), HW.out⟩

theorem sumL_take (s : ByteArray) (k : Nat) (h : k < s.size) (p n : Int) : sumL (s.data.toList.take (k + 1)) p n = if valI (s[k].toNat : Int) < 0 then sumL (s.data.toList.take k) p n else (sumStep (sumL (s.data.toList.take k) p n).1 (valI (s[k].toNat : Int)), (sumL (s.data.toList.take k) p n).2 + 1) := by
  rw [bytes_at s k h, sumL_append]

theorem sumL_full (s : ByteArray) (k : Nat) (h : ¬ k < s.size) (p n : Int) : sumL (s.data.toList.take k) p n = sumL s.data.toList p n := by
  rw [List.take_of_length_le (by simp; omega)]

theorem sumStep_zero {p v : Int} (h : ((p + v) % 36 == 0) = true) : sumStep p v = 35 := by simp at h; unfold sumStep; rw [if_pos (by omega)]
theorem sumStep_pos {p v : Int} (h : ((p + v) % 36 == 0) = false) : sumStep p v = 2 * ((p + v) % 36) % 37 := by simp at h; unfold sumStep; rw [if_neg (by omega)]

end Go.Proofs.YtmappmeojmdekaaGreatDoor

namespace Go.Proofs.YtmappmeojmdekaaGreatDoor
open Go.RowKit
set_option linter.unusedVariables false

/-- a row of bytes of which the first k are capitals -/
def capRow (s : ByteArray) (k : Nat) (j : Nat) : Value := if j < k then .int .u8 (((capL s.data.toList).getD j 0).toNat : Int) else .int .u8 ((s.data.toList.getD j 0).toNat : Int)

theorem capRow_zero (s : ByteArray) : capRow s 0 = fun j => .int .u8 ((s.data.toList.getD j 0).toNat : Int) := by funext j; simp [capRow]
theorem capRow_at (s : ByteArray) (k : Nat) (h : k < s.size) : capRow s k k = .int .u8 (s[k].toNat : Int) := by
  have h' : k < s.data.size := h
  simp only [capRow, Nat.lt_irrefl, if_false, List.getD_eq_getElem?_getD]
  rw [List.getElem?_eq_getElem (by simpa using h)]; rfl
theorem capRow_succ (s : ByteArray) (k : Nat) (h : k < s.size) (j : Nat) (hj : j < s.size) : (if j = k then Value.int .u8 (capI (s[k].toNat : Int)) else capRow s k j) = capRow s (k + 1) j := by
  by_cases e : j = k
  · subst e
    have h' : j < s.data.size := h
    simp only [capRow, if_true, Nat.lt_succ_self, capL, List.getD_eq_getElem?_getD, List.getElem?_map]
    rw [List.getElem?_eq_getElem (by simpa using h)]
    simp only [Option.map_some, Option.getD_some]
    rw [capU_capI]; rfl
  · simp only [e, if_false, capRow]
    by_cases e2 : j < k
    · rw [if_pos e2, if_pos (by omega)]
    · rw [if_neg e2, if_neg (by omega)]
theorem capRow_full (s : ByteArray) (k : Nat) (h : ¬ k < s.size) (j : Nat) (hj : j < s.size) : capRow s k j = .int .u8 (((capL s.data.toList).getD j 0).toNat : Int) := by
  unfold capRow; rw [if_pos (by omega)]

set_option maxHeartbeats 800000 in
theorem refCapitals_any (s : ByteArray) (w : World) (hs : s.size ≤ maxLen) :
    Calls Tryz.prog 53 #[.string s] w fun e w' => e = .returned (.string (capS s)) ∧ Below w.heap.size w w' := by
  unfold maxLen at hs
  obtain ⟨c, w1, hcv, hb1, hz1, hrow⟩ := bytes_conv (P := Tryz.prog) w 9 98 5 s Tryz.underlying9 Tryz.underlying98 Tryz.underlying5
  have HZ := Lib.hid hz1
  clear hz1
  go_enter Tryz.func53, Tryz.ntmps53
  go_wp2
  go_loopw [4] (fun i wr => ∃ k : Nat, k ≤ s.size ∧ i = .int .i64 k ∧ Below w.heap.size w wr ∧ Row wr w.heap.size s.size (capRow s k)) (fun i _ => s.size - (intOf i).toNat)
  case atStart => exact ⟨0, by omega, rfl, hb1, by rw [capRow_zero]; exact hrow⟩
  case round =>
    obtain ⟨k, hk, rfl, hbw, hr⟩ := hrel
    clear hcv
    by_cases hlt : k < s.size
    · obtain ⟨hb0, hb1⟩ := byte_lt s k hlt
      have hc := hr.cell hlt
      rw [capRow_at s k hlt] at hc
      have hf := hr.frozen hlt
      go_wp2_with (go_at_call 70; refine (refCapital_any _ _ (by omega) (by omega)).mono ?_; rintro e w' ⟨rfl, rfl⟩)
      go_roundw
      case rel => exact ⟨k + 1, by omega, by go_num, hbw.setCell (Nat.le_refl _) _, (hr.set k _).congr (capRow_succ s k hlt)⟩
      case measure => simp [intOf]; omega
    · have hbk := bytes_back (P := Tryz.prog) wr 98 9 5 w.heap.size s.size c (capL s.data.toList) Tryz.underlying98 Tryz.underlying5 Tryz.underlying9 (by simp [capL]) _ hr (capRow_full s k hlt)
      go_wp2
      go_ret
      exact ⟨rfl, hbw⟩

theorem str_eq (a b : ByteArray) : (a.toList == b.toList) = decide (a.data.toList = b.data.toList) := by
  rw [Lib.toList_data, Lib.toList_data]
  by_cases h : a.data.toList = b.data.toList
  · simp [h]
  · have : (a.data.toList == b.data.toList) = false := by simpa using h
    rw [this]; simp [h]
theorem capS_data (s : ByteArray) : (capS s).data.toList = capL s.data.toList := by simp [capS]
theorem str_eq_cap (a b : ByteArray) : ((capS a).toList == (capS b).toList) = sameS a b := by rw [str_eq, capS_data, capS_data]; rfl

set_option maxHeartbeats 800000 in
theorem refSame_any (a b : ByteArray) (w : World) (ha : a.size ≤ maxLen) (hb : b.size ≤ maxLen) :
    Calls Tryz.prog 33 #[.string a, .string b] w fun e w' => e = .returned (.bool (sameS a b)) ∧ Below w.heap.size w w' := by
  go_enter Tryz.func33, Tryz.ntmps33
  go_wp2_with fail
  refine (refCapitals_any a _ ha).mono ?_
  rintro e w1 ⟨rfl, hb1⟩
  go_wp2_with fail
  refine (refCapitals_any b _ hb).mono ?_
  rintro e w2 ⟨rfl, hb2⟩
  go_wp2_with fail
  go_ret
  refine ⟨?_, hb1.trans (hb2.mono hb1.size)⟩
  exact ret_bool (str_eq_cap a b)

theorem same_len {a b : ByteArray} (h : ((a.size : Int) != b.size) = true) : sameS a b = false := by
  have h' : a.size ≠ b.size := by simp at h; omega
  unfold sameS
  simp
  intro e
  have := congrArg List.length e
  simp [capL] at this
  exact h' this
theorem same_at {a b : ByteArray} {k : Nat} (ha : k < a.size) (hb : k < b.size) (h : capI (a[k].toNat : Int) ≠ capI (b[k].toNat : Int)) : sameS a b = false := by
  unfold sameS
  simp
  intro e
  apply h
  have ha' : k < a.data.toList.length := by simpa using ha
  have hb' : k < b.data.toList.length := by simpa using hb
  have e1 : (capL a.data.toList)[k]? = (capL b.data.toList)[k]? := by rw [e]
  simp only [capL, List.getElem?_map, List.getElem?_eq_getElem ha', List.getElem?_eq_getElem hb', Option.map_some, Option.some.injEq] at e1
  have e2 : capU a[k] = capU b[k] := e1
  rw [← capU_capI, ← capU_capI, e2]
theorem same_all {a b : ByteArray} (hl : a.size = b.size) (h : ∀ k (ha : k < a.size) (hb : k < b.size), capI (a[k].toNat : Int) = capI (b[k].toNat : Int)) : sameS a b = true := by
  unfold sameS
  simp only [decide_eq_true_eq]
  apply List.ext_getElem
  · simpa [capL] using hl
  · intro k h1 h2
    simp only [capL, List.length_map, Array.length_toList] at h1 h2
    have := h k h1 h2
    rw [← capU_capI, ← capU_capI] at this
    simp only [capL, List.getElem_map]
    apply UInt8.toNat_inj.1
    have e1 : a[k] = a.data.toList[k] := rfl
    have e2 : b[k] = b.data.toList[k] := rfl
    rw [← e1, ← e2]
    omega

set_option maxHeartbeats 800000 in
theorem same_any (a b : ByteArray) (w : World) (ha : a.size ≤ maxLen) :
    Calls Tryz.prog 28 #[.string a, .string b] w fun e w' => e = .returned (.bool (sameS a b)) ∧ ∃ n, w' = w.drewN n := by
  unfold maxLen at ha
  cases hn : ((a.size : Int) != b.size) with
  | true =>
    have HV := Lib.hid (same_len hn)
    go_enter Tryz.func28, Tryz.ntmps28
    go_wp2
    go_ret
    exact ⟨ret_bool (by rw [HV.out]), 0, rfl⟩
  | false =>
    have hl : a.size = b.size := by simp at hn; omega
    have HL := Lib.hid hl
    have hle : a.size ≤ b.size := by omega
    clear hl
    go_enter Tryz.func28, Tryz.ntmps28
    go_wp2
    go_loopw [13] (fun i wr => ∃ k : Nat, k ≤ a.size ∧ i = .int .i64 k ∧ Hid (∃ n, wr = w.drewN n) ∧ Hid (∀ j (ha : j < a.size) (hb : j < b.size), j < k → capI (a[j].toNat : Int) = capI (b[j].toNat : Int))) (fun i _ => a.size - (intOf i).toNat)
    case atStart => exact ⟨0, by omega, rfl, ⟨0, rfl⟩, fun j _ _ h => by omega⟩
    case round =>
      obtain ⟨k, hk, rfl, HW, H⟩ := hrel
      by_cases hlt : k < a.size
      · have hlb : k < b.size := by omega
        obtain ⟨hb0, hb1⟩ := byte_lt a k hlt
        obtain ⟨hb2, hb3⟩ := byte_lt b k hlb
        cases he : (capI (a[k].toNat : Int) != capI (b[k].toNat : Int)) with
        | true =>
          have hs := same_at hlt hlb (by simpa using he)
          have HS := Lib.hid hs
          clear hs
          go_wp2
          go_quiet (first | (go_at_call 47; first | exact quiet_left (capital_any _ _ hb0 hb1) | exact quiet_left (capital_any _ _ hb2 hb3)))
          go_wp2
          go_ret
          exact ⟨ret_bool (by rw [HS.out]), drewN_more HW _⟩
        | false =>
          have HE := Lib.hid he
          go_wp2
          go_quiet (first | (go_at_call 47; first | exact quiet_left (capital_any _ _ hb0 hb1) | exact quiet_left (capital_any _ _ hb2 hb3)))
          go_wp2
          go_roundw
          case rel => exact ⟨k + 1, by omega, by go_num, drewN_more HW _, fun j hj1 hj2 hj => by
            by_cases e : j = k
            · subst e; have := HE.out; simpa using this
            · exact H.out j hj1 hj2 (by omega)⟩
          case measure => simp [intOf]; omega
      · have hs := same_all HL.out (fun j h1 h2 => H.out j h1 h2 (by omega))
        have HS := Lib.hid hs
        clear hs
        go_wp2
        go_ret
        exact ⟨ret_bool (by rw [HS.out]), HW.out⟩

theorem small_max {n : Nat} (h : n ≤ 4096) : n ≤ maxLen := by unfold maxLen; omega
theorem drewN_below {w w' : World} (h : ∃ n, w' = w.drewN n) : Below w.heap.size w w' := by
  obtain ⟨n, rfl⟩ := h
  exact below_drewN (Below.refl _ _) n

end Go.Proofs.YtmappmeojmdekaaGreatDoor

namespace Go.Proofs.YtmappmeojmdekaaGreatDoor
open Go.RowKit Go.Lib Go.Maps
attribute [local go_sem] after_cell
set_option linter.unusedVariables false

set_option maxRecDepth 100000 in
set_option maxHeartbeats 6400000 in
theorem refCurAt_any (l : List CurR) (v : Value) (f t : Int) (w : World) (hL : IsSl w 7 v (l.map CurR.cells)) :
    Calls Tryz.prog 58 #[v, .int .i64 f, .int .i64 t] w fun e w' => e = .returned (.int .i64 (uAt l f t)) ∧ Below w.heap.size w w' := by
  obtain ⟨A, c, rfl, hlc, hcm, hsl⟩ := hL
  rw [List.length_map] at hlc
  unfold maxLen at hcm
  simp only [List.length_map]
  go_enter Tryz.func58, Tryz.ntmps58
  go_wp2_with fail
  go_loopw [7, 8] (fun n i wr => ∃ k : Nat, k ≤ l.length ∧ n = .int .i64 (uAt (l.take k) f t) ∧ i = .int .i64 k ∧ Below w.heap.size w wr) (fun _ i _ => l.length - (intOf i).toNat)
  case atStart => exact ⟨0, by omega, rfl, rfl, Below.refl _ _⟩
  case round =>
    obtain ⟨k, hk, rfl, rfl, hbw⟩ := hrel
    by_cases hlt : k < l.length
    · have hki : (k : Int) < (l.length : Int) := by omega
      obtain ⟨b, off, rfl, hb, c0, c1, c2, c3, c4, c5, c6⟩ := cur_at (hsl.below hbw) hlt
      have HT := Lib.hid (uAt_take hlt f t)
      generalize l[k] = x at *
      generalize uAt (l.take k) f t = n at *
      by_cases k1 : x.fd = f
      · cases k2 : x.off with
        | true =>
          have H : Hid (uAt (l.take (k + 1)) f t = n) := by unfold Hid; rw [HT.out, uStep_f (fun h => by rw [h.2.1] at k2; cases k2)]
          rw [k2] at c6
          go_wp2_with fail
          go_roundw
          case measure => simp [intOf]; omega
          case rel => exact ⟨k + 1, by omega, by rw [H.out], by go_num, below_alloc hbw _⟩
        | false =>
          rw [k2] at c6
          by_cases k3 : x.fr ≤ t
          · by_cases k4 : t < x.to
            · have H : Hid (uAt (l.take (k + 1)) f t = min n x.tot) := by unfold Hid; rw [HT.out, uStep_t ⟨k1, k2, k3, k4⟩]
              go_wp2_with fail
              go_roundw
              case measure => simp [intOf]; omega
              case rel => exact ⟨k + 1, by omega, by first | exact minW H.out | rw [H.out], by go_num, below_alloc hbw _⟩
            · have H : Hid (uAt (l.take (k + 1)) f t = n) := by unfold Hid; rw [HT.out, uStep_f (fun h => k4 h.2.2.2)]
              go_wp2_with fail
              go_roundw
              case measure => simp [intOf]; omega
              case rel => exact ⟨k + 1, by omega, by rw [H.out], by go_num, below_alloc hbw _⟩
          · have H : Hid (uAt (l.take (k + 1)) f t = n) := by unfold Hid; rw [HT.out, uStep_f (fun h => k3 h.2.2.1)]
            go_wp2_with fail
            go_roundw
            case measure => simp [intOf]; omega
            case rel => exact ⟨k + 1, by omega, by rw [H.out], by go_num, below_alloc hbw _⟩
      · have H : Hid (uAt (l.take (k + 1)) f t = n) := by unfold Hid; rw [HT.out, uStep_f (fun h => k1 h.1)]
        go_wp2_with fail
        go_roundw
        case measure => simp [intOf]; omega
        case rel => exact ⟨k + 1, by omega, by rw [H.out], by go_num, below_alloc hbw _⟩
    · have hki : ¬ (k : Int) < (l.length : Int) := by omega
      have H : Hid (uAt l f t = uAt (l.take k) f t) := by unfold Hid; rw [List.take_of_length_le (by omega)]
      go_wp2_with fail
      go_ret
      exact ⟨ret_int H.out.symm, hbw⟩

/-- none of the first k grid events begins or ends at t and makes a difference -/
def difNU (l : List CurR) (t : Int) (k : Nat) : Prop := ∀ j (h : j < l.length), j < k → ¬ ((l[j].fr = t ∨ l[j].to = t) ∧ uAt l l[j].fd t ≠ uAt l l[j].fd (t - 1))
theorem difNU_step {l : List CurR} {t : Int} {k : Nat} (hk : k < l.length) (h : difNU l t k) (he : ¬ ((l[k].fr = t ∨ l[k].to = t) ∧ uAt l l[k].fd t ≠ uAt l l[k].fd (t - 1))) : difNU l t (k + 1) := fun j hj hjk => by
  by_cases e : j = k
  · subst e; exact he
  · exact h j hj (by omega)
theorem difNU_end {l : List CurR} {t : Int} {k : Nat} (hk : ¬ k < l.length) (h : difNU l t k) : difU l t = false := by
  cases hd : difU l t with
  | false => rfl
  | true =>
    obtain ⟨c, hc, _, h1, h2⟩ := difU_at hd
    obtain ⟨j, hj, rfl⟩ := List.mem_iff_getElem.1 hc
    exact absurd ⟨h1, h2⟩ (h j hj (by omega))

set_option maxRecDepth 100000 in
set_option maxHeartbeats 6400000 in
theorem curDiffers_any (l : List CurR) (v : Value) (t : Int) (w : World) (hL : IsSl w 7 v (l.map CurR.cells)) (h0 : -1 ≤ t) (h1 : t ≤ 268435457) :
    Calls Tryz.prog 77 #[v, .int .i64 t] w fun e w' => e = .returned (.bool (difU l t)) ∧ Below w.heap.size w w' := by
  have HIS := Lib.hid hL
  obtain ⟨A, c, rfl, hlc, hcm, hsl⟩ := hL
  rw [List.length_map] at hlc
  unfold maxLen at hcm
  simp only [List.length_map] at HIS ⊢
  have hwt : IntKind.i64.wrap (t - 1) = t - 1 := IntWalk.i64_in _ (by omega)
  go_enter Tryz.func77, Tryz.ntmps77
  go_wp2_with fail
  go_loopw [9] (fun i wr => ∃ k : Nat, k ≤ l.length ∧ i = .int .i64 k ∧ Hid (difNU l t k) ∧ Below w.heap.size w wr) (fun i _ => l.length - (intOf i).toNat)
  case atStart => exact ⟨0, by omega, rfl, fun j hj hk => by omega, Below.refl _ _⟩
  case round =>
    obtain ⟨k, hk, rfl, HD, hbw⟩ := hrel
    by_cases hlt : k < l.length
    · have hki : (k : Int) < (l.length : Int) := by omega
      obtain ⟨b, off, rfl, hb, c0, c1, c2, c3, c4, c5, c6⟩ := cur_at (hsl.below hbw) hlt
      have HS := Lib.hid (fun he => difNU_step hlt HD.out he)
      have HB : Hid (¬ uAt l l[k].fd t = uAt l l[k].fd (t - 1) → difU l t = true) := fun h => difU_of (List.getElem_mem hlt) h
      generalize l[k] = x at *
      obtain ⟨xnm, xver, xfd, xfr, xto, xtot, xoff⟩ := x
      simp only at *
      obtain ⟨W1, hW1, hb1, hg1, hx1⟩ := box1 wr #[.string xnm, .int .i64 xver, .int .i64 xfd, .int .i64 xfr, .int .i64 xto, .int .i64 xtot, .bool xoff] 63
      have hbr := Below.refl W1.heap.size W1
      by_cases hat : xfr = t ∨ xto = t
      · by_cases he : uAt l xfd t = uAt l xfd (t - 1)
        · have HS2 := Lib.hid (HS.out (fun h => h.2 he))
          have hne : (uAt l xfd t != uAt l xfd (t - 1)) = false := by rw [he]; simp
          clear he
          have hcase : xfr = t ∨ (¬ xfr = t ∧ xto = t) := by omega
          clear hat
          rcases hcase with rfl | ⟨k1, rfl⟩
          all_goals
            go_wp2_with fail
            rw [← hW1]
            (refine wp_region_kept W1 (by kernel_rfl) (by kernel_rfl) (by assumption) ?_; (repeat (go_big_quiet_step ((first | (go_at_call 71; exact kept_call (curAt_any l _ xfd _ _ (HIS.out.below (below_step (below_step hbw hb1) (after_kept _).2)))))))); refine wpQuiet_nil ?_; intro _ hw'; obtain ⟨x9, hw''⟩ := hw'; subst hw''; have hk9 := after_kept x9; generalize after x9 = w9 at *)
            obtain ⟨hc9, hb9⟩ := hk9
            go_wp2_with fail
            go_roundw
            case measure => simp [intOf]; omega
            case rel => exact ⟨k + 1, by omega, by go_num, HS2, below_step (below_step hbw hb1) hb9⟩
        · have HB2 := Lib.hid (HB.out he)
          have hne : (uAt l xfd t != uAt l xfd (t - 1)) = true := by simpa using he
          clear he
          have hcase : xfr = t ∨ (¬ xfr = t ∧ xto = t) := by omega
          clear hat
          rcases hcase with rfl | ⟨k1, rfl⟩
          all_goals
            go_wp2_with fail
            rw [← hW1]
            (refine wp_region_kept W1 (by kernel_rfl) (by kernel_rfl) (by assumption) ?_; (repeat (go_big_quiet_step ((first | (go_at_call 71; exact kept_call (curAt_any l _ xfd _ _ (HIS.out.below (below_step (below_step hbw hb1) (after_kept _).2)))))))); refine wpQuiet_nil ?_; intro _ hw'; obtain ⟨x9, hw''⟩ := hw'; subst hw''; have hk9 := after_kept x9; generalize after x9 = w9 at *)
            obtain ⟨hc9, hb9⟩ := hk9
            go_wp2_with fail
            go_ret
            exact ⟨ret_bool HB2.out.symm, below_step (below_step hbw hb1) hb9⟩
      · have HS2 := Lib.hid (HS.out (fun h => hat h.1))
        have k1 : ¬ xfr = t := fun h => hat (.inl h)
        have k2 : ¬ xto = t := fun h => hat (.inr h)
        have n1 : (xfr != t) = true := by simpa using k1
        have n2 : (xto != t) = true := by simpa using k2
        clear hat
        go_wp2_with fail
        go_roundw
        case measure => simp [intOf]; omega
        case rel => exact ⟨k + 1, by omega, by go_num, HS2, below_alloc hbw _⟩
    · have hki : ¬ (k : Int) < (l.length : Int) := by omega
      have HE := Lib.hid (difNU_end hlt HD.out)
      go_wp2_with fail
      go_ret
      exact ⟨ret_bool HE.out.symm, hbw⟩

end Go.Proofs.YtmappmeojmdekaaGreatDoor
