/-
  Plain functions of windows: the minutes at which a window may begin or end, ascending. No program is named here.
-/
import Derived.Test.YtlpjniejbblcnaaDoorPWin2
import Derived.Lib.SlicesCompact
namespace Go.Proofs.YtlpjniejbblcnaaDoor
set_option linter.unusedVariables false

def roundL (off : Int) (sum : Bool) (m : Int) : List Int := ((m - off).tmod 1440 + 1440) % 1440 :: (if sum = true then [((m - off).tmod 1440 - 60 + 2880) % 1440] else [])
def minL (W : WinR) : List Int := [0, W.st, W.en]
def rawK (W : WinR) (z : ZoneR) (k : Nat) : List Int := ((minL W).take k).flatMap (roundL z.off z.sum)
def edgesR (W : WinR) (z : ZoneR) : List Int := rawK W z 3 ++ (if z.sum = true then [60] else [])
def leB (x y : Int) : Bool := decide (x ≤ y)
def edgesL (W : WinR) (z : ZoneR) : List Int := Lib.compact ((edgesR W z).mergeSort fun x y => decide (x ≤ y))
theorem tmod_1440 (a : Int) : (a.tmod 1440 + 1440) % 1440 = a % 1440 ∧ (a.tmod 1440 - 60 + 2880) % 1440 = (a - 60) % 1440 := by
  have h := Int.tmod_add_mul_tdiv a 1440
  generalize a.tmod 1440 = t at *
  generalize a.tdiv 1440 = q at *
  omega
theorem roundL_eq (off : Int) (sum : Bool) (m : Int) : roundL off sum m = (m - off) % 1440 :: (if sum = true then [(m - off - 60) % 1440] else []) := by
  unfold roundL
  rw [(tmod_1440 (m - off)).1, (tmod_1440 (m - off)).2]
theorem edge_mem {W : WinR} {z : ZoneR} {x : Int} (h : edgeP W z x) : x ∈ edgesR W z := by
  unfold edgesR rawK minL
  simp only [List.take_succ_cons, List.take_zero, List.flatMap_cons, List.flatMap_nil, List.append_nil, roundL_eq, List.mem_append, List.mem_cons]
  rcases h with (h | h | h) | ⟨hs, h | h | h | h⟩
  · simp [h]
  · simp [h]
  · simp [h]
  · simp [h, hs]
  · simp [h, hs]
  · simp [h, hs]
  · simp [h, hs]
theorem edges_rng {W : WinR} {z : ZoneR} {x : Int} (h : x ∈ edgesR W z) : 0 ≤ x ∧ x < 1440 := by
  unfold edgesR rawK minL at h
  simp only [List.take_succ_cons, List.take_zero, List.flatMap_cons, List.flatMap_nil, List.append_nil, roundL_eq, List.mem_append, List.mem_cons] at h
  cases hs : z.sum <;> simp [hs] at h <;> omega

theorem arr_at (zs : List Int) {j : Nat} (h : j < zs.length) : zs.toArray[j]! = zs[j] := by
  rw [getElem!_pos _ _ (by simpa using h)]; simp
theorem compact_iff {zs : List Int} {x : Int} : x ∈ Lib.compact zs ↔ ∃ j, ∃ h : j < zs.length, Lib.keeps zs.toArray j = true ∧ zs[j] = x := by
  unfold Lib.compact Lib.compactUpTo
  simp only [List.mem_map, List.mem_filter, List.mem_range]
  constructor
  · rintro ⟨j, ⟨h, hk⟩, e⟩
    exact ⟨j, h, hk, by rw [← e, arr_at zs h]⟩
  · rintro ⟨j, h, hk, e⟩
    exact ⟨j, ⟨h, hk⟩, by rw [arr_at zs h, e]⟩
theorem compact_sub {zs : List Int} {x : Int} (h : x ∈ Lib.compact zs) : x ∈ zs := by
  obtain ⟨j, h, _, e⟩ := compact_iff.1 h
  rw [← e]; exact List.getElem_mem h
theorem compact_at {zs : List Int} (n : Nat) : ∀ h : n < zs.length, zs[n] ∈ Lib.compact zs := by
  induction n with
  | zero => exact fun h => compact_iff.2 ⟨0, h, by simp [Lib.keeps], rfl⟩
  | succ n ih =>
    intro h
    by_cases e : zs[n + 1] = zs[n]
    · rw [e]; exact ih (by omega)
    · refine compact_iff.2 ⟨n + 1, h, Lib.keeps_pos ?_, rfl⟩
      rw [arr_at zs h, show n + 1 - 1 = n by omega, arr_at zs (show n < zs.length by omega)]
      exact e
theorem compact_mem {zs : List Int} {x : Int} (h : x ∈ zs) : x ∈ Lib.compact zs := by
  obtain ⟨n, hn, rfl⟩ := List.mem_iff_getElem.1 h
  exact compact_at n hn
theorem compact_asc {zs : List Int} (h : zs.Pairwise (· ≤ ·)) : (Lib.compact zs).Pairwise (· ≤ ·) := by
  unfold Lib.compact Lib.compactUpTo
  rw [List.pairwise_map]
  have hr : (List.range zs.length).Pairwise (fun a b => a < b ∧ b < zs.length) := by
    rw [List.pairwise_iff_getElem]
    intro i j hi hj hij
    simp at hi hj ⊢
    exact ⟨hij, hj⟩
  refine (hr.filter _).imp ?_
  rintro a b ⟨hab, hb⟩
  rw [arr_at zs (by omega), arr_at zs hb]
  exact List.pairwise_iff_getElem.1 h a b (by omega) hb hab
structure EdgesOk (W : WinR) (z : ZoneR) (L : List Int) : Prop where
  mem : ∀ x, edgeP W z x → x ∈ L
  rng : ∀ x ∈ L, 0 ≤ x ∧ x < 1440
  asc : L.Pairwise (· ≤ ·)
theorem edges_ok (W : WinR) (z : ZoneR) : EdgesOk W z (edgesL W z) := by
  refine ⟨fun x h => compact_mem (List.mem_mergeSort.2 (edge_mem h)), fun x h => edges_rng (List.mem_mergeSort.1 (compact_sub h)), compact_asc ?_⟩
  have := List.pairwise_mergeSort (le := fun x y : Int => decide (x ≤ y)) (by intro a b c; simp; omega) (by intro a b; simp; omega) (edgesR W z)
  exact this.imp (by intro a b hab; simpa using hab)

end Go.Proofs.YtlpjniejbblcnaaDoor
