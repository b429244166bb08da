/-
  Walks: Diff of package list.
-/
import Derived.Test.YtcaicdjlfgpbfaaWLst4
import Derived.Test.YtcaicdjlfgpbfaaWToken9
import Derived.Deep.RegionLaw
namespace Go.Proofs.Ytcaicdjlfgpbfaa
open Go.RowKit Go.Lib Go.Joins Go.Maps
attribute [local go_sem] after_cell
set_option linter.unusedVariables false
set_option linter.unusedSimpArgs false

theorem size_more (w : World) (o : Obj) : (w.alloc o).heap.size = w.heap.size + 1 := by simp
theorem TokMap.grown {P : Program} {K : TypeId} {w w' : World} {b n : Nat} {g : List UInt8 → Option Tok} {row : Option Nat} (h : TokMap P K w b n g) (hg : w.grownBy w' row) (hne : row ≠ some b) : TokMap P K w' b n g := by
  obtain ⟨D, ⟨es, clock, h1, F, hs, hD⟩, h3⟩ := h
  have hlt := (Array.getElem?_eq_some_iff.1 h1).1
  exact ⟨D, ⟨es, clock, (hg.block b hlt (fun e => hne (by first | exact e | exact e.symm))).trans h1, F, hs, hD⟩, h3⟩
theorem own_mapped {w w' : World} {B e s n b : Nat} {v : Value} {xs : List Value} (hv : w.ownsRow B e s v n xs) (hg : w.grownBy w' (some b)) (hb : b < B) : w'.ownsRow B e s v n xs := by
  refine hv.kept hg ?_
  cases hv' : v.ownBlock with
  | none => exact .inl rfl
  | some g => exact .inr (by intro e; injection e with e; have := (hv.lt g hv').1; omega)
theorem own_apart {w : World} {B e s n b : Nat} {v : Value} {xs : List Value} (hv : w.ownsRow B e s v n xs) (hb : b < B) : v.ownBlock ≠ some b := fun e => by
  have := (hv.lt b e).1; omega
theorem keyed_facts {W1 w4 : World} {g : Nat} {cs : Array Value} (h : GrownW W1.drew w4) (hg : g < W1.heap.size) (hx : ∀ j, W1.cell? ⟨g, j, none⟩ = cs[j]?) : Below W1.heap.size W1 w4 ∧ (∀ j, w4.cell? ⟨g, j, none⟩ = cs[j]?) ∧ g < w4.heap.size := by
  have hb := below_step (Below.refl W1.heap.size W1).drew h.below
  exact ⟨hb, fun j => (hb.cell (p := ⟨g, j, none⟩) hg).trans (hx j), Nat.lt_of_lt_of_le hg hb.size⟩
/-- what is left of the map behind k tokens -/
def leftK (A B : List Tok) (k : Nat) : List UInt8 → Option Tok := fun s => if s ∈ (B.take k).map keyT then none else findK A s
theorem left_zero (A B : List Tok) : leftK A B 0 = findK A := by funext s; simp [leftK]
theorem left_next {A B : List Tok} {k : Nat} (hk : k < B.length) : delS (leftK A B k) (keyT B[k]) = leftK A B (k + 1) := by
  funext s
  unfold delS leftK
  rw [List.take_succ_eq_append_getElem hk, List.map_append]
  by_cases e : s = keyT B[k]
  · subst e; simp
  · rw [if_neg e]
    by_cases h : s ∈ (B.take k).map keyT
    · rw [if_pos h, if_pos (List.mem_append.2 (.inl h))]
    · rw [if_neg h, if_neg (fun hm => by rcases List.mem_append.1 hm with h1 | h1; exact h h1; simp at h1; exact e h1)]
theorem left_at {A B : List Tok} (hB : SortedT B) {k : Nat} (hk : k < B.length) : leftK A B k (keyT B[k]) = findK A (keyT B[k]) := by
  unfold leftK; rw [if_neg (new_key hB hk)]
theorem left_all {A B : List Tok} {k : Nat} (hs : KeySub A B) (hk : ¬ k < B.length) : leftK A B k = fun _ => none := by
  funext s
  unfold leftK
  rw [List.take_of_length_le (by omega)]
  by_cases h : s ∈ B.map keyT
  · rw [if_pos h]
  · rw [if_neg h]
    refine findK_none fun hm => h ?_
    obtain ⟨x, hx, e⟩ := List.mem_map.1 hm
    obtain ⟨y, hy, e2⟩ := hs x hx
    exact List.mem_map.2 ⟨y, hy, e2.trans e⟩
theorem findK_of {A : List Tok} {s : List UInt8} {y : Tok} (h : findK A s = some y) : y ∈ A ∧ keyT y = s := by
  unfold findK at h
  exact ⟨List.mem_of_find?_eq_some h, by simpa using List.find?_some h⟩

set_option maxRecDepth 100000 in
set_option maxHeartbeats 25600000 in
theorem diff_any (A B : List Tok) (va vb : Int) (u v : Value) (w : World) (hA : ListV w va u A) (hB : ListV w vb v B) (hab : va < vb) (hks : KeySub A B) :
    Calls Try.prog 6 #[.agg #[.int .i64 va, u], .agg #[.int .i64 vb, v]] w fun e w' => ∃ u', e = .returned (.tuple #[u', .int .i64 0]) ∧ IsSl w' 6 u' ((diffL A B).map Tok.cells) ∧ Below w.heap.size w w' := by
  obtain ⟨W0, hW0, hb0, hg1, hg0, hx0, hx1, hz1⟩ := box2f w #[.int .i64 va, u] 29 #[.int .i64 vb, v] 29
  have HV1 := Lib.hid (fun w' (hb : Below W0.heap.size W0 w') => lvalid_all ((hA.below hb0).below hb))
  have HV2 := Lib.hid (fun w' (hb : Below W0.heap.size W0 w') => lvalid_all ((hB.below hb0).below hb))
  obtain ⟨Aa, ca, rfl, hlc, hcm, hsl⟩ := islen' hA.sl
  obtain ⟨Ab, cb, rfl, hlc', hcm', hsl'⟩ := islen' hB.sl
  obtain ⟨i0, hi0, iz0, iz1, iz2⟩ := info_parts tokInfo
  have HA := Lib.hid hA.good
  have HB := Lib.hid hB.good
  have hla := hA.good.len
  have hlb := hB.good.len
  have HSA := Lib.hid (hsl.below hb0)
  have HSB := Lib.hid (hsl'.below hb0)
  have q3 : ¬ (vb ≤ va) := by omega
  clear hA hB hsl hsl' hcm hcm' hlc hlc' hab
  have hmm := @run_makeMap Try.prog
  go_enter Try.func6, Try.ntmps6
  go_wp2_with fail
  rw [← hW0]
  clear hW0
  go_wp2_with fail
  refine (HV1.out _ (Below.refl _ _)).mono ?_
  rintro e w1 ⟨rfl, hb1⟩
  obtain ⟨hc, hf⟩ := bcell hb1
  go_wp2_with fail
  refine (HV2.out _ hb1).mono ?_
  rintro e w2 ⟨rfl, hb2⟩
  replace hb2 := below_step hb1 hb2
  clear hc hf hb1
  obtain ⟨hc, hf⟩ := bcell hb2
  have hgx0 : w.heap.size < w2.heap.size := Nat.lt_of_lt_of_le hg0 hb2.size
  have hgx1 : w.heap.size + 1 < w2.heap.size := Nat.lt_of_lt_of_le hg1 hb2.size
  go_wp2_with fail
  clear hc hf HV1 HV2
  go_loopw [38] (fun i wr => ∃ k : Nat, k ≤ A.length ∧ i = .int .i64 k ∧ Below w2.heap.size w2 wr ∧ w2.heap.size < wr.heap.size ∧ Hid (TokMap Try.prog 9 wr w2.heap.size k (findK (A.take k)))) (fun i _ => A.length - (intOf i).toNat)
  case atStart => exact ⟨0, by omega, rfl, below_alloc (Below.refl _ _) _, by simp, tokMap_made _ _⟩
  case round =>
    obtain ⟨k, hk, rfl, hbw, hgm, HT⟩ := hrel
    have hbw0 := below_step hb2 hbw
    by_cases hlt : k < A.length
    · have hki : (k : Int) < (A.length : Int) := by omega
      obtain ⟨b, off, rfl, hbb, d0, d1, d2, d3, d4, d5⟩ := tok_at (HSA.out.below hbw0) hlt
      have hft := HA.out.fits _ (List.getElem_mem hlt)
      have hnk := new_key HA.out.sorted hlt
      have HTK : Hid (A.take (k + 1) = A.take k ++ [A[k]]) := List.take_succ_eq_append_getElem hlt
      generalize A[k] = X at *
      have HP := Lib.hid (findK_put hnk)
      obtain ⟨W1, hW1, hb3, hg3, hx3⟩ := box1 wr #[.string X.id, .string X.group, .string X.contract, .int .i64 X.kind, .int .i64 X.status, .int .i64 X.expiry] 24
      have HT1 := Lib.hid (HT.out.below hb3)
      have HK := Lib.hid (fun w' => lkey_any X.id w' hft.1)
      have hsz : (capS X.id).size ≤ maxLen := by rw [cap_sizeL]; exact hft.1
      have hns : k < maxLen := by unfold maxLen; omega
      have hcd : (capS X.id).data.toList = keyT X := capS_data _
      clear hnk HT
      go_wp2_with fail
      rw [← hW1]
      clear hW1 d0 d1 d2 d3 d4 d5
      go_region_law ((first
        | (go_simp; go_at_call 14; refine (HK.out _).mono ?_; rintro e w4 ⟨rfl, hgr⟩; obtain ⟨hb4, hx4, hg4⟩ := keyed_facts hgr hg3 hx3; obtain ⟨w5, hr5, hT5, hg5⟩ := (HT1.out.below hb4).update_run (t := 47) Try.underlying9 Try.underlying47 hns hsz X)
        | (go_simp; fail)))
      all_goals
        have hbw4 := below_step hbw (below_step hb3 hb4)
        have hb5 := below_map hbw4 hg5 (Nat.le_refl _) hbw4.size
        have hT6 : Hid (TokMap Try.prog 9 w5 w2.heap.size (k + 1) (findK (A.take (k + 1)))) := by
          unfold Hid
          rw [HTK.out, ← HP.out, ← hcd]
          exact hT5
        have hg6 : w2.heap.size < w5.heap.size := Nat.lt_of_lt_of_le hT5.lt (Nat.le_refl _)
        clear hr5 hT5 hx3 hx4
        go_wp2_with fail
        go_roundw
        case measure => simp [intOf]; omega
        case rel => exact ⟨k + 1, by omega, by go_num, hb5, hg6, hT6⟩
    · have hki : ¬ (k : Int) < (A.length : Int) := by omega
      have HT0 : Hid (TokMap Try.prog 9 wr w2.heap.size A.length (leftK A B 0)) := by
        have h := HT.out
        rw [List.take_of_length_le (by omega)] at h
        unfold Hid
        rw [left_zero]
        exact h.mono hk
      clear HT
      obtain ⟨hc, hf⟩ := bcell hbw0
      have hgx0 : w.heap.size < wr.heap.size := Nat.lt_of_lt_of_le hg0 hbw0.size
      have hgx1 : w.heap.size + 1 < wr.heap.size := Nat.lt_of_lt_of_le hg1 hbw0.size
      generalize wr = w3 at *
      go_wp2_with fail
      clear hc hf
      go_loopw [11, 51] (fun ua i wr => ∃ k : Nat, k ≤ B.length ∧ i = .int .i64 k ∧ Below w2.heap.size w2 wr ∧ Hid (w3.heap.size ≤ wr.heap.size) ∧ Hid (TokMap Try.prog 9 wr w2.heap.size A.length (leftK A B k)) ∧
        Hid (wr.ownsRow w3.heap.size 24 6 ua ((B.take k).filter (fun t => decide (t ∉ A))).length (((B.take k).filter (fun t => decide (t ∉ A))).flatMap Tok.cells))) (fun _ i _ => B.length - (intOf i).toNat)
      case atStart => exact ⟨0, by omega, rfl, hbw, Nat.le_refl _, HT0, World.ownsRow_nil _ _ _ _⟩
      case round =>
        clear HT0 hlt hki hk
        obtain ⟨k, hk, rfl, hbx, HG, HT, HO⟩ := hrel
        have hbx0 := below_step hb2 hbx
        by_cases hlt : k < B.length
        · have hki : (k : Int) < (B.length : Int) := by omega
          obtain ⟨b, off, rfl, hbb, d0, d1, d2, d3, d4, d5⟩ := tok_at (HSB.out.below hbx0) hlt
          have hft := HB.out.fits _ (List.getElem_mem hlt)
          have HLN := Lib.hid (left_next (A := A) hlt)
          have HLA := Lib.hid (left_at (A := A) HB.out.sorted hlt)
          have HFS := Lib.hid (filter_step (p := fun t => decide (t ∉ A)) hlt)
          generalize hBX : B[k] = X at *
          clear hBX
          obtain ⟨W1, hW1, hb3, hg3, hx3⟩ := box1 wr #[.string X.id, .string X.group, .string X.contract, .int .i64 X.kind, .int .i64 X.status, .int .i64 X.expiry] 24
          have hsz : (capS X.id).size ≤ maxLen := by rw [cap_sizeL]; exact hft.1
          have hcd : (capS X.id).data.toList = keyT X := capS_data _
          have HK := Lib.hid (fun w' => lkey_any X.id w' hft.1)
          go_wp2_with fail
          rw [← hW1]
          clear hW1 d0 d1 d2 d3 d4 d5
          go_wp2_with fail
          refine (HK.out _).mono ?_
          rintro e w4 ⟨rfl, hgr⟩
          have hx4 : ∀ j, w4.cell? ⟨wr.heap.size, j, none⟩ = (#[.string X.id, .string X.group, .string X.contract, .int .i64 X.kind, .int .i64 X.status, .int .i64 X.expiry] : Array Value)[j]? := fun j => (hgr.below.cell (p := ⟨wr.heap.size, j, none⟩) hg3).trans (hx3 j)
          have hg4 : wr.heap.size < w4.heap.size := Nat.lt_of_lt_of_le hg3 hgr.below.size
          have hb4 := below_step hb3 hgr.below
          have hT4 := HT.out.below hb4
          have HO4 := Lib.hid (own_below HO.out hb4)
          have hbx4 := below_step hbx hb4
          have hs4 : w3.heap.size ≤ w4.heap.size := Nat.le_trans HG.out hb4.size
          clear hx3 hgr HT HO
          have hap : u11.ownBlock ≠ some w2.heap.size := own_apart HO4.out hgm
          have HFL : Hid (((B.take k).filter (fun t => decide (t ∉ A))).length ≤ 100) := Nat.le_trans (List.length_filter_le _ _) (by rw [List.length_take]; omega)
          cases hz : findK A (keyT X) with
          | none =>
            have hXA : X ∉ A := fun hm => by rw [findK_mem HA.out.sorted hm] at hz; cases hz
            have hz0 := hz
            rw [← HLA.out, ← hcd] at hz0
            have HST : Hid ((B.take (k + 1)).filter (fun t => decide (t ∉ A)) = (B.take k).filter (fun t => decide (t ∉ A)) ++ [X]) := by unfold Hid; rw [HFS.out, if_pos (decide_eq_true hXA)]
            go_wp2_with (first
              | (at_lookup; refine wpList_lookup_tok _ rfl _ _ 47 rfl 9 24 Try.underlying9 Try.underlying47 zeroTk zeroTokL _ _ _ rfl hT4 (capS X.id) rfl hsz ?_; intro cz hcz; rw [hz0] at hcz ⊢; simp only [Option.getD_none, Option.getD_some] at hcz; replace hcz := hcz.symm; subst hcz)
              | (at_delete; refine wpList_delete_tok _ rfl _ _ 47 9 rfl 24 Try.underlying9 Try.underlying47 _ _ _ rfl (hT6) (capS X.id) rfl hsz ?_; intro w7 hT7 ht7)
              | (at_builtin; refine wpList_append_row _ _ rfl (.tmp 71) (.tmp 73) _ rfl w3.heap.size 24 i0 _ 6 72 Try.underlying22 hi0 iz0 iz1 iz2 rfl (by decide) u11 ((B.take k).filter (fun t => decide (t ∉ A))).length (((B.take k).filter (fun t => decide (t ∉ A))).flatMap Tok.cells) rfl (own_below HO4.out (below_alloc (Below.refl _ _) _)) 1 (by rw [size_more]; rfl) rfl (by intro u hu; simp at hu; rcases hu with rfl | rfl | rfl | rfl | rfl | rfl <;> rfl) (by have := HFL.out; omega) (by have := HFL.out; omega) (by simp; omega) ?_; intro v6 w6 hown6 hgrow6 hblk6; have hT6 := (hT4.below (below_alloc (Below.refl _ _) _)).grown hgrow6 hap; have hbx6 := below_grown (below_alloc hbx4 _) (own_below HO4.out (below_alloc (Below.refl _ _) _)) (Nat.le_of_lt hgm) hgrow6; have hs6 := hgrow6.size))
            have hb7 := below_map hbx6 ht7.grown (Nat.le_refl _) hbx6.size
            have hg7 : Hid (w3.heap.size ≤ w7.heap.size) := by have := ht7.grown.size; unfold Hid; simp at hs6; omega
            have hT8 : Hid (TokMap Try.prog 9 w7 w2.heap.size A.length (leftK A B (k + 1))) := by unfold Hid; rw [← HLN.out, ← hcd]; exact hT7
            have HO7 : Hid (w7.ownsRow w3.heap.size 24 6 v6 ((B.take (k + 1)).filter (fun t => decide (t ∉ A))).length (((B.take (k + 1)).filter (fun t => decide (t ∉ A))).flatMap Tok.cells)) := by
              unfold Hid
              rw [HST.out, List.length_append, List.flatMap_append]
              exact own_mapped hown6 ht7.grown hgm
            clear hT6 hT7 hown6
            go_roundw
            case measure => simp [intOf]; omega
            case rel => exact ⟨k + 1, by omega, by go_num, hb7, hg7, hT8, HO7⟩
          | some Y =>
            obtain ⟨hYA, hYk⟩ := findK_of hz
            by_cases hXY : Y = X
            · subst hXY
              have hXA : ¬ (Y ∉ A) := fun h => h hYA
              have hnq := tokNeq_run Y Y
              rw [show tokEqX Y Y = true from (tokEqX_iff _ _).2 rfl] at hnq
              have hz0 := hz
              rw [← HLA.out, ← hcd] at hz0
              have HST : Hid ((B.take (k + 1)).filter (fun t => decide (t ∉ A)) = (B.take k).filter (fun t => decide (t ∉ A))) := by unfold Hid; rw [HFS.out, if_neg (by simpa using hXA)]
              go_wp2_with (first
                | (at_lookup; refine wpList_lookup_tok _ rfl _ _ 47 rfl 9 24 Try.underlying9 Try.underlying47 zeroTk zeroTokL _ _ _ rfl hT4 (capS Y.id) rfl hsz ?_; intro cz hcz; rw [hz0] at hcz ⊢; simp only [Option.getD_none, Option.getD_some] at hcz; replace hcz := hcz.symm; subst hcz)
                | (at_delete; refine wpList_delete_tok _ rfl _ _ 47 9 rfl 24 Try.underlying9 Try.underlying47 _ _ _ rfl (hT4.below (below_alloc (Below.refl _ _) _)) (capS Y.id) rfl hsz ?_; intro w7 hT7 ht7))
              have hb7 := below_map (below_alloc hbx4 _) ht7.grown (Nat.le_refl _) (by have := hbx4.size; simp; omega)
              have hg7 : Hid (w3.heap.size ≤ w7.heap.size) := by have := ht7.grown.size; unfold Hid; simp at this; omega
              have hT8 : Hid (TokMap Try.prog 9 w7 w2.heap.size A.length (leftK A B (k + 1))) := by unfold Hid; rw [← HLN.out, ← hcd]; exact hT7
              have HO7 : Hid (w7.ownsRow w3.heap.size 24 6 u11 ((B.take (k + 1)).filter (fun t => decide (t ∉ A))).length (((B.take (k + 1)).filter (fun t => decide (t ∉ A))).flatMap Tok.cells)) := by
                unfold Hid
                rw [HST.out]
                exact own_mapped (own_below HO4.out (below_alloc (Below.refl _ _) _)) ht7.grown hgm
              clear hT7
              go_roundw
              case measure => simp [intOf]; omega
              case rel => exact ⟨k + 1, by omega, by go_num, hb7, hg7, hT8, HO7⟩
            · have hXA : X ∉ A := fun hm => hXY (sorted_eq HA.out.sorted hYA hm hYk)
              have hnq := tokNeq_run Y X
              rw [show tokEqX Y X = false by cases h : tokEqX Y X with | false => rfl | true => exact absurd ((tokEqX_iff _ _).1 h) hXY] at hnq
              have hz0 := hz
              rw [← HLA.out, ← hcd] at hz0
              have HST : Hid ((B.take (k + 1)).filter (fun t => decide (t ∉ A)) = (B.take k).filter (fun t => decide (t ∉ A)) ++ [X]) := by unfold Hid; rw [HFS.out, if_pos (decide_eq_true hXA)]
              go_wp2_with (first
                | (at_lookup; refine wpList_lookup_tok _ rfl _ _ 47 rfl 9 24 Try.underlying9 Try.underlying47 zeroTk zeroTokL _ _ _ rfl hT4 (capS X.id) rfl hsz ?_; intro cz hcz; rw [hz0] at hcz ⊢; simp only [Option.getD_none, Option.getD_some] at hcz; replace hcz := hcz.symm; subst hcz)
                | (at_delete; refine wpList_delete_tok _ rfl _ _ 47 9 rfl 24 Try.underlying9 Try.underlying47 _ _ _ rfl (hT6) (capS X.id) rfl hsz ?_; intro w7 hT7 ht7)
                | (at_builtin; refine wpList_append_row _ _ rfl (.tmp 71) (.tmp 73) _ rfl w3.heap.size 24 i0 _ 6 72 Try.underlying22 hi0 iz0 iz1 iz2 rfl (by decide) u11 ((B.take k).filter (fun t => decide (t ∉ A))).length (((B.take k).filter (fun t => decide (t ∉ A))).flatMap Tok.cells) rfl (own_below HO4.out (below_alloc (Below.refl _ _) _)) 1 (by rw [size_more]; rfl) rfl (by intro u hu; simp at hu; rcases hu with rfl | rfl | rfl | rfl | rfl | rfl <;> rfl) (by have := HFL.out; omega) (by have := HFL.out; omega) (by simp; omega) ?_; intro v6 w6 hown6 hgrow6 hblk6; have hT6 := (hT4.below (below_alloc (Below.refl _ _) _)).grown hgrow6 hap; have hbx6 := below_grown (below_alloc hbx4 _) (own_below HO4.out (below_alloc (Below.refl _ _) _)) (Nat.le_of_lt hgm) hgrow6; have hs6 := hgrow6.size))
              have hb7 := below_map hbx6 ht7.grown (Nat.le_refl _) hbx6.size
              have hg7 : Hid (w3.heap.size ≤ w7.heap.size) := by have := ht7.grown.size; unfold Hid; simp at hs6; omega
              have hT8 : Hid (TokMap Try.prog 9 w7 w2.heap.size A.length (leftK A B (k + 1))) := by unfold Hid; rw [← HLN.out, ← hcd]; exact hT7
              have HO7 : Hid (w7.ownsRow w3.heap.size 24 6 v6 ((B.take (k + 1)).filter (fun t => decide (t ∉ A))).length (((B.take (k + 1)).filter (fun t => decide (t ∉ A))).flatMap Tok.cells)) := by
                unfold Hid
                rw [HST.out, List.length_append, List.flatMap_append]
                exact own_mapped hown6 ht7.grown hgm
              clear hT6 hT7 hown6
              go_roundw
              case measure => simp [intOf]; omega
              case rel => exact ⟨k + 1, by omega, by go_num, hb7, hg7, hT8, HO7⟩
        · have hki : ¬ (k : Int) < (B.length : Int) := by omega
          have hT := HT.out
          rw [left_all hks hlt] at hT
          have ho := HO.out
          rw [show (B.take k).filter (fun t => decide (t ∉ A)) = diffL A B by unfold diffL; rw [List.take_of_length_le (by omega)]] at ho
          obtain ⟨L, HLD⟩ : ∃ L, Hid (diffL A B = L) := ⟨_, rfl⟩
          rw [HLD.out] at ho
          have HDG : Hid (GoodL L) := HLD.out ▸ diff_good (A := A) HB.out
          have HDK : Hid (L.Pairwise (fun a b => keyT a ≠ keyT b)) := HLD.out ▸ sorted_keys (diff_sorted (A := A) HB.out.sorted)
          obtain ⟨A9, c9, hu9, hM9⟩ := MutT.of_own rfl ho
          subst hu9
          have hbase : W0.heap.size ≤ w3.heap.size := hbw0.size
          have hLn := HDG.out.len
          clear HT HO ho
          go_wp2_with (at_range; refine wpList_range_none _ rfl _ 47 rfl 9 24 Try.underlying9 Try.underlying47 _ _ rfl hT ?_; intro w6 D6 cnt6 hrg6 hg6 hs6)
          have hb6 : Below wr.heap.size wr w6 := (Below.refl _ _).grown hg6 (Nat.le_refl _) (fun j hj => by cases hj)
          have hM6 := Lib.hid (hM9.below hb6)
          have hb06 := below_step hbx0 hb6
          clear hT hM9 hg6 hs6 hb6 hlt hki
          go_loopw [11] (fun ua wr => ua = .slice A9 L.length c9 ∧ wr = w6) (fun _ _ => 0)
          case atStart => exact ⟨rfl, rfl⟩
          case round =>
            obtain ⟨rfl, rfl⟩ := hrel
            go_wp2_with (at_next; refine wpList_next_none _ rfl _ rfl 9 Try.underlying9 _ _ _ _ _ rfl hrg6 ?_)
            refine (sortTok_any hb06 hbase hM6.out HDG.out HDK.out (fun x => Iff.rfl) (by omega)).mono ?_
            rintro e w7 ⟨rfl, hs7, hb7⟩
            go_wp2_with fail
            go_ret2
            exact ⟨.slice A9 L.length c9, rfl, by rw [HLD.out]; exact hs7, below_step hb0 hb7⟩

end Go.Proofs.Ytcaicdjlfgpbfaa
