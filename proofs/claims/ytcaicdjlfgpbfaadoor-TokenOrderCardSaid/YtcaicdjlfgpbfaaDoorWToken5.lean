/-
  Walks: Drop, in package token and in its reference.
-/
import Derived.Test.YtcaicdjlfgpbfaaDoorWToken4
import Derived.Test.YtcaicdjlfgpbfaaDoorAp2
import Derived.Test.YtcaicdjlfgpbfaaDoorBlk
import Derived.StillTailTactics
namespace Go.Proofs.YtcaicdjlfgpbfaaDoor
open Go.RowKit Go.Lib Go.Joins
attribute [local go_sem] after_cell
set_option linter.unusedVariables false

theorem tokInfo : (Tryd.prog.info? 24).map (fun i => (i.zero, i.size, i.bytes)) = some (some (.agg #[.string ⟨#[]⟩, .string ⟨#[]⟩, .string ⟨#[]⟩, .int .i64 0, .int .i64 0, .int .i64 0]), 6, 72) := by kernel_rfl
theorem Tok.one (r : Tok) : ∀ u ∈ r.cells, u.oneCell' = true := by
  intro u hu; simp [Tok.cells] at hu; rcases hu with rfl | rfl | rfl | rfl | rfl | rfl <;> rfl
theorem flat_one {α : Type} {enc : α → List Value} (h : ∀ x, ∀ u ∈ enc x, u.oneCell' = true) (l : List α) : ∀ v ∈ l.flatMap enc, v.oneCell' = true := by
  intro v hv
  rw [List.mem_flatMap] at hv
  obtain ⟨y, _, hy⟩ := hv
  exact h y v hy

theorem drop_some {l : List Tok} {id : ByteArray} {k : Nat} (h : idxT l id = some k) : dropTL l id = l.eraseIdx k ∧ dropTE l id = 0 := by
  unfold dropTL dropTE; rw [h]; exact ⟨rfl, rfl⟩
theorem drop_none {l : List Tok} {id : ByteArray} (h : idxT l id = none) : dropTL l id = l ∧ dropTE l id = 8 := by
  unfold dropTL dropTE; rw [h]; exact ⟨rfl, rfl⟩

set_option maxRecDepth 100000 in
set_option maxHeartbeats 1600000 in
theorem drop_any (l : List Tok) (v : Value) (id : ByteArray) (w : World) (hl : l.length ≤ 1000000) (hv : IsSl w 6 v (l.map Tok.cells)) (hf : ∀ x ∈ l, x.fits) :
    Calls Tryd.prog 7 #[v, .string id] w fun e w' => ∃ u, e = .returned (.tuple #[u, .int .i64 (dropTE l id)]) ∧ IsSl w' 6 u ((dropTL l id).map Tok.cells) ∧ Below w.heap.size w w' := by
  have hv0 := hv
  obtain ⟨A, c, rfl, hlc, hcm, hsl⟩ := islen' hv
  clear hv
  obtain ⟨i0, hi0, hz0, hz1, hz2⟩ := info_parts tokInfo
  rcases idx_cases l id with ⟨hi, hii⟩ | ⟨k, hi, hk, hii⟩
  · have HD := Lib.hid (drop_none hi)
    have HI := Lib.hid hii
    clear hi hii
    go_enter Tryd.func7, Tryd.ntmps7
    go_wp2_with fail
    refine (index_any l _ id _ hl hv0 hf).mono ?_
    rintro e w1 ⟨rfl, hb⟩
    rw [HI.out]
    go_wp2_with fail
    go_ret2
    exact ⟨_, by rw [HD.out.2]; rfl, by rw [HD.out.1]; exact hv0.below hb, hb⟩
  · have HD := Lib.hid (drop_some hi)
    have HI := Lib.hid hii
    clear hi hii
    have hki : (k : Int) < (l.length : Int) := by omega
    have hn0 : (0 : Int) ≤ (l.length : Int) - 1 := by omega
    have hmk := fun W => run_make_rowZ (P := Tryd.prog) 27 24 i0 _ Tryd.underlying27 hi0 hz0 .i64 .i64 (l.length - 1) (l.length - 1) ((l.length : Int) - 1) ((l.length : Int) - 1) (by omega) (by omega) (by omega) (by rw [hz2]; omega) (by omega) W
    generalize hZ : madeCells _ ((l.length - 1) * i0.size) = Z at hmk
    have HZS : Hid (Z.size = (l.length - 1) * 6) := by unfold Hid; rw [← hZ, size_madeCells, hz1]
    clear hZ
    go_enter Tryd.func7, Tryd.ntmps7
    go_wp2_with fail
    refine (index_any l _ id _ hl hv0 hf).mono ?_
    rintro e w1 ⟨rfl, hb⟩
    rw [HI.out]
    have hblk := Blk.new w1 Z 24
    have HLK : Hid ((l.take k).length = k) := by unfold Hid; rw [List.length_take]; omega
    have Q1 : Hid (SlAt (w1.alloc (.cells Z 24)) 6 A ((l.take k).map Tok.cells)) := by unfold Hid; rw [List.map_take]; exact ((hsl.below hb).below (below_alloc (Below.refl _ _) _)).take k
    have Q2 : Hid ((l.take k).length = Nat.min k (l.length - 1)) := by unfold Hid; rw [HLK.out]; exact (Nat.min_eq_left (by omega)).symm
    have Q4 : Hid (0 + (l.take k).length * 6 ≤ Z.toList.length) := by unfold Hid; rw [HLK.out]; have := HZS.out; simp; omega
    go_wp2_with (refine wpList_copy_to (enc := Tok.cells) rfl (.tmp 18) (.tmp 21) _ _ rfl 24 6 Tryd.underlying27 i0 hi0 hz1 Tok.cells_len (by omega) Tok.one _ _ _ _ _ _ rfl rfl w1.heap.size 0 Z.toList 24 hblk (l.take k) Q1.out Q2.out (fun _ => rfl) Q4.out ?_; intro w2 hblk2 hgrow)
    obtain ⟨D, hD⟩ : ∃ D, D = (some ⟨w1.heap.size, 0, none⟩ : Option Addr) := ⟨_, rfl⟩
    rw [← hD]
    have HDD := Lib.hid hD
    clear hD
    obtain ⟨D2, hD2⟩ : ∃ D2, (if l.length - 1 = k then D else Option.map (fun x => x.add (k * 6)) D) = D2 := ⟨_, rfl⟩
    obtain ⟨A2, hA2⟩ : ∃ A2, (if c = k + 1 then A else Option.map (fun x => x.add ((k + 1) * 6)) A) = A2 := ⟨_, rfl⟩
    have HD2 : Hid (subAddr D (l.length - 1) k 6 = D2) := hD2
    have HA2 : Hid (subAddr A c (k + 1) 6 = A2) := hA2
    have hkn : k ≤ l.length - 1 := by omega
    have hs1 : (0 : Int) ≤ (k : Int) + 1 := by omega
    have hs2 : (k : Int) + 1 ≤ (l.length : Int) := by omega
    have hs3 : ((k : Int) + 1).toNat = k + 1 := by omega
    have hs4 : IntKind.i64.wrap ((k : Int) + 1) = (k : Int) + 1 := IntWalk.i64_in _ (by omega)
    go_still_tail 7, (by kernel_rfl)
    change wpList _ _ _ _ _ w2.drew
    clear hs1 hs2 hs3 hs4 hkn hD2 hA2 hmk
    have hz1' := hb.size
    have hb2 : Below w.heap.size w w2 := (below_alloc hb (.cells Z 24)).grown hgrow (by simp; omega) (fun j hj => by injection hj with hj; omega)
    generalize hw3 : w2.drew = w3
    have hb3 : Below w.heap.size w w3 := hw3 ▸ hb2.drew
    have hblk3 : Blk w3 w1.heap.size 24 (splice Z.toList 0 ((l.take k).flatMap Tok.cells)) := by rw [← hw3]; exact hblk2
    clear hw3
    have hld : (l.drop (k + 1)).length = l.length - (k + 1) := by rw [List.length_drop]
    have hft := flat_len Tok.cells 6 Tok.cells_len (l.take k)
    rw [HLK.out] at hft
    have hfd := flat_len Tok.cells 6 Tok.cells_len (l.drop (k + 1))
    have hzl : Z.toList.length = (l.length - 1) * 6 := by rw [Array.length_toList]; exact HZS.out
    refine wpList_copy_to (enc := Tok.cells) rfl (.tmp 25) (.tmp 29) _ _ rfl 24 6 Tryd.underlying27 i0 hi0 hz1 Tok.cells_len (by omega) Tok.one _ _ _ _ _ _ rfl rfl w1.heap.size (k * 6) _ 24 hblk3 (l.drop (k + 1)) ?_ ?_ ?_ ?_ ?_
    · rw [← HA2.out, List.map_drop]
      exact subAddr_at (hsl.below hb3) (by simpa using hlc)
    · rw [hld]
      exact (Nat.min_eq_left (by omega)).symm
    · intro hp
      rw [← HD2.out, HDD.out]
      exact subAddr_own (by omega)
    · rw [length_splice _ _ _ (by omega), hld]; omega
    · intro w4 hblk4 hgrow4
      have he : splice (splice Z.toList 0 ((l.take k).flatMap Tok.cells)) (k * 6) ((l.drop (k + 1)).flatMap Tok.cells) = (l.eraseIdx k).flatMap Tok.cells := by
        rw [List.eraseIdx_eq_take_drop_succ, List.flatMap_append, ← hft, splice_two (by omega)]
      rw [he] at hblk4
      have hb4 : Below w.heap.size w w4 := hb3.grown hgrow4 hb3.size (fun j hj => by injection hj with hj; omega)
      have hel : (l.eraseIdx k).length = l.length - 1 := List.length_eraseIdx_of_lt hk
      have HEL := Lib.hid hel
      clear hft hfd hzl hld he hel hgrow hgrow4
      go_wp2_with fail
      go_ret2
      exact ⟨_, by rw [HD.out.2]; rfl, by rw [HD.out.1, HDD.out]; exact hblk4.isSl Tok.cells_len HEL.out (by unfold maxLen; omega), hb4⟩

end Go.Proofs.YtcaicdjlfgpbfaaDoor
