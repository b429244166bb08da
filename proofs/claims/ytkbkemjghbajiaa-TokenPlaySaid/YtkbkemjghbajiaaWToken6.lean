/-
  Walks: Drop, in the reference.
-/
import Derived.Test.YtkbkemjghbajiaaWToken5
import Derived.Deep.RegionLaw
namespace Go.Proofs.Ytkbkemjghbajiaa
open Go.RowKit Go.Lib Go.Joins
attribute [local go_sem] after_cell
set_option linter.unusedVariables false

set_option maxRecDepth 100000 in
set_option maxHeartbeats 1600000 in
theorem refDrop_any (l : List Tok) (v : Value) (id : ByteArray) (w : World) (hl : l.length ≤ 1000000) (hv : IsSl w 6 v (l.map Tok.cells)) (hf : ∀ x ∈ l, x.fits) (hid : id.size ≤ maxLen) :
    Calls Try.prog 17 #[v, .string id] w fun e w' => ∃ u, e = .returned (.tuple #[u, .int .i64 (dropTE l id)]) ∧ IsSl w' 6 u ((dropTL l id).map Tok.cells) ∧ Below w.heap.size w w' := by
  have hv0 := hv
  obtain ⟨A, c, rfl, hlc, hcm, hsl⟩ := islen' hv
  clear hv
  obtain ⟨i0, hi0, hz0, hz1, hz2⟩ := info_parts tokInfo
  rcases idx_cases l id with ⟨hi, hii⟩ | ⟨k, hi, hk, hii⟩
  · have HD := Lib.hid (drop_none hi)
    have HI := Lib.hid hii
    clear hi hii
    go_enter Try.func17, Try.ntmps17
    go_wp2_with fail
    refine (refIndex_any l _ id _ hl hv0 hf hid).mono ?_
    rintro e w1 ⟨rfl, hb⟩
    rw [HI.out]
    go_wp2_with fail
    go_ret2
    exact ⟨_, by rw [HD.out.2]; rfl, by rw [HD.out.1]; exact hv0.below hb, hb⟩
  · have HD := Lib.hid (drop_some hi)
    have HI := Lib.hid hii
    clear hi hii
    have hki : (k : Int) < (l.length : Int) := by omega
    have hlc0 := hlc
    go_enter Try.func17, Try.ntmps17
    go_wp2_with fail
    refine (refIndex_any l _ id _ hl hv0 hf hid).mono ?_
    rintro e w1 ⟨rfl, hb⟩
    rw [HI.out]
    have hs1z := hb.size
    obtain ⟨A2, hA2⟩ : ∃ A2, (if c = k + 1 then A else Option.map (fun x => x.add ((k + 1) * 6)) A) = A2 := ⟨_, rfl⟩
    have HA2 : Hid (subAddr A c (k + 1) 6 = A2) := hA2
    have HLK : Hid ((l.take k).length = k) := by unfold Hid; rw [List.length_take]; omega
    have HLD : Hid ((l.drop (k + 1)).length = l.length - (k + 1)) := by unfold Hid; rw [List.length_drop]
    have Q1 : Hid (SlAt w1 6 A ((l.take k).map Tok.cells)) := by unfold Hid; rw [List.map_take]; exact (hsl.below hb).take k
    have Q2 : Hid (SlAt w1 6 A2 ((l.drop (k + 1)).map Tok.cells)) := by unfold Hid; rw [← HA2.out, List.map_drop]; exact subAddr_at (hsl.below hb) (by simpa using hlc)
    have g1 : (0 : Int) ≤ (k : Int) := by omega
    have g2 : (k : Int) ≤ (c : Int) := by omega
    have g3 : (0 : Int) ≤ (k : Int) + 1 := by omega
    have g4 : (k : Int) + 1 ≤ (l.length : Int) := by omega
    have g5 : ((k : Int) + 1).toNat = k + 1 := by omega
    have g6 : IntKind.i64.wrap ((k : Int) + 1) = (k : Int) + 1 := IntWalk.i64_in _ (by omega)
    go_wp2_with fail
    have hbA : Below w.heap.size w ((w1.alloc (.cells #[] 23)).drew) := (below_alloc hb _).drew
    have hbB : Below w1.heap.size w1 ((w1.alloc (.cells #[] 23)).drew) := ((Below.refl _ _).alloc (Nat.le_refl _) _).drew
    have hown0 : ((w1.alloc (.cells #[] 23)).drew).ownsRow w.heap.size 23 6 (.slice (some ⟨w1.heap.size, 0, none⟩) 0 0) 0 [] := (World.ownsRow_lit w1 #[] 0 hs1z (by decide) rfl).drew
    go_region_law ((first
      | (refine step_append_list (enc := Tok.cells) _ (by rfl) (.tmp 13) (.tmp 16) _ (by rfl) w.heap.size 23 i0 _ 6 72 Try.underlying32 hi0 hz0 hz1 hz2 rfl (by decide) Tok.cells_len Tok.one (.slice (some ⟨w1.heap.size, 0, none⟩) 0 0) 0 [] (by rfl) hown0 A c k (l.take k) HLK.out (by rfl) (Q1.out.below hbB) (by unfold maxLen; omega) (by omega) hbA.size ?_; intro v' w2 hown2 hgrow2 hnil2 hblk2; have hbw2 : Below w.heap.size w w2 := hbA.grown hgrow2 hbA.size (fun j hj => by have h2 : some w1.heap.size = some j := hj; injection h2 with h2; omega); have hbx2 : Below w1.heap.size w1 w2 := hbB.grown hgrow2 hbB.size (fun j hj => by have h2 : some w1.heap.size = some j := hj; injection h2 with h2; omega))
      | (refine step_append_list (enc := Tok.cells) _ (by rfl) (.tmp 17) (.tmp 21) _ (by rfl) w.heap.size 23 i0 _ 6 72 Try.underlying32 hi0 hz0 hz1 hz2 rfl (by decide) Tok.cells_len Tok.one _ _ _ (by rfl) hown2 A2 _ _ (l.drop (k + 1)) HLD.out (by rfl) (Q2.out.below hbx2) (by unfold maxLen; omega) (by omega) hbw2.size ?_; intro v3 w3 hown3 hgrow3 hnil3 hblk3)
      | (go_simp; fail)))
    rw [Nat.zero_add, List.nil_append] at hown3
    have hb3 := below_grown hbw2 hown2 (Nat.le_refl _) hgrow3
    have hfin : IsSl w3 6 v3 ((l.eraseIdx k).map Tok.cells) := IsSl.of_own (l := l.eraseIdx k) Tok.cells_len (by rw [List.eraseIdx_eq_take_drop_succ, List.flatMap_append]; exact hown3) (by rw [List.length_eraseIdx_of_lt hk]; omega)
    clear hA2 g1 g2 g3 g4 g5 g6 hown0 hgrow2 hgrow3 hnil2 hnil3 hblk2 hblk3 hown2 hbx2 hbA hbB hown3
    go_wp2_with fail
    go_ret2
    exact ⟨v3, by rw [HD.out.2]; rfl, by rw [HD.out.1]; exact hfin, hb3⟩

end Go.Proofs.Ytkbkemjghbajiaa
