/-
  Walks: Put, in package token.
-/
import Derived.Test.YtcaicdjlfgpbfaaWToken6
namespace Go.Proofs.Ytcaicdjlfgpbfaa
open Go.RowKit Go.Lib Go.Joins
attribute [local go_sem] after_cell
set_option linter.unusedVariables false

theorem tput_bad {l : List Tok} {t : Tok} (h : validT t ≠ 0) : putTL l t = l ∧ putTE l t = validT t := by
  have e : putTE l t = validT t := by unfold putTE; rw [if_pos h]
  exact ⟨by unfold putTL; rw [e, if_pos h], e⟩
theorem tput_old {l : List Tok} {t : Tok} {k : Nat} (h : validT t = 0) (hi : idxT l t.id = some k) : putTL l t = l.set k t ∧ putTE l t = 0 := by
  have e : putTE l t = 0 := by unfold putTE; rw [if_neg (by omega), hi]; rfl
  exact ⟨by unfold putTL; rw [e, if_neg (by omega), hi], e⟩
theorem tput_full {l : List Tok} {t : Tok} (h : validT t = 0) (hi : idxT l t.id = none) (hl : 128 ≤ l.length) : putTL l t = l ∧ putTE l t = 3 := by
  have e : putTE l t = 3 := by unfold putTE; rw [if_neg (by omega), hi, if_pos hl]; rfl
  exact ⟨by unfold putTL; rw [e, if_pos (by omega)], e⟩
theorem tput_new {l : List Tok} {t : Tok} (h : validT t = 0) (hi : idxT l t.id = none) (hl : ¬ 128 ≤ l.length) : putTL l t = insT l t ∧ putTE l t = 0 := by
  have e : putTE l t = 0 := by unfold putTE; rw [if_neg (by omega), hi, if_neg hl]; rfl
  exact ⟨by unfold putTL; rw [e, if_neg (by omega), hi], e⟩

theorem tw_stop {p : Tok → Bool} : ∀ {a b : List Tok}, (∀ x ∈ a, p x = true) → (∀ y b', b = y :: b' → p y = false) → (a ++ b).takeWhile p = a ∧ (a ++ b).dropWhile p = b
  | [], [], _, _ => by simp
  | [], y :: b, _, h => by simp [h y b rfl]
  | x :: a, b, h, h2 => by
    have ih := tw_stop (p := p) (a := a) (b := b) (fun y hy => h y (by simp [hy])) h2
    simp [h x (by simp), ih.1, ih.2]
theorem ins_at {l : List Tok} {t : Tok} {p : Nat} (h : (l.take p).all (fun x => lessT x t) = true) (h2 : ∀ hp : p < l.length, lessT l[p] t = false) : insT l t = l.take p ++ t :: l.drop p := by
  have e := tw_stop (p := fun x => lessT x t) (a := l.take p) (b := l.drop p) (fun x hx => List.all_eq_true.1 h x hx) (fun y b' hb => by
    have hp : p < l.length := by
      rcases Nat.lt_or_ge p l.length with h | h
      · exact h
      · rw [List.drop_of_length_le h] at hb; simp at hb
    rw [List.drop_eq_getElem_cons hp] at hb
    injection hb with hb _
    rw [← hb]
    exact h2 hp)
  rw [List.take_append_drop] at e
  unfold insT
  rw [e.1, e.2]
theorem less_cap (x t : Tok) : Op.bytesLess (capS x.id).toList (capS t.id).toList = lessT x t := by
  unfold lessT
  rw [Lib.toList_data, Lib.toList_data, capS_data, capS_data]

/-- a row of six cells, stored into a block that is known whole -/
theorem blk6 {w : World} {g : Nat} {T : TypeId} {cur : List Value} (h : Blk w g T cur) (k : Nat) (hk : k + 6 ≤ cur.length) : (∀ j, j < 6 → ∃ u, w.cell? ⟨g, k + j, none⟩ = some u) ∧ (∀ j, w.frozen? ⟨g, j, none⟩ = false) :=
  ⟨fun j hj => ⟨cur[k + j]'(by omega), by rw [h.cell, List.getElem?_eq_getElem]⟩, h.free⟩

set_option maxRecDepth 100000 in
set_option maxHeartbeats 3200000 in
theorem tput_any (l : List Tok) (v : Value) (t : Tok) (w : World) (hl : l.length ≤ 1000000) (hv : IsSl w 6 v (l.map Tok.cells)) (hfs : ∀ x ∈ l, x.fits) (htf : t.fits) :
    Calls Try.prog 4 #[v, .agg #[.string t.id, .string t.group, .string t.contract, .int .i64 t.kind, .int .i64 t.status, .int .i64 t.expiry]] w fun e w' => ∃ u, e = .returned (.tuple #[u, .int .i64 (putTE l t)]) ∧ IsSl w' 6 u ((putTL l t).map Tok.cells) ∧ Below w.heap.size w w' := by
  have hv0 := hv
  obtain ⟨A, c, rfl, hlc, hcm, hsl⟩ := islen' hv
  clear hv
  obtain ⟨W0, hW0, hb0, hgl, hbx⟩ := box1 w #[.string t.id, .string t.group, .string t.contract, .int .i64 t.kind, .int .i64 t.status, .int .i64 t.expiry] 24
  obtain ⟨i0, hi0, hz0, hz1, hz2⟩ := info_parts tokInfo
  by_cases hval : validT t = 0
  rotate_left 1
  · have HP := Lib.hid (tput_bad (l := l) hval)
    have hne : (validT t != 0) = true := by simpa using hval
    clear hval
    go_enter Try.func4, Try.ntmps4
    go_wp2_with fail
    rw [← hW0]
    clear hW0
    refine (tvalid_any t _ htf).mono ?_
    rintro e w1 ⟨rfl, hb⟩
    obtain ⟨hc, hf⟩ := bcell hb
    have hz := hb.size
    have hgl1 : w.heap.size < w1.heap.size := by omega
    go_wp2_with fail
    go_ret2
    exact ⟨_, by rw [HP.out.2]; rfl, by rw [HP.out.1]; exact hv0.below (below_step hb0 hb), below_step hb0 hb⟩
  have HV := Lib.hid hval
  clear hval
  rcases idx_cases l t.id with ⟨hi, hii⟩ | ⟨k, hi, hk, hii⟩
  rotate_left 1
  · have HP := Lib.hid (tput_old HV.out hi)
    have HI := Lib.hid hii
    clear hi hii
    have hki : (k : Int) < (l.length : Int) := by omega
    have hmk := fun W => run_make_rowZ (P := Try.prog) 22 24 i0 _ Try.underlying22 hi0 hz0 .i64 .i64 l.length l.length (l.length : Int) (l.length : Int) rfl rfl (by omega) (by rw [hz2]; omega) (by omega) W
    generalize hZ : madeCells _ (l.length * i0.size) = Z at hmk
    have HZS : Hid (Z.size = l.length * 6) := by unfold Hid; rw [← hZ, size_madeCells, hz1]
    clear hZ
    go_enter Try.func4, Try.ntmps4
    go_wp2_with fail
    rw [← hW0]
    clear hW0
    refine (tvalid_any t _ htf).mono ?_
    rintro e w1 ⟨rfl, hb⟩
    obtain ⟨hc, hf⟩ := bcell hb
    have hz := hb.size
    have hgl1 : w.heap.size < w1.heap.size := by omega
    rw [HV.out]
    go_wp2_with fail
    refine (index_any l _ t.id _ hl ((hv0.below hb0).below hb) hfs).mono ?_
    rintro e w2 ⟨rfl, hb'⟩
    rw [HI.out]
    have hb2 := hb.trans (hb'.mono hz)
    clear hc hf hz hgl1 hb hb'
    obtain ⟨hc, hf⟩ := bcell hb2
    have hz := hb2.size
    have hgl1 : w.heap.size < w2.heap.size := by omega
    have hblk := Blk.new w2 Z 24
    have Q1 : Hid (SlAt (w2.alloc (.cells Z 24)) 6 A (l.map Tok.cells)) := ((hsl.below hb0).below hb2).below (below_alloc (Below.refl _ _) _)
    have Q2 : Hid (l.length = Nat.min l.length l.length) := by simp [Hid]
    have Q4 : Hid (0 + l.length * 6 ≤ Z.toList.length) := by unfold Hid; have := HZS.out; simp; omega
    go_wp2_with (first
      | (refine wpList_copy_to (enc := Tok.cells) rfl (.tmp 27) (.tmp 28) _ _ rfl 24 6 Try.underlying22 i0 hi0 hz1 Tok.cells_len (by omega) Tok.one _ _ _ _ _ _ rfl rfl w2.heap.size 0 Z.toList 24 hblk l Q1.out Q2.out (fun _ => rfl) Q4.out ?_; intro w3 hblk3 hgrow
         have hb3 : Below W0.heap.size W0 w3 := (below_alloc hb2 (.cells Z 24)).grown hgrow (by simp; omega) (fun j hj => by injection hj with hj; omega)
         have hfl := flat_len Tok.cells 6 Tok.cells_len l
         have he : splice Z.toList 0 (l.flatMap Tok.cells) = l.flatMap Tok.cells := by rw [splice_head, List.drop_of_length_le (by rw [Array.length_toList, HZS.out]; omega), List.append_nil]
         rw [he] at hblk3
         obtain ⟨hex, hfr⟩ := blk6 hblk3 (k * 6) (by omega)
         obtain ⟨u0, d0⟩ := hex 0 (by omega)
         obtain ⟨u1, d1⟩ := hex 1 (by omega)
         obtain ⟨u2, d2⟩ := hex 2 (by omega)
         obtain ⟨u3, d3⟩ := hex 3 (by omega)
         obtain ⟨u4, d4⟩ := hex 4 (by omega)
         obtain ⟨u5, d5⟩ := hex 5 (by omega)
         rw [Nat.add_zero] at d0
         have hgl3 : w.heap.size < w3.heap.size := Nat.lt_of_lt_of_le hgl hb3.size
         have hbx3 : ∀ j, w3.cell? ⟨w.heap.size, j, none⟩ = (#[.string t.id, .string t.group, .string t.contract, .int .i64 t.kind, .int .i64 t.status, .int .i64 t.expiry] : Array Value)[j]? := fun j => (hb3.cell (p := ⟨w.heap.size, j, none⟩) hgl).trans (hbx j)
         clear hc hf hex he hfl hmk hgrow))
    obtain ⟨w4, hw4⟩ : ∃ w4, w4 = storeRow w3 w2.heap.size (k * 6) t.cells := ⟨_, rfl⟩
    have hblk4 := hblk3.store t.cells (k * 6)
    rw [set_row Tok.cells_len (by omega) l k hk t, ← hw4] at hblk4
    have hb4 : Below W0.heap.size W0 w4 := hw4 ▸ storeRow_below hz t.cells w3 (k * 6) hb3
    rw [show ((((((w3).setCell ⟨w2.heap.size, k * 6, none⟩ (.string t.id)).setCell ⟨w2.heap.size, k * 6 + 1, none⟩ (.string t.group)).setCell ⟨w2.heap.size, k * 6 + 2, none⟩ (.string t.contract)).setCell ⟨w2.heap.size, k * 6 + 3, none⟩ (.int .i64 t.kind)).setCell ⟨w2.heap.size, k * 6 + 4, none⟩ (.int .i64 t.status)).setCell ⟨w2.heap.size, k * 6 + 5, none⟩ (.int .i64 t.expiry) = w4 from hw4.symm]
    go_ret2
    exact ⟨_, by rw [HP.out.2]; rfl, by rw [HP.out.1]; exact hblk4.isSl Tok.cells_len (by simp) (by unfold maxLen; omega), below_step hb0 hb4⟩
  by_cases hfull : 128 ≤ l.length
  · have HP := Lib.hid (tput_full HV.out hi hfull)
    have HI := Lib.hid hii
    clear hi hii
    have hfi : (128 : Int) ≤ (l.length : Int) := by omega
    go_enter Try.func4, Try.ntmps4
    go_wp2_with fail
    rw [← hW0]
    clear hW0
    refine (tvalid_any t _ htf).mono ?_
    rintro e w1 ⟨rfl, hb⟩
    obtain ⟨hc, hf⟩ := bcell hb
    have hz := hb.size
    have hgl1 : w.heap.size < w1.heap.size := by omega
    rw [HV.out]
    go_wp2_with fail
    refine (index_any l _ t.id _ hl ((hv0.below hb0).below hb) hfs).mono ?_
    rintro e w2 ⟨rfl, hb'⟩
    rw [HI.out]
    have hb2 := hb.trans (hb'.mono hz)
    clear hc hf hz hgl1 hb hb'
    obtain ⟨hc, hf⟩ := bcell hb2
    have hz := hb2.size
    have hgl1 : w.heap.size < w2.heap.size := by omega
    go_wp2_with fail
    go_ret2
    exact ⟨_, by rw [HP.out.2]; rfl, by rw [HP.out.1]; exact hv0.below (below_step hb0 hb2), below_step hb0 hb2⟩
  · have HP := Lib.hid (tput_new HV.out hi hfull)
    have HI := Lib.hid hii
    clear hi hii
    have hfi : (l.length : Int) < 128 := by omega
    have hmk := fun W => run_make_rowZ (P := Try.prog) 22 24 i0 _ Try.underlying22 hi0 hz0 .i64 .i64 (l.length + 1) (l.length + 1) ((l.length : Int) + 1) ((l.length : Int) + 1) (by omega) (by omega) (by omega) (by rw [hz2]; omega) (by omega) W
    generalize hZ : madeCells _ ((l.length + 1) * i0.size) = Z at hmk
    have HZS : Hid (Z.size = (l.length + 1) * 6) := by unfold Hid; rw [← hZ, size_madeCells, hz1]
    clear hZ
    have h1t := htf.1
    go_enter Try.func4, Try.ntmps4
    go_wp2_with fail
    rw [← hW0]
    clear hW0
    refine (tvalid_any t _ htf).mono ?_
    rintro e w1 ⟨rfl, hb⟩
    obtain ⟨hc, hf⟩ := bcell hb
    have hz := hb.size
    have hgl1 : w.heap.size < w1.heap.size := by omega
    rw [HV.out]
    go_wp2_with fail
    refine (index_any l _ t.id _ hl ((hv0.below hb0).below hb) hfs).mono ?_
    rintro e w2 ⟨rfl, hb'⟩
    rw [HI.out]
    have hb2 := hb.trans (hb'.mono hz)
    clear hc hf hz hgl1 hb hb'
    obtain ⟨hc, hf⟩ := bcell hb2
    have hz := hb2.size
    have hgl1 : w.heap.size < w2.heap.size := by omega
    go_wp2_with fail
    refine (key_any t.id _ h1t).mono ?_
    rintro e w3 ⟨rfl, hb'⟩
    have hb3 := hb2.trans (hb'.mono hz)
    clear hc hf hz hgl1 hb2 hb'
    go_wp2_with fail
    go_loopw [9] (fun i wr => ∃ p : Nat, p ≤ l.length ∧ i = .int .i64 p ∧ Below W0.heap.size W0 wr ∧ Hid ((l.take p).all (fun x => lessT x t) = true)) (fun i _ => l.length - (intOf i).toNat)
    case atStart => exact ⟨0, by omega, rfl, hb3, rfl⟩
    case round =>
      obtain ⟨p, hp, rfl, hbw, HA⟩ := hrel
      clear hb3
      have hpi : (p : Int) ≤ (l.length : Int) := by omega
      by_cases hcont : ∃ hlt : p < l.length, lessT l[p] t = true
      · obtain ⟨hlt, hle⟩ := hcont
        have HT := Lib.hid (all_take' l (fun x => lessT x t) hlt)
        have HLE := Lib.hid hle
        have hlc := (less_cap l[p] t).trans hle
        clear hle
        have h1 := (hfs _ (List.getElem_mem hlt)).1
        obtain ⟨b, off, rfl, hbb, c0, c1, c2, c3, c4, c5⟩ := tok_at ((hsl.below hb0).below hbw) hlt
        go_wp2_with fail
        refine (key_any l[p].id _ h1).mono ?_
        rintro e w4 ⟨rfl, hb'⟩
        go_wp2_with fail
        go_roundw
        case measure => simp [intOf]; omega
        case rel => exact ⟨p + 1, by omega, by go_num, hbw.trans (hb'.mono hbw.size), by show _ = _; rw [HT.out, HA.out, HLE.out]; rfl⟩
      · have HIN := Lib.hid (ins_at (t := t) HA.out (fun hlt => by
          cases h : lessT l[p] t with
          | false => rfl
          | true => exact absurd ⟨hlt, h⟩ hcont))
        have hblkZ : ∀ W : World, Blk (W.alloc (.cells Z 24)) W.heap.size 24 Z.toList := fun W => Blk.new W Z _
        have HZ2 : Hid (Z.toList.length = (l.length + 1) * 6) := by unfold Hid; rw [Array.length_toList]; exact HZS.out
        have HLK : Hid ((l.take p).length = p) := by unfold Hid; rw [List.length_take]; omega
        have HLD : Hid ((l.drop p).length = l.length - p) := by unfold Hid; rw [List.length_drop]
        have hone : ∃ W, Below W0.heap.size W0 W ∧ Hid (W = W) := ⟨wr, hbw, rfl⟩
        clear hone
        have hmain : ∀ W : World, Below W0.heap.size W0 W → Hid (SlAt (W.alloc (.cells Z 24)) 6 A ((l.take p).map Tok.cells)) := fun W hW => by
          unfold Hid; rw [List.map_take]; exact (((hsl.below hb0).below hW).below (below_alloc (Below.refl _ _) _)).take p
        have HM := Lib.hid hmain
        clear hmain
        have Q2 : Hid ((l.take p).length = Nat.min p (l.length + 1)) := by unfold Hid; rw [HLK.out]; exact (Nat.min_eq_left (by omega)).symm
        have Q4 : Hid (0 + (l.take p).length * 6 ≤ Z.toList.length) := by unfold Hid; rw [HLK.out, HZ2.out]; omega
        have hsplit : (∃ (x : Tok) (b off : Nat), ∃ hlt : p < l.length, A = some ⟨b, off, none⟩ ∧ b < wr.heap.size ∧ wr.cell? ⟨b, off + p * 6, none⟩ = some (.string x.id) ∧ x.id.size ≤ maxLen ∧ Op.bytesLess (capS x.id).toList (capS t.id).toList = false) ∨ ¬ p < l.length := by
          by_cases hlt : p < l.length
          · left
            obtain ⟨b, off, hA, hbb, c0, _⟩ := tok_at ((hsl.below hb0).below hbw) hlt
            refine ⟨l[p], b, off, hlt, hA, hbb, c0, (hfs _ (List.getElem_mem hlt)).1, ?_⟩
            rw [less_cap]
            cases h : lessT l[p] t with
            | false => rfl
            | true => exact absurd ⟨hlt, h⟩ hcont
          · exact .inr hlt
        clear hcont
        have HFIN : ∀ (wx : World), Below W0.heap.size W0 wx → ∀ (wz : World), Blk wz wx.heap.size 24 (splice (setAll (splice Z.toList 0 ((l.take p).flatMap Tok.cells)) (p * 6) t.cells) ((p + 1) * 6) ((l.drop p).flatMap Tok.cells)) →
            IsSl wz 6 (.slice (some ⟨wx.heap.size, 0, none⟩) (l.length + 1) (l.length + 1)) ((insT l t).map Tok.cells) := fun wx _ wz hz => by
          have hft := flat_len Tok.cells 6 Tok.cells_len (l.take p)
          rw [HLK.out] at hft
          have hfd := flat_len Tok.cells 6 Tok.cells_len (l.drop p)
          rw [HLD.out] at hfd
          have e : (p + 1) * 6 = ((l.take p).flatMap Tok.cells).length + t.cells.length := by rw [hft, Tok.cells_len]; omega
          rw [e, ← hft, splice_three (by rw [HZ2.out, hft, hfd, Tok.cells_len]; omega)] at hz
          have e2 : (l.take p).flatMap Tok.cells ++ t.cells ++ (l.drop p).flatMap Tok.cells = (insT l t).flatMap Tok.cells := by rw [HIN.out]; simp
          rw [e2] at hz
          exact hz.isSl Tok.cells_len (insT_len l t) (by unfold maxLen; omega)
        have HF := Lib.hid HFIN
        clear HFIN
        rcases hsplit with ⟨x, b, off, hlt, hA, hbb, c0, hx1, hle⟩ | hge
        · obtain ⟨AX, hAX⟩ : ∃ AX : Option Addr, AX = A := ⟨_, rfl⟩
          have hki : (p : Int) < (l.length : Int) := by omega
          go_wp2_with fail
          refine (key_any x.id _ hx1).mono ?_
          rintro e wX ⟨rfl, hb'⟩
          have hbX := hbw.trans (hb'.mono hbw.size)
          (try rw [← hA])
          clear hA c0 hbb
          obtain ⟨hc, hf⟩ := bcell hbX
          have hzX := hbX.size
          go_wp2_with (first
            | (refine wpList_copy_to (enc := Tok.cells) rfl (.tmp 62) (.tmp 65) _ _ rfl 24 6 Try.underlying22 i0 hi0 hz1 Tok.cells_len (by omega) Tok.one _ _ _ _ _ _ rfl rfl wX.heap.size 0 Z.toList 24 (hblkZ wX) (l.take p) (HM.out wX hbX).out Q2.out (fun _ => rfl) Q4.out ?_; intro w5 hblk5 hgrow
               have hb5 : Below W0.heap.size W0 w5 := (below_alloc hbX (.cells Z 24)).grown hgrow (by simp; omega) (fun j hj => by injection hj with hj; omega)
               have hlen5 : (splice Z.toList 0 ((l.take p).flatMap Tok.cells)).length = (l.length + 1) * 6 := by rw [length_splice _ _ _ (by rw [flat_len Tok.cells 6 Tok.cells_len, HLK.out, HZ2.out]; omega), HZ2.out]
               obtain ⟨hex, hfr⟩ := blk6 hblk5 (p * 6) (by omega)
               obtain ⟨u0, d0⟩ := hex 0 (by omega)
               obtain ⟨u1, d1⟩ := hex 1 (by omega)
               obtain ⟨u2, d2⟩ := hex 2 (by omega)
               obtain ⟨u3, d3⟩ := hex 3 (by omega)
               obtain ⟨u4, d4⟩ := hex 4 (by omega)
               obtain ⟨u5, d5⟩ := hex 5 (by omega)
               rw [Nat.add_zero] at d0
               have HL5 := Lib.hid hlen5
               have hgl5 : w.heap.size < w5.heap.size := Nat.lt_of_lt_of_le hgl hb5.size
               have hbx5 : ∀ j, w5.cell? ⟨w.heap.size, j, none⟩ = (#[.string t.id, .string t.group, .string t.contract, .int .i64 t.kind, .int .i64 t.status, .int .i64 t.expiry] : Array Value)[j]? := fun j => (hb5.cell (p := ⟨w.heap.size, j, none⟩) hgl).trans (hbx j)
               have hpn : (p : Int) < (l.length : Int) + 1 := by omega
               clear hc hf hex hlen5 hmk hgrow))
          obtain ⟨w6, hw6⟩ : ∃ w6, w6 = storeRow w5 wX.heap.size (p * 6) t.cells := ⟨_, rfl⟩
          have hblk6 := hblk5.store t.cells (p * 6)
          rw [← hw6] at hblk6
          have hb6 : Below W0.heap.size W0 w6 := hw6 ▸ storeRow_below hzX t.cells w5 (p * 6) hb5
          rw [show ((((((w5).setCell ⟨wX.heap.size, p * 6, none⟩ (.string t.id)).setCell ⟨wX.heap.size, p * 6 + 1, none⟩ (.string t.group)).setCell ⟨wX.heap.size, p * 6 + 2, none⟩ (.string t.contract)).setCell ⟨wX.heap.size, p * 6 + 3, none⟩ (.int .i64 t.kind)).setCell ⟨wX.heap.size, p * 6 + 4, none⟩ (.int .i64 t.status)).setCell ⟨wX.heap.size, p * 6 + 5, none⟩ (.int .i64 t.expiry) = w6 from hw6.symm]
          clear hw6 hfr d0 d1 d2 d3 d4 d5 hbx5
          obtain ⟨D, hD⟩ : ∃ D, D = (some ⟨wX.heap.size, 0, none⟩ : Option Addr) := ⟨_, rfl⟩
          rw [← hD]
          have HDD := Lib.hid hD
          clear hD
          obtain ⟨A', HA'⟩ : ∃ A', Hid (A = A') := ⟨A, rfl⟩
          obtain ⟨D2, hD2⟩ : ∃ D2, subAddr D (l.length + 1) (p + 1) 6 = D2 := ⟨_, rfl⟩
          obtain ⟨A2, hA2⟩ : ∃ A2, subAddr A c p 6 = A2 := ⟨_, rfl⟩
          have hD3 : (if l.length + 1 = p + 1 then D else Option.map (fun x => x.add ((p + 1) * 6)) D) = D2 := hD2
          have hD4 : (if l.length = p then D else Option.map (fun x => x.add ((p + 1) * 6)) D) = D2 := by rw [← hD2]; unfold subAddr; simp
          have hA3 : (if c = p then A else Option.map (fun x => x.add (p * 6)) A) = A2 := hA2
          have HD2 := Lib.hid hD2
          have HA2 := Lib.hid hA2
          have hs1 : (0 : Int) ≤ (p : Int) + 1 := by omega
          have hs2 : (p : Int) + 1 ≤ (l.length : Int) + 1 := by omega
          have hs3 : ((p : Int) + 1).toNat = p + 1 := by omega
          have hs5 : p + 1 ≤ l.length + 1 := by omega
          have hs4 : IntKind.i64.wrap ((p : Int) + 1) = (p : Int) + 1 := IntWalk.i64_in _ (by omega)
          clear hD2 hA2
          go_wp2_with fail
          go_still_tail 7, (by kernel_rfl)
          change wpList _ _ _ _ _ w6.drew
          clear hs1 hs2 hs3 hs4 hs5 hD3 hD4 hA3
          generalize hw7 : w6.drew = w7
          have hb7 : Below W0.heap.size W0 w7 := hw7 ▸ hb6.drew
          have hblk7 : Blk w7 wX.heap.size 24 (setAll (splice Z.toList 0 ((l.take p).flatMap Tok.cells)) (p * 6) t.cells) := by rw [← hw7]; exact hblk6
          clear hw7
          refine wpList_copy_to (enc := Tok.cells) rfl (.tmp 74) (.tmp 77) _ _ rfl 24 6 Try.underlying22 i0 hi0 hz1 Tok.cells_len (by omega) Tok.one _ _ _ _ _ _ rfl rfl wX.heap.size ((p + 1) * 6) _ 24 hblk7 (l.drop p) ?_ ?_ ?_ ?_ ?_
          · rw [← HA2.out, List.map_drop]
            exact subAddr_at ((hsl.below hb0).below hb7) (by simpa using hlc)
          · rw [HLD.out]
            exact (Nat.min_eq_left (by omega)).symm
          · intro hpos
            rw [← HD2.out, HDD.out]
            exact subAddr_own (by rw [HLD.out] at hpos; omega)
          · rw [setAll_len, HL5.out, HLD.out]; omega
          · intro w8 hblk8 hgrow8
            have hb8 : Below W0.heap.size W0 w8 := hb7.grown hgrow8 hb7.size (fun j hj => by injection hj with hj; omega)
            have hfin := HF.out wX hbX w8 hblk8
            rw [← HDD.out] at hfin
            clear hgrow8
            go_wp2_with fail
            go_ret2
            exact ⟨_, by rw [HP.out.2]; rfl, by rw [HP.out.1]; exact hfin, below_step hb0 hb8⟩
        · obtain ⟨wX, hwX⟩ : ∃ wX : World, wX = wr := ⟨_, rfl⟩
          subst hwX
          have hbX := hbw
          obtain ⟨hc, hf⟩ := bcell hbX
          have hzX := hbX.size
          go_wp2_with (first
            | (refine wpList_copy_to (enc := Tok.cells) rfl (.tmp 62) (.tmp 65) _ _ rfl 24 6 Try.underlying22 i0 hi0 hz1 Tok.cells_len (by omega) Tok.one _ _ _ _ _ _ rfl rfl wX.heap.size 0 Z.toList 24 (hblkZ wX) (l.take p) (HM.out wX hbX).out Q2.out (fun _ => rfl) Q4.out ?_; intro w5 hblk5 hgrow
               have hb5 : Below W0.heap.size W0 w5 := (below_alloc hbX (.cells Z 24)).grown hgrow (by simp; omega) (fun j hj => by injection hj with hj; omega)
               have hlen5 : (splice Z.toList 0 ((l.take p).flatMap Tok.cells)).length = (l.length + 1) * 6 := by rw [length_splice _ _ _ (by rw [flat_len Tok.cells 6 Tok.cells_len, HLK.out, HZ2.out]; omega), HZ2.out]
               obtain ⟨hex, hfr⟩ := blk6 hblk5 (p * 6) (by omega)
               obtain ⟨u0, d0⟩ := hex 0 (by omega)
               obtain ⟨u1, d1⟩ := hex 1 (by omega)
               obtain ⟨u2, d2⟩ := hex 2 (by omega)
               obtain ⟨u3, d3⟩ := hex 3 (by omega)
               obtain ⟨u4, d4⟩ := hex 4 (by omega)
               obtain ⟨u5, d5⟩ := hex 5 (by omega)
               rw [Nat.add_zero] at d0
               have HL5 := Lib.hid hlen5
               have hgl5 : w.heap.size < w5.heap.size := Nat.lt_of_lt_of_le hgl hb5.size
               have hbx5 : ∀ j, w5.cell? ⟨w.heap.size, j, none⟩ = (#[.string t.id, .string t.group, .string t.contract, .int .i64 t.kind, .int .i64 t.status, .int .i64 t.expiry] : Array Value)[j]? := fun j => (hb5.cell (p := ⟨w.heap.size, j, none⟩) hgl).trans (hbx j)
               have hpn : (p : Int) < (l.length : Int) + 1 := by omega
               clear hc hf hex hlen5 hmk hgrow))
          obtain ⟨w6, hw6⟩ : ∃ w6, w6 = storeRow w5 wX.heap.size (p * 6) t.cells := ⟨_, rfl⟩
          have hblk6 := hblk5.store t.cells (p * 6)
          rw [← hw6] at hblk6
          have hb6 : Below W0.heap.size W0 w6 := hw6 ▸ storeRow_below hzX t.cells w5 (p * 6) hb5
          rw [show ((((((w5).setCell ⟨wX.heap.size, p * 6, none⟩ (.string t.id)).setCell ⟨wX.heap.size, p * 6 + 1, none⟩ (.string t.group)).setCell ⟨wX.heap.size, p * 6 + 2, none⟩ (.string t.contract)).setCell ⟨wX.heap.size, p * 6 + 3, none⟩ (.int .i64 t.kind)).setCell ⟨wX.heap.size, p * 6 + 4, none⟩ (.int .i64 t.status)).setCell ⟨wX.heap.size, p * 6 + 5, none⟩ (.int .i64 t.expiry) = w6 from hw6.symm]
          clear hw6 hfr d0 d1 d2 d3 d4 d5 hbx5
          obtain ⟨D, hD⟩ : ∃ D, D = (some ⟨wX.heap.size, 0, none⟩ : Option Addr) := ⟨_, rfl⟩
          rw [← hD]
          have HDD := Lib.hid hD
          clear hD
          obtain ⟨A', HA'⟩ : ∃ A', Hid (A = A') := ⟨A, rfl⟩
          obtain ⟨D2, hD2⟩ : ∃ D2, subAddr D (l.length + 1) (p + 1) 6 = D2 := ⟨_, rfl⟩
          obtain ⟨A2, hA2⟩ : ∃ A2, subAddr A c p 6 = A2 := ⟨_, rfl⟩
          have hD3 : (if l.length + 1 = p + 1 then D else Option.map (fun x => x.add ((p + 1) * 6)) D) = D2 := hD2
          have hD4 : (if l.length = p then D else Option.map (fun x => x.add ((p + 1) * 6)) D) = D2 := by rw [← hD2]; unfold subAddr; simp
          have hA3 : (if c = p then A else Option.map (fun x => x.add (p * 6)) A) = A2 := hA2
          have HD2 := Lib.hid hD2
          have HA2 := Lib.hid hA2
          have hs1 : (0 : Int) ≤ (p : Int) + 1 := by omega
          have hs2 : (p : Int) + 1 ≤ (l.length : Int) + 1 := by omega
          have hs3 : ((p : Int) + 1).toNat = p + 1 := by omega
          have hs5 : p + 1 ≤ l.length + 1 := by omega
          have hs4 : IntKind.i64.wrap ((p : Int) + 1) = (p : Int) + 1 := IntWalk.i64_in _ (by omega)
          clear hD2 hA2
          go_wp2_with fail
          go_still_tail 7, (by kernel_rfl)
          change wpList _ _ _ _ _ w6.drew
          clear hs1 hs2 hs3 hs4 hs5 hD3 hD4 hA3
          generalize hw7 : w6.drew = w7
          have hb7 : Below W0.heap.size W0 w7 := hw7 ▸ hb6.drew
          have hblk7 : Blk w7 wX.heap.size 24 (setAll (splice Z.toList 0 ((l.take p).flatMap Tok.cells)) (p * 6) t.cells) := by rw [← hw7]; exact hblk6
          clear hw7
          refine wpList_copy_to (enc := Tok.cells) rfl (.tmp 74) (.tmp 77) _ _ rfl 24 6 Try.underlying22 i0 hi0 hz1 Tok.cells_len (by omega) Tok.one _ _ _ _ _ _ rfl rfl wX.heap.size ((p + 1) * 6) _ 24 hblk7 (l.drop p) ?_ ?_ ?_ ?_ ?_
          · rw [← HA2.out, List.map_drop]
            exact subAddr_at ((hsl.below hb0).below hb7) (by simpa using hlc)
          · rw [HLD.out]
            exact (Nat.min_eq_left (by omega)).symm
          · intro hpos
            rw [← HD2.out, HDD.out]
            exact subAddr_own (by rw [HLD.out] at hpos; omega)
          · rw [setAll_len, HL5.out, HLD.out]; omega
          · intro w8 hblk8 hgrow8
            have hb8 : Below W0.heap.size W0 w8 := hb7.grown hgrow8 hb7.size (fun j hj => by injection hj with hj; omega)
            have hfin := HF.out wX hbX w8 hblk8
            rw [← HDD.out] at hfin
            clear hgrow8
            go_wp2_with fail
            go_ret2
            exact ⟨_, by rw [HP.out.2]; rfl, by rw [HP.out.1]; exact hfin, below_step hb0 hb8⟩

end Go.Proofs.Ytcaicdjlfgpbfaa
