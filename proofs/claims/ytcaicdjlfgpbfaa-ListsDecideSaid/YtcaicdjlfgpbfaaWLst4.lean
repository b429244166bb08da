/-
  Walks: collect of package list, at tokens that are valid.
-/
import Derived.Test.YtcaicdjlfgpbfaaWLst3
import Derived.Test.YtcaicdjlfgpbfaaMapT
namespace Go.Proofs.Ytcaicdjlfgpbfaa
open Go.RowKit Go.Lib Go.Joins Go.Maps
attribute [local go_sem] after_cell
set_option linter.unusedVariables false

theorem findK_put {l : List Tok} {x : Tok} (h : keyT x ∉ l.map keyT) : putS (findK l) (keyT x) x = findK (l ++ [x]) := by
  funext f
  unfold putS
  by_cases e : f = keyT x
  · subst e
    rw [if_pos rfl]
    have hn := findK_none h
    unfold findK at hn ⊢
    rw [List.find?_append, hn]
    simp
  · rw [if_neg e]
    unfold findK
    rw [List.find?_append]
    have : [x].find? (fun t => decide (keyT t = f)) = none := by simp [Ne.symm e]
    rw [this]
    simp
theorem findK_some {l : List Tok} {s : List UInt8} : (findK l s).isSome = decide (s ∈ l.map keyT) := by
  by_cases h : s ∈ l.map keyT
  · rw [decide_eq_true h]
    obtain ⟨x, hx, e⟩ := List.mem_map.1 h
    unfold findK
    rw [List.find?_isSome]
    exact ⟨x, hx, by simpa using e⟩
  · rw [findK_none h, decide_eq_false h]; rfl
theorem valid_status {t : Tok} (h : validT t = 0) : 1 ≤ t.status := by
  unfold validT at h
  split at h
  · simp at h
  · split at h
    · simp at h
    · omega
def zeroTk : Tok := ⟨⟨#[]⟩, ⟨#[]⟩, ⟨#[]⟩, 0, 0, 0⟩
theorem zeroTokL (w : World) : (zeroValue 24).run Try.prog w = .ok (.agg #[.string zeroTk.id, .string zeroTk.group, .string zeroTk.contract, .int .i64 zeroTk.kind, .int .i64 zeroTk.status, .int .i64 zeroTk.expiry]) w := by kernel_rfl

set_option maxRecDepth 100000 in
set_option maxHeartbeats 1600000 in
theorem lone_any (t : Tok) (w : World) (hv : validT t = 0) (hf : t.fits) :
    Calls Try.prog 30 #[.agg #[.string t.id, .string t.group, .string t.contract, .int .i64 t.kind, .int .i64 t.status, .int .i64 t.expiry]] w fun e w' => e = .returned (.int .i64 0) ∧ Below w.heap.size w w' := by
  obtain ⟨W0, hW0, hb0, hg0, hx0⟩ := box1 w #[.string t.id, .string t.group, .string t.contract, .int .i64 t.kind, .int .i64 t.status, .int .i64 t.expiry] 24
  have hst := valid_status hv
  have hne : (t.status != 0) = true := bne_iff_ne.2 (by omega)
  have HV := Lib.hid (fun w' => tvalid_any t w' hf)
  rw [hv] at HV
  clear hv hst
  go_enter Try.func30, Try.ntmps30
  go_wp2_with fail
  rw [← hW0]
  clear hW0
  go_wp2_with fail
  refine (HV.out _).mono ?_
  rintro e w1 ⟨rfl, hb1⟩
  go_wp2_with fail
  go_ret
  exact ⟨rfl, below_step hb0 hb1⟩

set_option maxRecDepth 100000 in
set_option maxHeartbeats 12800000 in
theorem collect_any (L D : List Tok) (u v : Value) (w : World) (hu : IsSl w 6 u (L.map Tok.cells)) (hv : IsSl w 6 v (D.map Tok.cells)) (hL : GoodL L) (hD : GoodL D) :
    Calls Try.prog 18 #[u, v] w fun e w' => ∃ b n, e = .returned (.tuple #[.map (some b), .int .i64 0]) ∧ TokMap Try.prog 9 w' b n (findK D) ∧ Below w.heap.size w w' := by
  obtain ⟨A, c, rfl, hlc, hcm, hsl⟩ := islen' hu
  obtain ⟨A', c', rfl, hlc', hcm', hsl'⟩ := islen' hv
  have HL := Lib.hid hL
  have HD := Lib.hid hD
  have hlen := hL.len
  have hlen' := hD.len
  have HSL := Lib.hid hsl
  have HSD := Lib.hid hsl'
  clear hL hD hu hv hsl hsl' hcm hcm' hlc hlc'
  have hmm := @run_makeMap Try.prog
  go_enter Try.func18, Try.ntmps18
  go_wp2_with fail
  go_loopw [19] (fun i wr => ∃ k : Nat, k ≤ L.length ∧ i = .int .i64 k ∧ Below w.heap.size w wr ∧ w.heap.size < wr.heap.size ∧ Hid (Taken Try.prog 9 4 wr w.heap.size ((L.take k).map keyT))) (fun i _ => L.length - (intOf i).toNat)
  case atStart => exact ⟨0, by omega, rfl, below_alloc (Below.refl _ _) _, by simp, taken_made _ _ _⟩
  case round =>
    obtain ⟨k, hk, rfl, hbw, hgm, HT⟩ := hrel
    by_cases hlt : k < L.length
    · have hki : (k : Int) < (L.length : Int) := by omega
      obtain ⟨b, off, rfl, hbb, d0, d1, d2, d3, d4, d5⟩ := tok_at (HSL.out.below hbw) hlt
      have hft := HL.out.fits _ (List.getElem_mem hlt)
      have HTK : Hid ((L.take (k + 1)).map keyT = (L.take k).map keyT ++ [keyT L[k]]) := by unfold Hid; rw [List.take_succ_eq_append_getElem hlt, List.map_append]; rfl
      generalize L[k] = X at *
      obtain ⟨W1, hW1, hb2, hg2, hx2⟩ := box1 wr #[.string X.id, .string X.group, .string X.contract, .int .i64 X.kind, .int .i64 X.status, .int .i64 X.expiry] 24
      go_wp2_with fail
      rw [← hW1]
      clear hW1
      go_wp2_with fail
      refine (lkey_any X.id _ hft.1).mono ?_
      rintro e w3 ⟨rfl, hgr⟩
      have hb4 := below_step hb2 hgr.below
      have hT3 := HT.out.below hb4
      have hsz : (capS X.id).size ≤ maxLen := by rw [cap_sizeL]; exact hft.1
      have hns : ((L.take k).map keyT).length < maxLen := by rw [List.length_map, List.length_take]; unfold maxLen; omega
      have hcd : (capS X.id).data.toList = keyT X := capS_data _
      clear hgr
      go_wp2_with (at_mapUpdate; refine wpList_update_taken _ rfl _ _ _ 43 rfl 9 4 Try.underlying9 Try.underlying43 Try.underlying4 _ _ rfl hT3 hns (capS X.id) rfl hsz rfl ?_; intro w4 hT4 hg4)
      have hb5 := below_map (below_step hbw hb4) hg4 (Nat.le_refl _) (Nat.le_trans hbw.size hb4.size)
      have hT5 : Hid (Taken Try.prog 9 4 w4 w.heap.size ((L.take (k + 1)).map keyT)) := by
        unfold Hid
        rw [HTK.out]
        rw [hcd] at hT4
        exact hT4.congr (fun x => by simp [or_comm]) (by simp)
      have hg5 : w.heap.size < w4.heap.size := Nat.lt_of_lt_of_le hgm (Nat.le_trans hb4.size hg4.size)
      clear hT3 hT4
      go_roundw
      case measure => simp [intOf]; omega
      case rel => exact ⟨k + 1, by omega, by go_num, hb5, hg5, hT5⟩
    · have hki : ¬ (k : Int) < (L.length : Int) := by omega
      clear HT
      generalize wr = w1 at *
      go_wp2_with fail
      go_loopw [31] (fun i wr => ∃ k : Nat, k ≤ D.length ∧ i = .int .i64 k ∧ Below w1.heap.size w1 wr ∧ w1.heap.size < wr.heap.size ∧ Hid (TokMap Try.prog 9 wr w1.heap.size k (findK (D.take k)))) (fun i _ => D.length - (intOf i).toNat)
      case atStart => exact ⟨0, by omega, rfl, below_alloc (Below.refl _ _) _, by simp, tokMap_made _ _⟩
      case round =>
        clear hlt hki hk
        obtain ⟨k, hk, rfl, hbx, hgm, HT⟩ := hrel
        have hbwx := below_step hbw hbx
        by_cases hlt : k < D.length
        · have hki : (k : Int) < (D.length : Int) := by omega
          obtain ⟨b, off, rfl, hbb, d0, d1, d2, d3, d4, d5⟩ := tok_at (HSD.out.below hbwx) hlt
          have hv := HD.out.valid _ (List.getElem_mem hlt)
          have hft := HD.out.fits _ (List.getElem_mem hlt)
          have hnk := new_key HD.out.sorted hlt
          have HTK : Hid (D.take (k + 1) = D.take k ++ [D[k]]) := List.take_succ_eq_append_getElem hlt
          generalize D[k] = X at *
          have HP := Lib.hid (findK_put hnk)
          have hst := valid_status hv
          have hse : (X.status == 0) = false := beq_eq_false_iff_ne.2 (by omega)
          obtain ⟨W1, hW1, hb2, hg2, hx2⟩ := box1 wr #[.string X.id, .string X.group, .string X.contract, .int .i64 X.kind, .int .i64 X.status, .int .i64 X.expiry] 24
          have HVL := Lib.hid (fun w' => lone_any X w' hv hft)
          clear hv hst
          go_wp2_with fail
          rw [← hW1]
          clear hW1
          go_wp2_with fail
          refine (HVL.out _).mono ?_
          rintro e w2 ⟨rfl, hb3⟩
          have hx3 : ∀ j, w2.cell? ⟨wr.heap.size, j, none⟩ = (#[.string X.id, .string X.group, .string X.contract, .int .i64 X.kind, .int .i64 X.status, .int .i64 X.expiry] : Array Value)[j]? := fun j => (hb3.cell (p := ⟨wr.heap.size, j, none⟩) hg2).trans (hx2 j)
          have hg3 : wr.heap.size < w2.heap.size := Nat.lt_of_lt_of_le hg2 hb3.size
          have hb13 := below_step hb2 hb3
          clear hx2 d0 d1 d2 d3 d4 d5
          go_wp2_with fail
          refine (lkey_any X.id _ hft.1).mono ?_
          rintro e w3 ⟨rfl, hgr⟩
          have hx4 : ∀ j, w3.cell? ⟨wr.heap.size, j, none⟩ = (#[.string X.id, .string X.group, .string X.contract, .int .i64 X.kind, .int .i64 X.status, .int .i64 X.expiry] : Array Value)[j]? := fun j => (hgr.below.cell (p := ⟨wr.heap.size, j, none⟩) hg3).trans (hx3 j)
          have hg4 : wr.heap.size < w3.heap.size := Nat.lt_of_lt_of_le hg3 hgr.below.size
          have hb4 := below_step hb13 hgr.below
          have hT3 := HT.out.below hb4
          have hsz : (capS X.id).size ≤ maxLen := by rw [cap_sizeL]; exact hft.1
          have hns : k < maxLen := by unfold maxLen; omega
          have hcd : (capS X.id).data.toList = keyT X := capS_data _
          have hdm : (findK (D.take k) (capS X.id).data.toList).isSome = false := by rw [hcd, findK_none hnk]; rfl
          have hz0 : findK (D.take k) (capS X.id).data.toList = none := by rw [hcd, findK_none hnk]
          clear hx3 hgr hb13 hnk
          go_wp2_with (first
            | (at_lookup; refine wpList_lookup_tok _ rfl _ _ 47 rfl 9 24 Try.underlying9 Try.underlying47 zeroTk zeroTokL _ _ _ rfl hT3 (capS X.id) rfl hsz ?_; intro cz hcz; rw [hz0] at hcz ⊢; subst hcz)
            | (at_mapUpdate; refine wpList_update_tok _ rfl _ _ _ 47 rfl 9 24 Try.underlying9 Try.underlying47 _ _ _ rfl (hT3.below (below_alloc (Below.refl _ _) _)) hns (capS X.id) rfl hsz X rfl ?_; intro w5 hT5 hg5))
          have hb5 : Below w1.heap.size w1 w5 := below_map (below_alloc (below_step hbx hb4) _) hg5 (Nat.le_refl _) (by have := hbx.size; have := hb4.size; simp; omega)
          have hT6 : Hid (TokMap Try.prog 9 w5 w1.heap.size (k + 1) (findK (D.take (k + 1)))) := by
            unfold Hid
            rw [HTK.out, ← HP.out, ← hcd]
            exact hT5
          have hg6 : w1.heap.size < w5.heap.size := by have := hg5.size; have := hb4.size; simp at this ⊢; simp at *; omega
          clear hT3 hT5
          go_roundw
          case measure => simp [intOf]; omega
          case rel => exact ⟨k + 1, by omega, by go_num, hb5, hg6, hT6⟩
        · have hki : ¬ (k : Int) < (D.length : Int) := by omega
          have hT := HT.out
          rw [List.take_of_length_le (by omega)] at hT
          go_wp2_with fail
          go_ret2
          exact ⟨_, rfl, ⟨_, hT⟩, hbwx⟩

end Go.Proofs.Ytcaicdjlfgpbfaa
