/-
  Walks: Full of package list.
-/
import Derived.Test.YtcaicdjlfgpbfaaWLst2
import Derived.Test.YtcaicdjlfgpbfaaWSortT
import Derived.Test.YtcaicdjlfgpbfaaMapB
namespace Go.Proofs.Ytcaicdjlfgpbfaa
open Go.RowKit Go.Lib Go.Joins Go.Maps
attribute [local go_sem] after_cell
set_option linter.unusedVariables false

theorem cap_sizeL (s : ByteArray) : (capS s).size = s.size := by
  unfold capS
  show (capL s.data.toList).toArray.size = s.data.size
  simp [capL]
theorem zeroBoolL (w : World) : (zeroValue 4).run Try.prog w = .ok (.bool false) w := by kernel_rfl
theorem below_map {B b : Nat} {W w w' : World} (hb : Below B W w) (hg : w.grownBy w' (some b)) (hB : B ≤ b) (hs : B ≤ w.heap.size) : Below B W w' := hb.grown hg hs (fun k hk => by injection hk with hk; omega)
theorem box2f (w : World) (cs : Array Value) (T : TypeId) (ds : Array Value) (U : TypeId) : ∃ W0, W0 = (w.alloc (.cells cs T)).alloc (.cells ds U) ∧ Below w.heap.size w W0 ∧ w.heap.size + 1 < W0.heap.size ∧ w.heap.size < W0.heap.size ∧
    (∀ j, W0.cell? ⟨w.heap.size, j, none⟩ = cs[j]?) ∧ (∀ j, W0.cell? ⟨w.heap.size + 1, j, none⟩ = ds[j]?) ∧ ∀ j, W0.frozen? ⟨w.heap.size + 1, j, none⟩ = false := by
  obtain ⟨W0, h1, h2, h3, h4, h5, h6⟩ := box2 w cs T ds U
  refine ⟨W0, h1, h2, h3, h4, h5, h6, fun j => ?_⟩
  rw [h1]
  have := World.frozen?_alloc_mark (w.alloc (.cells cs T)) ds U 0 0 j
  rw [show (w.alloc (.cells cs T)).heap.size = w.heap.size + 1 by simp] at this
  rw [this]; rfl
/-- a slice that lies apart from a block in which cells are stored -/
theorem isSl_far {w : World} {B g n c : Nat} {A : Option Addr} {rows : List (List Value)} (h : IsSl w 6 (.slice A n c) rows) (hA : 0 < n → ∃ g', A = some ⟨g', 0, none⟩ ∧ B ≤ g') (hg : g < B) (k : Nat) (vs : List Value) : IsSl (storeRow w g k vs) 6 (.slice A n c) rows := by
  obtain ⟨A', c', e, h1, h2, h3⟩ := h
  injection e with e1 e2 e3
  subst e1 e3
  refine ⟨A, c, by rw [e2], h1, h2, fun i row hi => ?_⟩
  obtain ⟨b, off, eA, hb, hc⟩ := h3 i row hi
  have hi' : i < rows.length := (List.getElem?_eq_some_iff.1 hi).1
  obtain ⟨g', eg, hgB⟩ := hA (by omega)
  rw [eA] at eg
  injection eg with eg
  injection eg with eg _ _
  subst eg
  exact ⟨b, off, eA, by rw [storeRow_size]; exact hb, fun j u hu => by rw [storeRow_far vs w k (by omega)]; exact hc j u hu⟩
/-- a new row of cells, stored anew in a later world -/
theorem rowStored {W0 w1 : World} {g n : Nat} (hb : Below W0.heap.size W0 w1) (hgl : g < W0.heap.size) {cs : Array Value} (hbx : ∀ j, W0.cell? ⟨g, j, none⟩ = cs[j]?) (hs : cs.size = n) (vs : List Value) (hv : vs.length = n) :
    (∀ j, j < n → (storeRow w1 g 0 vs).cell? ⟨g, j, none⟩ = vs[j]?) ∧ (∀ B W, B ≤ g → Below B W w1 → Below B W (storeRow w1 g 0 vs)) := by
  refine ⟨fun j hj => ?_, fun B W hB hW => storeRow_below hB vs w1 0 hW⟩
  have := storeRow_cell (g := g) vs w1 0 (fun i hi => by
    rw [(bcell hb).1 _ _ hgl, Nat.zero_add, hbx i]
    exact ⟨cs[i]'(by omega), by rw [Array.getElem?_eq_getElem]⟩) j (by omega)
  rwa [Nat.zero_add] at this

/-- a list as the calls have it: of version 0 and empty, or good -/
structure ListV (w : World) (v : Int) (u : Value) (L : List Tok) : Prop where
  sl : IsSl w 6 u (L.map Tok.cells)
  good : GoodL L
  ver : 0 ≤ v ∧ v ≤ 2
  zero : v = 0 → L = []
theorem ListV.below {w w' : World} {v : Int} {u : Value} {L : List Tok} (h : ListV w v u L) (hb : Below w.heap.size w w') : ListV w' v u L := ⟨h.sl.below hb, h.good, h.ver, h.zero⟩
theorem lvalid_all {L : List Tok} {v : Int} {u : Value} {w : World} (h : ListV w v u L) : Calls Try.prog 13 #[.agg #[.int .i64 v, u]] w fun e w' => e = .returned (.int .i64 0) ∧ Below w.heap.size w w' := by
  by_cases h0 : v = 0
  · have e := h.zero h0
    have hs := h.sl
    subst e h0
    obtain ⟨A, c, rfl, _⟩ := islen' hs
    exact lvalid_zero c A w
  · exact lvalid_any L v u w h.sl h.good ⟨by have := h.ver; omega, h.ver.2⟩

theorem new_key {L : List Tok} (h : SortedT L) {k : Nat} (hk : k < L.length) : keyT L[k] ∉ (L.take k).map keyT := fun hm => by
  obtain ⟨x, hx, e⟩ := List.mem_map.1 hm
  obtain ⟨j, hj, rfl⟩ := List.mem_take_iff_getElem.1 hx
  exact List.pairwise_iff_getElem.1 (sorted_keys h) j k (by omega) hk (by omega) e

set_option maxRecDepth 100000 in
set_option maxHeartbeats 12800000 in
theorem full_any (v0 v : Int) (L0 L : List Tok) (u0 u : Value) (w : World) (h0 : ListV w v0 u0 L0) (hu : IsSl w 6 u (L.map Tok.cells)) (hL : GoodL L) (hv : v0 < v ∧ v ≤ 2) :
    Calls Try.prog 5 #[.agg #[.int .i64 v0, u0], .int .i64 v, u] w fun e w' => ∃ u', e = .returned (.tuple #[.agg #[.int .i64 v, u'], .int .i64 0]) ∧ IsSl w' 6 u' (L.map Tok.cells) ∧ Below w.heap.size w w' := by
  obtain ⟨W0, hW0, hb0, hg1, hg0, hx0, hx1, hz1⟩ := box2f w #[.int .i64 v0, u0] 29 #[.int .i64 0, .slice none 0 0] 29
  have HV := Lib.hid (lvalid_all (h0.below hb0))
  obtain ⟨A0, c0, rfl, _, _, _⟩ := islen' h0.sl
  obtain ⟨A, c, rfl, hlc, hcm, hsl⟩ := islen' hu
  have HL := Lib.hid hL
  have hlen := hL.len
  have HSL := Lib.hid (hsl.below hb0)
  have HU := Lib.hid (hu.below hb0)
  have hver := h0.ver
  have q1 : ¬ (v < 1) := by omega
  have q2 : ¬ (2147483647 < v) := by omega
  have q3 : ¬ (v ≤ v0) := by omega
  have q4 : ¬ (128 < (L.length : Int)) := by omega
  clear hL hu hsl hcm hlc h0 hver hv
  have hmm := @run_makeMap Try.prog
  go_enter Try.func5, Try.ntmps5
  go_wp2_with fail
  rw [← hW0]
  clear hW0
  go_wp2_with fail
  refine HV.out.mono ?_
  rintro e w1 ⟨rfl, hb1⟩
  obtain ⟨hc, hf⟩ := bcell hb1
  go_wp2_with fail
  clear hc hf HV
  go_loopw [40] (fun i wr => ∃ k : Nat, k ≤ L.length ∧ i = .int .i64 k ∧ Below w1.heap.size w1 wr ∧ w1.heap.size < wr.heap.size ∧ Hid (Taken Try.prog 9 4 wr w1.heap.size ((L.take k).map keyT))) (fun i _ => L.length - (intOf i).toNat)
  case atStart => exact ⟨0, by omega, rfl, below_alloc (Below.refl _ _) _, by simp, taken_made _ _ _⟩
  case round =>
    obtain ⟨k, hk, rfl, hbw, hgm, HT⟩ := hrel
    have hbw0 := below_step hb1 hbw
    by_cases hlt : k < L.length
    · have hki : (k : Int) < (L.length : Int) := by omega
      obtain ⟨b, off, rfl, hbb, d0, d1, d2, d3, d4, d5⟩ := tok_at (HSL.out.below hbw0) hlt
      have hv := HL.out.valid _ (List.getElem_mem hlt)
      have hft := HL.out.fits _ (List.getElem_mem hlt)
      have hnk := new_key HL.out.sorted hlt
      have HTK : Hid ((L.take (k + 1)).map keyT = (L.take k).map keyT ++ [keyT L[k]]) := by unfold Hid; rw [List.take_succ_eq_append_getElem hlt, List.map_append]; rfl
      generalize L[k] = X at *
      obtain ⟨W1, hW1, hb2, hg2, hx2⟩ := box1 wr #[.string X.id, .string X.group, .string X.contract, .int .i64 X.kind, .int .i64 X.status, .int .i64 X.expiry] 24
      have HVL := Lib.hid (fun w' => tvalid_any X w' hft)
      rw [hv] at HVL
      clear hv
      go_wp2_with fail
      rw [← hW1]
      clear hW1
      go_wp2_with fail
      refine (HVL.out _).mono ?_
      rintro e w2 ⟨rfl, hb3⟩
      have hx3 : w2.cell? ⟨wr.heap.size, 0, none⟩ = some (.string X.id) := (hb3.cell (p := ⟨wr.heap.size, 0, none⟩) hg2).trans (hx2 0)
      have hb13 := below_step hb2 hb3
      clear hx2 d0 d1 d2 d3 d4 d5
      go_wp2_with fail
      refine (lkey_any X.id _ hft.1).mono ?_
      rintro e w3 ⟨rfl, hgr⟩
      have hb4 := below_step hb13 hgr.below
      have hT3 := HT.out.below hb4
      have hdm : decide ((capS X.id).data.toList ∈ (L.take k).map keyT) = false := by rw [capS_data]; simpa using hnk
      have hsz : (capS X.id).size ≤ maxLen := by rw [cap_sizeL]; exact hft.1
      have hns : ((L.take k).map keyT).length < maxLen := by rw [List.length_map, List.length_take]; unfold maxLen; omega
      have hcd : (capS X.id).data.toList = keyT X := capS_data _
      clear hx3 hgr hb13
      go_wp2_with (first
        | (at_lookup; refine wpList_lookup_taken _ rfl _ _ 43 rfl 9 4 Try.underlying9 Try.underlying43 Try.underlying4 zeroBoolL _ _ rfl hT3 (capS X.id) rfl hsz ?_; rw [hdm])
        | (at_mapUpdate; refine wpList_update_taken _ rfl _ _ _ 43 rfl 9 4 Try.underlying9 Try.underlying43 Try.underlying4 _ _ rfl hT3 hns (capS X.id) rfl hsz rfl ?_; intro w4 hT4 hg4))
      have hb5 := below_map (below_step hbw hb4) hg4 (Nat.le_refl _) (Nat.le_trans hbw.size hb4.size)
      have hT5 : Hid (Taken Try.prog 9 4 w4 w1.heap.size ((L.take (k + 1)).map keyT)) := by
        unfold Hid
        rw [HTK.out]
        rw [hcd] at hT4
        exact hT4.congr (fun x => by simp [or_comm]) (by simp)
      have hg5 : w1.heap.size < w4.heap.size := Nat.lt_of_lt_of_le hgm (Nat.le_trans hb4.size hg4.size)
      clear hT3 hT4 hdm hnk
      go_roundw
      case measure => simp [intOf]; omega
      case rel => exact ⟨k + 1, by omega, by go_num, hb5, hg5, hT5⟩
    · have hki : ¬ (k : Int) < (L.length : Int) := by omega
      clear HT
      go_wp2_with fail
      refine (cloneTok_any L _ _ (HU.out.below hbw0) (by omega)).mono ?_
      rintro e w2 ⟨A2, c2, rfl, hM, hb2⟩
      have hbw2 := below_step hbw0 hb2
      have hB : W0.heap.size ≤ wr.heap.size := hbw0.size
      have HA : Hid (0 < L.length → ∃ g', A2 = some ⟨g', 0, none⟩ ∧ wr.heap.size ≤ g') := fun hp => by
        obtain ⟨g', e, h1, _⟩ := hM.own hp
        exact ⟨g', e, h1⟩
      go_wp2_with fail
      refine (sortTok_any hbw2 hB hM HL.out (sorted_keys HL.out.sorted) (fun x => Iff.rfl) (by omega)).mono ?_
      rintro e w3 ⟨rfl, hs3, hb3⟩
      have hx3 : ∀ j, w3.cell? ⟨w.heap.size + 1, j, none⟩ = (#[.int .i64 0, .slice none 0 0] : Array Value)[j]? := fun j => (hb3.cell (p := ⟨w.heap.size + 1, j, none⟩) hg1).trans (hx1 j)
      have hf3 : ∀ j, w3.frozen? ⟨w.heap.size + 1, j, none⟩ = false := fun j => (hb3.frozen (p := ⟨w.heap.size + 1, j, none⟩) hg1).trans (hz1 j)
      go_wp2_with fail
      obtain ⟨hx4, hb4⟩ := rowStored hb3 hg1 hx1 rfl [.int .i64 v, .slice A2 L.length c2] rfl
      have hs4 := isSl_far hs3 HA.out (show w.heap.size + 1 < wr.heap.size by omega) 0 [.int .i64 v, .slice A2 L.length c2]
      have hb5 := hb4 w.heap.size w (by omega) (below_step hb0 hb3)
      generalize hw5 : World.setCell _ _ _ = w5
      rw [show storeRow w3 (w.heap.size + 1) 0 [.int .i64 v, .slice A2 L.length c2] = w5 from hw5] at hx4 hs4 hb5
      have d0 := hx4 0 (by simp)
      have d1 := hx4 1 (by simp)
      exact bodyPost_ret (v := .tuple #[.agg #[.int .i64 v, .slice A2 L.length c2], .int .i64 0]) (by simp [results, Try.results5, go_sem, d0, d1]) rfl ⟨_, rfl, hs4, hb5⟩

end Go.Proofs.Ytcaicdjlfgpbfaa
