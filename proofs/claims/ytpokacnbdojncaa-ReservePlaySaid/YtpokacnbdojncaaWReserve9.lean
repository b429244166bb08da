/-
  Walks: Put, in the reference.
-/
import Derived.Test.YtpokacnbdojncaaWReserve8
import Derived.Test.YtpokacnbdojncaaAp2
namespace Go.Proofs.Ytpokacnbdojncaa
open Go.RowKit Go.Lib Go.Joins
set_option linter.unusedVariables false

theorem Resv.one (r : Resv) : ∀ u ∈ r.cells, u.oneCell' = true := by
  intro u hu; simp [Resv.cells] at hu; rcases hu with rfl | rfl | rfl | rfl | rfl <;> rfl

def DistinctIds (l : List Resv) : Prop := (l.map (·.id)).Nodup

theorem place_none {l : List Resv} (hd : DistinctIds l) {k : Nat} (h : k < l.length) {id : Int} (hid : l[k].id = id) : placeI (l.take k) id < 0 := by
  unfold placeI placeO
  have hn : (l.take k).findIdx? (fun x => x.id == id) = none := by
    rw [List.findIdx?_eq_none_iff]
    intro x hx
    rw [List.mem_take_iff_getElem] at hx
    obtain ⟨i, hi, rfl⟩ := hx
    have hi' : i < k := by omega
    unfold DistinctIds List.Nodup at hd
    rw [List.pairwise_iff_getElem] at hd
    have := hd i k (by simp; omega) (by simpa using h) hi'
    simp only [List.getElem_map] at this
    rw [hid] at this
    simpa using this
  simp only [hn]
  omega

theorem hat5 {l : List Resv} {W : World} {base g cap n : Nat} {T : TypeId} (h : W.ownsRow base T 5 (.slice (some ⟨g, 0, none⟩) n cap) n (l.flatMap Resv.cells)) (hn : l.length = n) {k : Nat} (hk : k < l.length) :
    W.cell? ⟨g, k * 5, none⟩ = some (.int .i64 l[k].id) ∧ W.cell? ⟨g, k * 5 + 1, none⟩ = some (.int .i64 l[k].conn) := by
  have hat : ∀ i u, (l[k]).cells[i]? = some u → W.cell? ⟨g, k * 5 + i, none⟩ = some u := fun i u hu => by
    have hi5 : i < 5 := by have := (List.getElem?_eq_some_iff.1 hu).1; simpa [Resv.cells] using this
    rw [h.cellAt (k * 5 + i) (by omega)]
    exact flat_at Resv.cells 5 Resv.cells_len l k l[k] (List.getElem?_eq_getElem hk) i u hu
  exact ⟨hat 0 _ rfl, hat 1 _ rfl⟩

theorem app_set (l : List Resv) (r : Resv) : (l.flatMap Resv.cells) ++ [.int .i64 r.id, .int .i64 r.conn, .string r.token, .string r.group, .int .i64 r.expiry] = (l ++ [r]).flatMap Resv.cells := by
  rw [List.flatMap_append]; simp [Resv.cells]

def Stop (p : Prop) : Prop := p
theorem stopper {p : Prop} (h : Stop p) : p := h

set_option maxHeartbeats 3200000 in
theorem refPut_any (l : List Resv) (v : Value) (r : Resv) (now : Int) (w : World) (hl : l.length ≤ 4096) (hv : IsSl w 5 v (l.map Resv.cells)) (hr : r.ok) (hd : DistinctIds l) :
    Calls Try.prog 14 #[v, .agg #[.int .i64 r.id, .int .i64 r.conn, .string r.token, .string r.group, .int .i64 r.expiry], .int .i64 now] w
      fun e w' => ∃ u, e = .returned (.tuple #[u, .int .i64 (putE l r now)]) ∧ IsSl w' 5 u ((putL l r now).map Resv.cells) ∧ Below w.heap.size w w' := by
  have hv0 := hv
  obtain ⟨A, c, rfl, hlc, hcm, hsl⟩ := islen hv
  clear hv
  have HD := Lib.hid hd
  clear hd
  obtain ⟨W0, hW0, hb0, hgl, hbx⟩ := box1 w #[.int .i64 r.id, .int .i64 r.conn, .string r.token, .string r.group, .int .i64 r.expiry] 23
  obtain ⟨i0, hi, hz0, hz1, hz2⟩ := info_parts resvInfo
  by_cases hvr : validR r = 0
  · have HVR := Lib.hid hvr
    clear hvr
    by_cases hex : r.expiry ≤ now
    · have HP := Lib.hid (put_late (l := l) HVR.out hex)
      go_enter Try.func14, Try.ntmps14
      go_wp2_with fail
      rw [← hW0]
      clear hW0
      refine (refRvalid_any r _ hr).mono ?_
      rintro e w1 ⟨rfl, hb⟩
      have hbw := hb
      obtain ⟨hc, hf⟩ := bcell hb
      rw [HVR.out]
      clear hb
      go_wp2_with fail
      go_ret2
      exact ⟨_, by rw [HP.out.2]; rfl, by rw [HP.out.1]; exact hv0.below (below_step hb0 hbw), below_step hb0 hbw⟩
    · have hex' : now < r.expiry := by omega
      clear hex
      go_enter Try.func14, Try.ntmps14
      go_wp2_with fail
      rw [← hW0]
      clear hW0
      refine (refRvalid_any r _ hr).mono ?_
      rintro e w1 ⟨rfl, hb⟩
      have hb1 := hb
      obtain ⟨hc, hf⟩ := bcell hb
      rw [HVR.out]
      have hsl1 := (hsl.below hb0).below hb
      have hg1 := Nat.lt_of_lt_of_le hgl hb.size
      have hs1 := hb.size
      clear hb
      go_wp2_with (at_builtin; refine stopper ?_)
      unfold Stop
      refine wpList_append_list _ rfl (.tmp 23) (.tmp 24) _ rfl W0.heap.size 23 i0 _ 5 56 Try.underlying30 hi hz0 hz1 hz2 rfl (by decide) Resv.cells_len Resv.one (.slice (some ⟨w1.heap.size, 0, none⟩) 0 0) 0 [] rfl (World.ownsRow_lit _ #[] 0 hs1 (by decide) rfl) A c l rfl (hsl1.below ((Below.refl _ _).alloc (Nat.le_refl _) _)) (by unfold maxLen; omega) (by omega) (by simp; omega) ?_
      intro v' w2 hown2 hgrow2 hnil2 hblk2
      have hbw2 : Below W0.heap.size W0 w2 := (below_alloc hb1 _).grown hgrow2 (by simp; omega) (fun k hk => by have h2 : some w1.heap.size = some k := hk; injection h2 with h2; omega)
      have hz2' : w.heap.size < w2.heap.size := Nat.lt_of_lt_of_le hgl hbw2.size
      rw [Nat.zero_add, List.nil_append] at hown2
      obtain ⟨g, cap, rfl⟩ : ∃ g cap, v' = .slice (some ⟨g, 0, none⟩) l.length cap := by
        rcases hown2.2 with ⟨rfl, _⟩ | ⟨g, cap, cur, rfl, _⟩
        · exact absurd (hnil2.1 rfl).1 (fun h => by injection h with h; cases h)
        · exact ⟨g, cap, rfl⟩
      clear hgrow2 hnil2 hblk2
      have hl2 := hbw2.size
      clear hc hf hsl1 hb1 hg1 hs1
      go_wp2_with fail
      go_loopw [10, 11] (fun p i wr => ∃ (k : Nat) (P : Int), k ≤ l.length ∧ i = .int .i64 k ∧ p = .int .i64 P ∧ -1 ≤ P ∧ P < k ∧ Below w2.heap.size w2 wr ∧ Hid ((l.take k).any (busyX r) = false) ∧ Hid (placeI (l.take k) r.id = P)) (fun _ i _ => l.length - (intOf i).toNat)
      case atStart => exact ⟨0, -1, by omega, rfl, rfl, by omega, by omega, Below.refl _ _, rfl, rfl⟩
      case round =>
        obtain ⟨k, P, hk, rfl, rfl, hP0, hP1, hbw, HB, HPl⟩ := hrel
        have hbz := hbw2.trans (hbw.mono hl2)
        have hownr := own_below hown2 hbw
        obtain ⟨hc, hf⟩ := bcell hbz
        have hz0' : w.heap.size < wr.heap.size := Nat.lt_of_lt_of_le hgl hbz.size
        by_cases hlt : k < l.length
        · have hki : (k : Int) < (l.length : Int) := by omega
          have hpt := place_take l r.id hlt
          have hbt := any_take l (busyX r) hlt
          rw [HPl.out] at hpt
          rw [HB.out] at hbt
          have HT := Lib.hid hpt
          have HBT := Lib.hid hbt
          have HAT := Lib.hid (fun h => any_true l (busyX r) hlt h)
          have HN := Lib.hid (fun h => place_none HD.out hlt (id := r.id) h)
          clear hpt hbt
          obtain ⟨q0, q1⟩ := hat5 hownr rfl hlt
          generalize hx : l[k] = x at *
          have HX := Lib.hid hx
          clear hx
          cases hid : (x.id == r.id) with
          | true =>
            have hP : P < 0 := by have := HN.out (by simpa using hid); rw [HPl.out] at this; exact this
            have hnid : (x.id != r.id) = false := by simpa using hid
            have HBF := Lib.hid (busy_f2 hnid)
            clear hnid
            go_wp2_with fail
            go_quiet (fail)
            go_wp2_with fail
            go_roundw
            case measure => simp [intOf]; omega
            case rel => exact ⟨k + 1, k, by omega, by go_num, rfl, by omega, by omega, (by repeat (first | exact hbw | refine below_alloc ?_ _ | refine below_drew ?_ | refine below_drewN ?_ _)), by show _ = _; rw [HBT.out, HBF.out]; rfl, by show _ = _; rw [HT.out, if_pos hP, if_pos hid]⟩
          | false =>
            have hnid : (x.id != r.id) = true := by simpa using hid
            cases hcn : (x.conn == r.conn) with
            | true =>
              have HP := Lib.hid (put_busy HVR.out hex' (HAT.out (busy_t hcn hnid)))
              clear hnid
              go_wp2_with fail
              go_quiet (fail)
              go_wp2_with fail
              go_quiet (fail)
              go_wp2_with fail
              go_ret2
              exact ⟨_, by rw [HP.out.2]; rfl, by rw [HP.out.1]; exact hv0.below (below_step hb0 (hbw2.trans (Below.mono (by repeat (first | exact hbw | refine below_alloc ?_ _ | refine below_drew ?_ | refine below_drewN ?_ _)) hl2))), below_step hb0 (hbw2.trans (Below.mono (by repeat (first | exact hbw | refine below_alloc ?_ _ | refine below_drew ?_ | refine below_drewN ?_ _)) hl2))⟩
            | false =>
              have HBF := Lib.hid (busy_f1 hcn)
              clear hnid
              go_wp2_with fail
              go_quiet (fail)
              go_wp2_with fail
              go_quiet (fail)
              go_wp2_with fail
              go_roundw
              case measure => simp [intOf]; omega
              case rel => exact ⟨k + 1, P, by omega, by go_num, rfl, by omega, by omega, (by repeat (first | exact hbw | refine below_alloc ?_ _ | refine below_drew ?_ | refine below_drewN ?_ _)), by show _ = _; rw [HBT.out, HBF.out]; rfl, by
                show _ = _
                rw [HT.out]
                by_cases hP : P < 0
                · rw [if_pos hP, if_neg (by simp [hid])]; omega
                · rw [if_neg hP]⟩
        · have hbl := HB.out
          have hpl := HPl.out
          rw [any_take_full l _ hlt] at hbl
          rw [place_full l _ hlt] at hpl
          have HBL := Lib.hid hbl
          have HPL := Lib.hid hpl
          clear hbl hpl HB HPl
          have hkl : ¬ (k : Int) < (l.length : Int) := by omega
          by_cases hP : P < 0
          · have HP := Lib.hid (put_new HVR.out hex' HBL.out (by rw [HPL.out]; exact hP))
            have hgo := hownr
            go_wp2_with (at_builtin; refine stopper ?_)
            unfold Stop
            refine wpList_append_row _ _ rfl (.tmp 52) (.tmp 54) _ rfl W0.heap.size 23 i0 _ 5 56 Try.underlying30 hi hz0 hz1 hz2 rfl (by decide) _ _ _ rfl hownr _ rfl rfl (by intro u hu; simp at hu; rcases hu with rfl | rfl | rfl | rfl | rfl <;> rfl) (by omega) (by omega) hbz.size ?_
            intro v' w3 hown3 hgrow3 hblk3
            go_wp2_with fail
            have hb3 := below_grown hbz hownr (Nat.le_refl _) hgrow3
            go_ret2
            refine ⟨_, by rw [HP.out.2]; rfl, ?_, below_step hb0 hb3⟩
            rw [HP.out.1]
            exact IsSl.of_own (l := l ++ [r]) Resv.cells_len (by rw [List.flatMap_append]; exact hown3) (by simp)
          · obtain ⟨p, rfl⟩ : ∃ p : Nat, P = p := ⟨P.toNat, by omega⟩
            obtain ⟨hpi, hpl⟩ := put_old HVR.out hex' HBL.out HPL.out
            have HP := Lib.hid hpi
            clear hpi
            have hpl' : (p : Int) < (l.length : Int) := by omega
            have hpl5 : p * 5 + 5 ≤ l.length * 5 := by omega
            have hfz := hownr.frozenAt
            have hat : ∀ i u, (l[p]).cells[i]? = some u → wr.cell? ⟨g, p * 5 + i, none⟩ = some u := fun i u hu => by
              have hi5 : i < 5 := by have := (List.getElem?_eq_some_iff.1 hu).1; simpa [Resv.cells] using this
              rw [hownr.cellAt (p * 5 + i) (by omega)]
              exact flat_at Resv.cells 5 Resv.cells_len l p l[p] (List.getElem?_eq_getElem hpl) i u hu
            have q0 := hat 0 _ rfl
            have q1 := hat 1 _ rfl
            have q2 := hat 2 _ rfl
            have q3 := hat 3 _ rfl
            have q4 := hat 4 _ rfl
            simp only [Nat.add_zero] at q0
            clear hat
            go_wp2_with fail
            have s0 := (hownr.stored (p * 5) (.int .i64 r.id)).1
            have s1 := (s0.stored (p * 5 + 1) (.int .i64 r.conn)).1
            have s2 := (s1.stored (p * 5 + 2) (.string r.token)).1
            have s3 := (s2.stored (p * 5 + 3) (.string r.group)).1
            have s4 := (s3.stored (p * 5 + 4) (.int .i64 r.expiry)).1
            rw [set_row5 Resv.cells_len l p r _ _ _ _ _ rfl] at s4
            have hgz : W0.heap.size ≤ g := (hownr.lt g rfl).1
            have hb5 := ((((hbz.setCell (p := ⟨g, p * 5, none⟩) hgz (.int .i64 r.id)).setCell (p := ⟨g, p * 5 + 1, none⟩) hgz (.int .i64 r.conn)).setCell (p := ⟨g, p * 5 + 2, none⟩) hgz (.string r.token)).setCell (p := ⟨g, p * 5 + 3, none⟩) hgz (.string r.group)).setCell (p := ⟨g, p * 5 + 4, none⟩) hgz (.int .i64 r.expiry)
            go_ret2
            refine ⟨_, by rw [HP.out.2]; rfl, ?_, below_step hb0 hb5⟩
            rw [HP.out.1]
            exact IsSl.of_own (l := l.set p r) Resv.cells_len s4 (by simp)
  · have HP := Lib.hid (put_bad (l := l) (now := now) hvr)
    have hne : (validR r != 0) = true := by simpa using hvr
    clear hvr
    go_enter Try.func14, Try.ntmps14
    go_wp2_with fail
    rw [← hW0]
    clear hW0
    refine (refRvalid_any r _ hr).mono ?_
    rintro e w1 ⟨rfl, hb⟩
    have hbw := hb
    obtain ⟨hc, hf⟩ := bcell hb
    clear hb
    go_wp2_with fail
    go_ret2
    exact ⟨_, by rw [HP.out.2]; rfl, by rw [HP.out.1]; exact hv0.below (below_step hb0 hbw), below_step hb0 hbw⟩

end Go.Proofs.Ytpokacnbdojncaa
