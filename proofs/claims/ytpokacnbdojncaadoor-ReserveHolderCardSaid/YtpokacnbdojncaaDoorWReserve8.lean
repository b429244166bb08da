/-
  Walks: Put, in package reserve.
-/
import Derived.Test.YtpokacnbdojncaaDoorWReserve1
import Derived.Test.YtpokacnbdojncaaDoorWReserve7
import Derived.Test.YtpokacnbdojncaaDoorCopy
namespace Go.Proofs.YtpokacnbdojncaaDoor
open Go.RowKit Go.Lib Go.Joins
set_option linter.unusedVariables false

def busyX (r x : Resv) : Bool := x.conn == r.conn && (x.id != r.id)
def busyB (l : List Resv) (r : Resv) : Bool := l.any (busyX r)
def placeO (l : List Resv) (id : Int) : Option Nat := l.findIdx? (fun x => x.id == id)
def placeI (l : List Resv) (id : Int) : Int := match placeO l id with
  | none => -1
  | some i => i

theorem any_take {α : Type} (l : List α) (p : α → Bool) {k : Nat} (h : k < l.length) : (l.take (k + 1)).any p = ((l.take k).any p || p l[k]) := by
  rw [List.take_succ_eq_append_getElem h, List.any_append]; simp
theorem any_take_full {α : Type} (l : List α) (p : α → Bool) {k : Nat} (h : ¬ k < l.length) : (l.take k).any p = l.any p := by
  rw [List.take_of_length_le (by omega)]
theorem any_true {α : Type} (l : List α) (p : α → Bool) {k : Nat} (h : k < l.length) (hp : p l[k] = true) : l.any p = true := by
  rw [List.any_eq_true]; exact ⟨l[k], List.getElem_mem h, hp⟩

theorem place_take (l : List Resv) (id : Int) {k : Nat} (h : k < l.length) : placeI (l.take (k + 1)) id = if placeI (l.take k) id < 0 then (if (l[k].id == id) = true then (k : Int) else -1) else placeI (l.take k) id := by
  have hlen : (l.take k).length = k := by simp; omega
  unfold placeI placeO
  rw [List.take_succ_eq_append_getElem h, List.findIdx?_append]
  cases hq : (l.take k).findIdx? (fun x => x.id == id) with
  | none =>
    rw [List.findIdx?_cons, hlen]
    cases hx : (l[k].id == id) <;> simp
  | some i => simp; omega
theorem place_full (l : List Resv) (id : Int) {k : Nat} (h : ¬ k < l.length) : placeI (l.take k) id = placeI l id := by
  rw [List.take_of_length_le (by omega)]

def putE (l : List Resv) (r : Resv) (now : Int) : Int := if validR r ≠ 0 then validR r else if r.expiry ≤ now then 12 else if busyB l r = true then 16 else 0
def putL (l : List Resv) (r : Resv) (now : Int) : List Resv :=
  if putE l r now ≠ 0 then l else match placeO l r.id with
    | none => l ++ [r]
    | some i => l.set i r

def PutIs (l : List Resv) (r : Resv) (now : Int) (m : List Resv) (e : Int) : Prop := putL l r now = m ∧ putE l r now = e
theorem put_bad {l : List Resv} {r : Resv} {now : Int} (h : validR r ≠ 0) : PutIs l r now l (validR r) := by
  have e : putE l r now = validR r := by unfold putE; rw [if_pos h]
  exact ⟨by unfold putL; rw [e, if_pos h], e⟩
theorem put_late {l : List Resv} {r : Resv} {now : Int} (h : validR r = 0) (h2 : r.expiry ≤ now) : PutIs l r now l 12 := by
  have e : putE l r now = 12 := by unfold putE; rw [if_neg (by omega), if_pos h2]
  exact ⟨by unfold putL; rw [e, if_pos (by omega)], e⟩
theorem put_busy {l : List Resv} {r : Resv} {now : Int} (h : validR r = 0) (h2 : now < r.expiry) (h3 : busyB l r = true) : PutIs l r now l 16 := by
  have e : putE l r now = 16 := by unfold putE; rw [if_neg (by omega), if_neg (by omega), if_pos h3]
  exact ⟨by unfold putL; rw [e, if_pos (by omega)], e⟩
theorem put_new {l : List Resv} {r : Resv} {now : Int} (h : validR r = 0) (h2 : now < r.expiry) (h3 : busyB l r = false) (h4 : placeI l r.id < 0) : PutIs l r now (l ++ [r]) 0 := by
  have e : putE l r now = 0 := by unfold putE; rw [if_neg (by omega), if_neg (by omega), h3, if_neg (by simp)]
  refine ⟨?_, e⟩
  unfold putL
  rw [e, if_neg (by omega)]
  unfold placeI at h4
  split at h4 <;> rename_i hp
  · simp only
  · omega
theorem put_old {l : List Resv} {r : Resv} {now : Int} {p : Nat} (h : validR r = 0) (h2 : now < r.expiry) (h3 : busyB l r = false) (h4 : placeI l r.id = p) : PutIs l r now (l.set p r) 0 ∧ p < l.length := by
  have e : putE l r now = 0 := by unfold putE; rw [if_neg (by omega), if_neg (by omega), h3, if_neg (by simp)]
  unfold placeI at h4
  split at h4 <;> rename_i hp
  · omega
  · rename_i i
    have hq : p = i := by omega
    subst hq
    refine ⟨⟨?_, e⟩, ?_⟩
    · unfold putL
      rw [e, if_neg (by omega)]
      simp only [hp]
    · unfold placeO at hp
      have := List.findIdx?_eq_some_iff_getElem.1 hp
      obtain ⟨hlt, _⟩ := this
      omega

theorem busy_t {r x : Resv} (h1 : (x.conn == r.conn) = true) (h2 : (x.id != r.id) = true) : busyX r x = true := by unfold busyX; rw [h1, h2]; rfl
theorem busy_f1 {r x : Resv} (h1 : (x.conn == r.conn) = false) : busyX r x = false := by unfold busyX; rw [h1]; rfl
theorem busy_f2 {r x : Resv} (h2 : (x.id != r.id) = false) : busyX r x = false := by unfold busyX; rw [h2]; simp

set_option maxHeartbeats 3200000 in
theorem put_any (l : List Resv) (v : Value) (r : Resv) (now : Int) (w : World) (hl : l.length ≤ 4096) (hv : IsSl w 5 v (l.map Resv.cells)) (hr : r.ok) :
    Calls Tryd.prog 8 #[v, .agg #[.int .i64 r.id, .int .i64 r.conn, .string r.token, .string r.group, .int .i64 r.expiry], .int .i64 now] w
      fun e w' => ∃ u, e = .returned (.tuple #[u, .int .i64 (putE l r now)]) ∧ IsSl w' 5 u ((putL l r now).map Resv.cells) ∧ Below w.heap.size w w' := by
  have hv0 := hv
  obtain ⟨A, c, rfl, hlc, hcm, hsl⟩ := islen hv
  clear hv
  obtain ⟨W0, hW0, hb0, hgl, hbx⟩ := box1 w #[.int .i64 r.id, .int .i64 r.conn, .string r.token, .string r.group, .int .i64 r.expiry] 24
  obtain ⟨i0, hi, hz0, hz1, hz2⟩ := info_parts resvInfo
  by_cases hvr : validR r = 0
  · have HVR := Lib.hid hvr
    clear hvr
    by_cases hex : r.expiry ≤ now
    · have HP := Lib.hid (put_late (l := l) HVR.out hex)
      go_enter Tryd.func8, Tryd.ntmps8
      go_wp2_with fail
      rw [← hW0]
      clear hW0
      refine (rvalid_any r _ hr).mono ?_
      rintro e w1 ⟨rfl, hb⟩
      have hbw := hb
      obtain ⟨hc, hf⟩ := bcell hb
      rw [HVR.out]
      clear hb
      go_wp2_with fail
      go_ret2
      exact ⟨_, by rw [HP.out.2]; rfl, by rw [HP.out.1]; exact hv0.below (below_step hb0 hbw), below_step hb0 hbw⟩
    · have hex' : now < r.expiry := by omega
      clear hex
      go_enter Tryd.func8, Tryd.ntmps8
      go_wp2_with fail
      rw [← hW0]
      clear hW0
      refine (rvalid_any r _ hr).mono ?_
      rintro e w1 ⟨rfl, hb⟩
      have hb1 := hb
      obtain ⟨hc, hf⟩ := bcell hb
      rw [HVR.out]
      have hsl1 := (hsl.below hb0).below hb
      have hg1 := Nat.lt_of_lt_of_le hgl hb.size
      clear hb
      go_wp2_with fail
      go_loopw [9, 26] (fun p i wr => ∃ (k : Nat) (P : Int), k ≤ l.length ∧ i = .int .i64 k ∧ p = .int .i64 P ∧ -1 ≤ P ∧ P < k ∧ Below W0.heap.size W0 wr ∧ Hid ((l.take k).any (busyX r) = false) ∧ Hid (placeI (l.take k) r.id = P)) (fun _ i _ => l.length - (intOf i).toNat)
      case atStart => exact ⟨0, -1, by omega, rfl, rfl, by omega, by omega, hb1, rfl, rfl⟩
      case round =>
        obtain ⟨k, P, hk, rfl, rfl, hP0, hP1, hbw, HB, HPl⟩ := hrel
        clear hc hf hsl1 hb1 hg1
        obtain ⟨hc, hf⟩ := bcell hbw
        have hz0' : w.heap.size < wr.heap.size := Nat.lt_of_lt_of_le hgl hbw.size
        by_cases hlt : k < l.length
        · have hpt := place_take l r.id hlt
          have hbt := any_take l (busyX r) hlt
          rw [HPl.out] at hpt
          rw [HB.out] at hbt
          have HT := Lib.hid hpt
          have HBT := Lib.hid hbt
          have HAT := Lib.hid (fun h => any_true l (busyX r) hlt h)
          clear hpt hbt
          obtain ⟨b, off, rfl, hb, c0, c1, c2, c3, c4⟩ := resv_at ((hsl.below hb0).below hbw) hlt
          generalize hx : l[k] = x at *
          have HX := Lib.hid hx
          clear hx
          cases hid : (x.id == r.id) with
          | true =>
            have hnid : (x.id != r.id) = false := by simpa using hid
            have hbf := busy_f2 hnid
            have HBF := Lib.hid hbf
            clear hbf
            by_cases hP : P < 0
            · go_wp2_with fail
              all_goals go_roundw
              all_goals try (case measure => simp [intOf]; omega)
              all_goals (case rel => exact ⟨k + 1, k, by omega, by go_num, rfl, by omega, by omega, (by repeat (first | exact hbw | refine below_alloc ?_ _ | refine below_drew ?_ | refine below_drewN ?_ _)), by show _ = _; rw [HBT.out, HBF.out]; rfl, by show _ = _; rw [HT.out, if_pos hP, if_pos hid]⟩)
            · have hP' : 0 ≤ P := by omega
              go_wp2_with fail
              all_goals go_roundw
              all_goals try (case measure => simp [intOf]; omega)
              all_goals (case rel => exact ⟨k + 1, P, by omega, by go_num, rfl, by omega, by omega, (by repeat (first | exact hbw | refine below_alloc ?_ _ | refine below_drew ?_ | refine below_drewN ?_ _)), by show _ = _; rw [HBT.out, HBF.out]; rfl, by show _ = _; rw [HT.out, if_neg hP]⟩)
          | false =>
            have hnid : (x.id != r.id) = true := by simpa using hid
            cases hcn : (x.conn == r.conn) with
            | true =>
              have HP := Lib.hid (put_busy HVR.out hex' (HAT.out (busy_t hcn hnid)))
              go_wp2_with fail
              go_ret2
              exact ⟨_, by rw [HP.out.2]; rfl, by rw [HP.out.1]; exact hv0.below (below_step hb0 (by repeat (first | exact hbw | refine below_alloc ?_ _ | refine below_drew ?_ | refine below_drewN ?_ _))), below_step hb0 (by repeat (first | exact hbw | refine below_alloc ?_ _ | refine below_drew ?_ | refine below_drewN ?_ _))⟩
            | false =>
              have HBF := Lib.hid (busy_f1 hcn)
              go_wp2_with fail
              go_roundw
              case measure => simp [intOf]; omega
              case rel => exact ⟨k + 1, P, by omega, by go_num, rfl, by omega, by omega, (by repeat (first | exact hbw | refine below_alloc ?_ _ | refine below_drew ?_ | refine below_drewN ?_ _)), by show _ = _; rw [HBT.out, HBF.out]; rfl, by
                show _ = _
                rw [HT.out]
                by_cases hP : P < 0
                · rw [if_pos hP, if_neg (by simp [hid])]; omega
                · rw [if_neg hP]⟩
        · have hbl := HB.out
          have hpl := HPl.out
          rw [any_take_full l _ hlt] at hbl
          rw [place_full l _ hlt] at hpl
          have HBL := Lib.hid hbl
          have HPL := Lib.hid hpl
          clear hbl hpl HB HPl
          have hkl : k = l.length := by omega
          clear hkl
          have hmk := fun W => run_make_rowN (P := Tryd.prog) 31 24 i0 _ Tryd.underlying31 hi hz0 .i64 .i64 l.length (l.length + 1) ((l.length : Int) + 1) (by omega) (by omega) (by rw [hz2]; omega) (by omega) W
          have hslr := (hsl.below hb0).below (below_alloc hbw (.cells #[] 0))
          clear hslr
          generalize hZ : madeCells _ ((l.length + 1) * i0.size) = Z at hmk
          have hZs : Z.size = (l.length + 1) * 5 := by rw [← hZ, size_madeCells, hz1]
          clear hZ
          have hfl := flat_len Resv.cells 5 Resv.cells_len l
          have hgZ : (wr.alloc (.cells Z 24)).heap[wr.heap.size]? = some (.cells Z.toList.toArray 24 (0, 0)) := by rw [heap_alloc_new]
          have hslZ := (hsl.below hb0).below (below_alloc hbw (.cells Z 24))
          have hn5 : (l.flatMap Resv.cells).length = Nat.min l.length l.length * 5 := by rw [hfl]; simp
          have hpos : 0 < (l.flatMap Resv.cells).length → (some ⟨wr.heap.size, 0, none⟩ : Option Addr) = some ⟨wr.heap.size, 0, none⟩ ∧ ∃ ad, A = some ad ∧ ∀ j v, (l.flatMap Resv.cells)[j]? = some v → (wr.alloc (.cells Z 24)).cell? (ad.add j) = some v := fun h =>
            ⟨rfl, src_rows Resv.cells_len (by omega) hslZ (by intro e; rw [e] at h; simp at h)⟩
          have hfit : 0 + (l.flatMap Resv.cells).length ≤ Z.toList.length := by rw [hfl]; simp; omega
          have hone : ∀ v ∈ l.flatMap Resv.cells, v.oneCell' = true := by
            intro v hv
            rw [List.mem_flatMap] at hv
            obtain ⟨y, _, hy⟩ := hv
            simp [Resv.cells] at hy
            rcases hy with rfl | rfl | rfl | rfl | rfl <;> rfl
          have HGZ := Lib.hid hgZ
          have HN5 := Lib.hid hn5
          have HPOS := Lib.hid hpos
          have HFL := Lib.hid hfl
          have HZS := Lib.hid hZs
          have HFIT := Lib.hid hfit
          have HSLZ := Lib.hid hslZ
          have hzr : W0.heap.size ≤ wr.heap.size := hbw.size
          clear hgZ hn5 hpos hfl hZs hfit hslZ
          by_cases hP : P < 0
          · have HP := Lib.hid (put_new HVR.out hex' HBL.out (by rw [HPL.out]; exact hP))
            go_wp2_with (first
              | (refine wpList_copy_rows rfl (.tmp 61) (.tmp 62) _ _ rfl 24 5 Tryd.underlying31 i0 hi hz1 _ _ _ _ _ _ rfl rfl wr.heap.size 0 Z.toList 24 HGZ.out (l.flatMap Resv.cells) HN5.out HPOS.out HFIT.out hone ?_; intro w2 hg2 hgrow2
                 have hown := own_copied (base := W0.heap.size) (c := l.length + 1) Resv.cells_len hzr hg2 (by have := HZS.out; simp; omega) (by omega) (by unfold maxLen; omega)
                 have hbw2 : Below W0.heap.size W0 w2 := (below_alloc hbw _).grown hgrow2 (by simp; omega) (fun k hk => by injection hk with hk; omega)
                 have hbx2 : ∀ j, w2.cell? ⟨w.heap.size, j, none⟩ = (#[.int .i64 r.id, .int .i64 r.conn, .string r.token, .string r.group, .int .i64 r.expiry] : Array Value)[j]? := fun j => (hbw2.cell (p := ⟨w.heap.size, j, none⟩) hgl).trans (hbx j)
                 have hz2' : w.heap.size < w2.heap.size := Nat.lt_of_lt_of_le hgl hbw2.size
                 clear hgrow2 hg2 hc hf hmk)
              | (at_builtin; refine wpList_append_row _ _ rfl (.tmp 66) (.tmp 68) _ rfl W0.heap.size 24 i0 _ 5 56 Tryd.underlying31 hi hz0 hz1 hz2 rfl (by decide) _ _ _ rfl hown _ rfl rfl (by intro u hu; simp at hu; rcases hu with rfl | rfl | rfl | rfl | rfl <;> rfl) (by omega) (by omega) hbw2.size ?_; intro v' w3 hown3 hgrow3 hblk3))
            have hb3 := below_grown hbw2 hown (Nat.le_refl _) hgrow3
            clear hgrow3 hown
            go_ret2
            refine ⟨_, by rw [HP.out.2]; rfl, ?_, below_step hb0 hb3⟩
            rw [HP.out.1]
            exact IsSl.of_own (l := l ++ [r]) Resv.cells_len (by rw [List.flatMap_append]; exact hown3) (by simp)
          · obtain ⟨p, rfl⟩ : ∃ p : Nat, P = p := ⟨P.toNat, by omega⟩
            obtain ⟨hpi, hpl⟩ := put_old HVR.out hex' HBL.out HPL.out
            have HP := Lib.hid hpi
            clear hpi
            have hpl' : (p : Int) < (l.length : Int) := by omega
            have hpl5 : p * 5 + 5 ≤ l.length * 5 := by omega
            go_wp2_with (first
              | (refine wpList_copy_rows rfl (.tmp 61) (.tmp 62) _ _ rfl 24 5 Tryd.underlying31 i0 hi hz1 _ _ _ _ _ _ rfl rfl wr.heap.size 0 Z.toList 24 HGZ.out (l.flatMap Resv.cells) HN5.out HPOS.out HFIT.out hone ?_; intro w2 hg2 hgrow2
                 have hown := own_copied (base := W0.heap.size) (c := l.length + 1) Resv.cells_len hzr hg2 (by have := HZS.out; simp; omega) (by omega) (by unfold maxLen; omega)
                 have hbw2 : Below W0.heap.size W0 w2 := (below_alloc hbw _).grown hgrow2 (by simp; omega) (fun k hk => by injection hk with hk; omega)
                 have hbx2 : ∀ j, w2.cell? ⟨w.heap.size, j, none⟩ = (#[.int .i64 r.id, .int .i64 r.conn, .string r.token, .string r.group, .int .i64 r.expiry] : Array Value)[j]? := fun j => (hbw2.cell (p := ⟨w.heap.size, j, none⟩) hgl).trans (hbx j)
                 have hz2' : w.heap.size < w2.heap.size := Nat.lt_of_lt_of_le hgl hbw2.size
                 have hfz := hown.frozenAt
                 have hat : ∀ i u, (l[p]).cells[i]? = some u → w2.cell? ⟨wr.heap.size, p * 5 + i, none⟩ = some u := fun i u hu => by
                   have hi5 : i < 5 := by have := (List.getElem?_eq_some_iff.1 hu).1; simpa [Resv.cells] using this
                   rw [hown.cellAt (p * 5 + i) (by omega)]
                   exact flat_at Resv.cells 5 Resv.cells_len l p l[p] (List.getElem?_eq_getElem hpl) i u hu
                 have q0 := hat 0 _ rfl
                 have q1 := hat 1 _ rfl
                 have q2 := hat 2 _ rfl
                 have q3 := hat 3 _ rfl
                 have q4 := hat 4 _ rfl
                 simp only [Nat.add_zero] at q0
                 clear hgrow2 hg2 hc hf hmk hat))
            have s0 := (hown.stored (p * 5) (.int .i64 r.id)).1
            have s1 := (s0.stored (p * 5 + 1) (.int .i64 r.conn)).1
            have s2 := (s1.stored (p * 5 + 2) (.string r.token)).1
            have s3 := (s2.stored (p * 5 + 3) (.string r.group)).1
            have s4 := (s3.stored (p * 5 + 4) (.int .i64 r.expiry)).1
            rw [set_row5 Resv.cells_len l p r _ _ _ _ _ rfl] at s4
            have hb5 := ((((hbw2.setCell (p := ⟨wr.heap.size, p * 5, none⟩) hzr (.int .i64 r.id)).setCell (p := ⟨wr.heap.size, p * 5 + 1, none⟩) hzr (.int .i64 r.conn)).setCell (p := ⟨wr.heap.size, p * 5 + 2, none⟩) hzr (.string r.token)).setCell (p := ⟨wr.heap.size, p * 5 + 3, none⟩) hzr (.string r.group)).setCell (p := ⟨wr.heap.size, p * 5 + 4, none⟩) hzr (.int .i64 r.expiry)
            go_ret2
            refine ⟨_, by rw [HP.out.2]; rfl, ?_, below_step hb0 hb5⟩
            rw [HP.out.1]
            exact IsSl.of_own (l := l.set p r) Resv.cells_len s4 (by simp)
  · have HP := Lib.hid (put_bad (l := l) (now := now) hvr)
    have hne : (validR r != 0) = true := by simpa using hvr
    clear hvr
    go_enter Tryd.func8, Tryd.ntmps8
    go_wp2_with fail
    rw [← hW0]
    clear hW0
    refine (rvalid_any r _ hr).mono ?_
    rintro e w1 ⟨rfl, hb⟩
    have hbw := hb
    obtain ⟨hc, hf⟩ := bcell hb
    clear hb
    go_wp2_with fail
    go_ret2
    exact ⟨_, by rw [HP.out.2]; rfl, by rw [HP.out.1]; exact hv0.below (below_step hb0 hbw), below_step hb0 hbw⟩

end Go.Proofs.YtpokacnbdojncaaDoor
