/-
  The examples of the chapter on contracts, in plain words.
  Walks: change of package contract.
  Walks: Next of package contract.
  Walks: Series of package contract.
  Walks: Valid of contracts, of the program and of the reference; two equal lists of steps; the examples.
  Walks: two equal lists of steps; the examples of the chapter on contracts.
  Walks: the examples of the chapter on contracts.
  Walks: At and Value of the reference of contracts.
  Walks: strict and next of package limits.
  Walks: next of package limits.
  A map of strings to bools that the call makes: names that are taken. No program is named here.
-/
import Derived.Test.YtmappmeojmdekaaGreatDoorM10
import Derived.Test.YtmappmeojmdekaaGreatDoorM2
import Derived.Test.YtmappmeojmdekaaGreatDoorM9
import Derived.Test.YtmappmeojmdekaaGreatDoorM5
import Derived.Test.YtmappmeojmdekaaGreatDoorM4
import Derived.Test.YtmappmeojmdekaaGreatDoorM3
import Derived.BigQuiet
import Derived.Deep.RegionHeld3
import Derived.Test.YtmappmeojmdekaaGreatDoorM8
import Derived.Test.YtmappmeojmdekaaGreatDoorM1
import Derived.Maps.OwnOps
import Derived.Maps.Views
import Derived.Maps.Keyed
import Derived.StringKeys

namespace Go.Proofs.YtmappmeojmdekaaGreatDoor
set_option linter.unusedVariables false

def exW2 : WinR := ⟨0, 0, 0, 600, 700⟩
def exCa : ConR := ⟨⟨#[97]⟩, 0, exW, 5000⟩
def exCb : ConR := ⟨⟨#[98]⟩, 0, exW2, 8000⟩
theorem exW2_ok : winB exW2 = true := by decide
theorem holds_exW2 {t : Int} (h0 : 0 ≤ t) (h1 : t ≤ 268435456) : holdsB exW2 exZ t = (decide (600 ≤ t) && decide (t < 700)) := by
  unfold holdsB
  rw [exW2_ok, exZ_ok, timeB_iff.2 ⟨h0, h1⟩, pat_all exW2_ok exZ rfl (.inl rfl) t]
  unfold inB exW2
  simp
theorem cAt_two (c d : ConR) (z : ZoneR) (f t : Int) : cAt [c, d] z f t = cStep z f t (cStep z f t noL c) d := rfl
theorem cAt_one (c : ConR) (z : ZoneR) (f t : Int) : cAt [c] z f t = cStep z f t noL c := rfl
theorem exAt {t : Int} (h0 : 0 ≤ t) (h1 : t ≤ 268435456) : cAt [exCa, exCb] exZ 0 t = if 480 ≤ t % 1440 ∧ t % 1440 < 1020 then 5000 else noL := by
  have e1 : cOn exZ 0 t exCa = (decide (480 ≤ t % 1440) && decide (t % 1440 < 1020)) := by unfold cOn exCa; rw [holds_exW h0 h1]; simp
  have e2 : cOn exZ 0 t exCb = (decide (600 ≤ t) && decide (t < 700)) := by unfold cOn exCb; rw [holds_exW2 h0 h1]; simp
  rw [cAt_two]
  unfold cStep
  rw [e1, e2]
  simp only [Bool.and_eq_true, decide_eq_true_eq]
  by_cases h : 480 ≤ t % 1440 ∧ t % 1440 < 1020
  · rw [if_pos h]
    split
    · rfl
    · rfl
  · rw [if_neg h, if_neg (by omega), if_neg h]
theorem exAt1 (t : Int) : cAt [exCa, exCb] exZ 1 t = noL := cAt_none (fun c hc => by
  simp at hc
  rcases hc with rfl | rfl <;> decide)
theorem exAt2 {t : Int} (h : 700 ≤ t) (h1 : t ≤ 268435456) (f : Int) : cAt [exCb] exZ f t = noL := by
  rw [cAt_one]
  unfold cStep cOn exCb
  rw [holds_exW2 (by omega) h1]
  rw [if_neg (by simp; omega)]
theorem exAt_479 : cAt [exCa, exCb] exZ 0 479 = 1073741824 := by rw [exAt (by omega) (by omega), if_neg (by omega)]; rfl
theorem exAt_650 : cAt [exCa, exCb] exZ 0 650 = 5000 := by rw [exAt (by omega) (by omega), if_pos (by omega)]
theorem exAt1_650 : cAt [exCa, exCb] exZ 1 650 = 1073741824 := exAt1 650
theorem exDif {u : Int} (h0 : 1 ≤ u) (h1 : u ≤ 268435456) : difB [exCa, exCb] exZ u = true ↔ ¬ ((480 ≤ u % 1440 ∧ u % 1440 < 1020) ↔ (480 ≤ (u - 1) % 1440 ∧ (u - 1) % 1440 < 1020)) := by
  rw [difB_true]
  constructor
  · rintro ⟨c, hc, h⟩
    have : c.fd = 0 := by simp at hc; rcases hc with rfl | rfl <;> rfl
    rw [this, exAt (by omega) h1, exAt (by omega) (by omega)] at h
    intro hh
    apply h
    by_cases g : 480 ≤ u % 1440 ∧ u % 1440 < 1020
    · rw [if_pos g, if_pos (hh.1 g)]
    · rw [if_neg g, if_neg (fun k => g (hh.2 k))]
  · intro h
    refine ⟨exCa, by simp, ?_⟩
    show cAt _ _ 0 u ≠ cAt _ _ 0 (u - 1)
    rw [exAt (by omega) h1, exAt (by omega) (by omega)]
    by_cases g : 480 ≤ u % 1440 ∧ u % 1440 < 1020
    · rw [if_pos g, if_neg (fun k => h ⟨fun _ => k, fun _ => g⟩)]; unfold noL; omega
    · rw [if_neg g, if_pos (Classical.byContradiction fun k => h ⟨fun x => absurd x g, fun x => absurd x k⟩)]; unfold noL; omega
theorem exNext {t r : Int} (h0 : 0 ≤ t) (h1 : t < r) (h2 : r ≤ 10000) (hd : ¬ ((480 ≤ r % 1440 ∧ r % 1440 < 1020) ↔ (480 ≤ (r - 1) % 1440 ∧ (r - 1) % 1440 < 1020)))
    (hs : ∀ u, t < u → u < r → ((480 ≤ u % 1440 ∧ u % 1440 < 1020) ↔ (480 ≤ (u - 1) % 1440 ∧ (u - 1) % 1440 < 1020))) : NextP (difB [exCa, exCb] exZ) t r := by
  refine .inl ⟨h1, by omega, (exDif (by omega) (by omega)).2 hd, fun u a b => ?_⟩
  cases hh : difB [exCa, exCb] exZ u with
  | false => rfl
  | true => exact absurd (hs u a b) ((exDif (by omega) (by omega)).1 hh)
theorem exConA_480 : conA [exCa, exCb] exZ 480 = 1020 := conA_of (by omega) (by omega) (exNext (by omega) (by omega) (by omega) (by omega) (fun u a b => by omega))
theorem exConA_700 : conA [exCb] exZ 700 = -1 := conA_of (by omega) (by omega) (.inr ⟨rfl, fun u a b => by
  rw [difB_false]
  intro f
  rw [exAt2 (by omega) b, exAt2 (by omega) (by omega)]⟩)
theorem exOwn : ownC 0 [exCa, exCb] = [exCa, exCb] := rfl
theorem exTurn : turnB (cAt [exCa, exCb] exZ 0) = difB [exCa, exCb] exZ := by rw [← own_dif, exOwn]
theorem exNx {t r : Int} (h : NextP (difB [exCa, exCb] exZ) t r) : nxV (cAt [exCa, exCb] exZ 0) t = r := by unfold nxV; rw [exTurn]; exact nextP_of h
theorem exSer : restR (cAt [exCa, exCb] exZ 0) 1100 400 [] = some [(400, 1073741824), (480, 5000), (1020, 1073741824)] := by
  have n1 := exNx (t := 400) (r := 480) (exNext (by omega) (by omega) (by omega) (by omega) (fun u a b => by omega))
  have n2 := exNx (t := 480) (r := 1020) (exNext (by omega) (by omega) (by omega) (by omega) (fun u a b => by omega))
  have n3 := exNx (t := 1020) (r := 1920) (exNext (by omega) (by omega) (by omega) (by omega) (fun u a b => by omega))
  have v1 : cAt [exCa, exCb] exZ 0 400 = 1073741824 := by rw [exAt (by omega) (by omega), if_neg (by omega)]; rfl
  have v2 : cAt [exCa, exCb] exZ 0 480 = 5000 := by rw [exAt (by omega) (by omega), if_pos (by omega)]
  have v3 : cAt [exCa, exCb] exZ 0 1020 = 1073741824 := by rw [exAt (by omega) (by omega), if_neg (by omega)]; rfl
  rw [restR_step (by omega) (by omega), if_neg (by decide), n1, v1, restR_step (by omega) (by omega), if_neg (by decide), n2, v2, restR_step (by omega) (by omega), if_neg (by decide), n3, v3, restR_end (by omega)]
  rfl

end Go.Proofs.YtmappmeojmdekaaGreatDoor

namespace Go.Proofs.YtmappmeojmdekaaGreatDoor
open Go.RowKit Go.Lib Go.Maps
set_option linter.unusedVariables false

/-- the next change of the window of contract j -/
noncomputable def aftL (z : ZoneR) (t : Int) (l : List ConR) (j : Nat) : Int := match l[j]? with | some c => aftF z t c | none => 0
theorem aftL_at {z : ZoneR} {t : Int} {l : List ConR} {j : Nat} (h : j < l.length) : aftL z t l j = aftF z t l[j] := by unfold aftL; rw [List.getElem?_eq_getElem h]
/-- the least of the first k candidates -/
noncomputable def atK (l : List ConR) (z : ZoneR) (u last : Int) (k : Nat) : Int := ((l.take k).map (aftF z u)).foldl (fun n m => min n m) (last + 1)
theorem atK_zero (l : List ConR) (z : ZoneR) (u last : Int) : atK l z u last 0 = last + 1 := rfl
theorem atK_succ {l : List ConR} {k : Nat} (h : k < l.length) (z : ZoneR) (u last : Int) : atK l z u last (k + 1) = min (atK l z u last k) (aftL z u l k) := by
  unfold atK
  rw [List.take_succ_eq_append_getElem h, List.map_append, List.foldl_append, aftL_at h]; rfl
theorem atK_end {l : List ConR} {k : Nat} (h : ¬ k < l.length) (z : ZoneR) (u last : Int) : atK l z u last k = atF l z u last := by
  unfold atK atF; rw [List.take_of_length_le (by omega)]
theorem aftL_step {l : List ConR} {z : ZoneR} {t last x : Int} (h0 : 0 ≤ t) (ht : t ≤ 268435456) (hx : x = atF l z t last) (hl : t ≤ last) (h1 : x ≤ 268435456) {j : Nat} (hj : j < l.length) : aftL z t l j ≠ x → aftL z t l j = aftL z x l j := by
  intro hne
  have := aft_step h0 ht hx hl h1 (List.getElem_mem hj)
  rw [aftL_at hj] at hne ⊢
  rw [aftL_at hj]
  rw [if_neg hne] at this
  exact this
theorem Quiet.with {D : Int → Bool} {t u : Int} (h : Quiet D t (u - 1)) (g : D u = false) : Quiet D t u := fun v a b c => by
  by_cases e : v = u
  · rw [e]; exact g
  · exact h v a (by omega) c
theorem Quiet.all {D : Int → Bool} {t u : Int} (h : Quiet D t u) (hu : 268435456 ≤ u) (v : Int) : Quiet D t v := fun x a b c => h x a (by omega) c
def rowI (n : Nat) (f : Nat → Int) : Nat → Value := fun j => .int .i64 (f j)
/-- what change returns -/
def ChgPost (w : World) (D : Int → Bool) (t last : Int) (e : Ending) (w' : World) : Prop := ∃ r, e = .returned (.int .i64 r) ∧ ChgIs D t last r ∧ Below w.heap.size w w'
theorem made_row (w : World) (n : Nat) (T : TypeId) : Row (w.alloc (.cells (madeCells (Value.int .i64 0).cells (n * 1)) T)) w.heap.size n (fun _ => .int .i64 0) := by
  refine ⟨by simp, fun j hj => ⟨?_, ?_⟩⟩
  · rw [World.cell?_alloc_mark w _ T (0, 0) j]
    simp [madeCells, Value.cells, hj, Nat.mod_one]
  · rw [World.frozen?_alloc_mark w _ T 0 0 j]
    simp

set_option maxRecDepth 100000 in
set_option maxHeartbeats 12800000 in
theorem conChange_any (l : List ConR) (v : Value) (z : ZoneR) (t last : Int) (w : World) (hv : LenV w) (hL : IsSl w 8 v (l.map ConR.cells)) (hfit : ∀ c ∈ l, c.fits) (hlen : l.length ≤ 1000) (h0 : 0 ≤ t) (h1 : t ≤ 268435456) (h2 : t ≤ last) (h3 : last ≤ 1000000000) :
    Calls Tryz.prog 79 #[v, .agg #[.int .i64 z.off, .bool z.sum], .int .i64 t, .int .i64 last] w (ChgPost w (difB l z) t last) := by
  obtain ⟨W0, hW0, hb0, hg0, hx0⟩ := box1 w #[.int .i64 z.off, .bool z.sum] 27
  have HV := Lib.hid (hv.below hb0)
  replace hL := hL.below hb0
  have HF := Lib.hid hfit
  have HIS := Lib.hid hL
  clear hv hfit
  obtain ⟨A, c, rfl, hlc, hcm, hsl⟩ := hL
  rw [List.length_map] at hlc
  unfold maxLen at hcm
  simp only [List.length_map] at HIS ⊢
  obtain ⟨i0, hi0, hz0, hz1, hz2⟩ := info_parts intInfo
  have hmk := fun W => run_make_rowZ (P := Tryz.prog) 57 3 i0 _ Tryz.underlying57 hi0 hz0 .i64 .i64 l.length l.length (l.length : Int) (l.length : Int) rfl rfl (Nat.le_refl _) (by rw [hz2]; omega) (by omega) W
  rw [hz1] at hmk
  have HR0 := Lib.hid (made_row W0 l.length 3)
  generalize madeCells _ (l.length * 1) = ZC at hmk HR0
  go_enter Tryz.func79, Tryz.ntmps79
  go_wp2_with fail
  rw [← hW0]
  obtain ⟨B, hB⟩ : ∃ B, B = w.heap.size + 1 := ⟨_, rfl⟩
  rw [← hB]
  have HB : Hid (W0.heap.size = B) := by unfold Hid; rw [hB, hW0]; simp
  have hBg : w.heap.size < B := by omega
  clear hW0 hmk hB
  go_loopw [22] (fun i wr => ∃ k : Nat, k ≤ l.length ∧ i = .int .i64 k ∧ Row wr B l.length (fun j => .int .i64 (if j < k then aftL z t l j else 0)) ∧ Below W0.heap.size W0 wr) (fun i _ => l.length - (intOf i).toNat)
  case atStart => exact ⟨0, by omega, rfl, (HB.out ▸ HR0.out).congr (fun j hj => by simp), below_alloc (Below.refl _ _) _⟩
  case round =>
    obtain ⟨k, hk, rfl, hrow, hbw⟩ := hrel
    obtain ⟨hc, hf⟩ := bcell hbw
    by_cases hlt : k < l.length
    · have hki : (k : Int) < (l.length : Int) := by omega
      obtain ⟨b, off, rfl, hb, c0, c1, c2, c3, c4, c5, c6, c7⟩ := con_at (hsl.below hbw) hlt
      have HA := Lib.hid (aftL_at (z := z) (t := t) hlt)
      have y1 := old_allocC (w := wr) (b := w.heap.size) (Nat.lt_of_lt_of_le hg0 hbw.size)
      generalize l[k] = x at *
      go_wp2_with fail
      refine (conAfter_any x z t _ (HV.out.below (below_alloc hbw _)) h0 h1).mono ?_
      rintro e w2 ⟨rfl, hb2⟩
      have hbw2 := below_step (below_alloc hbw _) hb2
      have hrow2 := (hrow.alloc (.cells #[.string x.nm, .int .i64 x.fd, .int .i64 x.w.dy, .int .i64 x.w.st, .int .i64 x.w.en, .int .i64 x.w.fr, .int .i64 x.w.to, .int .i64 x.tot] 68)).grown hb2
      have e1 := hrow2.cell hlt
      have e2 := hrow2.frozen hlt
      have e3 := hrow2.1
      rw [← HA.out]
      have HROW := Lib.hid hrow2
      clear hrow hrow2
      go_wp2_with fail
      go_roundw
      case measure => simp [intOf]; omega
      case rel => exact ⟨k + 1, by omega, by go_num, (HROW.out.set k _).congr (fun j hj => by
        by_cases h : j = k
        · subst h; simp
        · simp only [if_neg h]; congr 1; by_cases h2 : j < k
          · rw [if_pos h2, if_pos (by omega)]
          · rw [if_neg h2, if_neg (by omega)]), hbw2.setCell (by rw [HB.out]; exact Nat.le_refl _) _⟩
    · have hki : ¬ (k : Int) < (l.length : Int) := by omega
      have HROW : Hid (Row wr B l.length (fun j => .int .i64 (aftL z t l j))) := hrow.congr (fun j hj => by rw [if_pos (by omega)])
      clear hrow
      have hwl : IntKind.i64.wrap (last + 1) = last + 1 := IntWalk.i64_in _ (by omega)
      have HL := Lib.hid (fun u => atK_end (l := l) (k := l.length) (by omega) z u last)
      go_wp2_with fail
      clear hki hlt hk hc hf
      go_loopw [12] (fun s wr => ∃ u : Int, intOf s ≤ u ∧ 0 ≤ intOf s ∧ t ≤ u ∧ u ≤ 268435456 ∧ u ≤ last ∧ Hid (Quiet (difB l z) t u) ∧ Hid (Row wr B l.length (fun j => .int .i64 (aftL z u l j))) ∧ Below W0.heap.size W0 wr) (fun s _ => (268435457 - intOf s).toNat)
      case atStart => exact ⟨t, by simp [intOf, undef]; omega, by simp [intOf, undef], Int.le_refl _, h1, h2, Quiet.refl _ _, HROW, hbw⟩
      case round =>
        clear HROW hbw
        obtain ⟨u, hsu, hs0, htu, hu1, hul, HQ, HROW, hbw⟩ := hrel
        obtain ⟨hc, hf⟩ := bcell hbw
        have hu0 : 0 ≤ u := by omega
        have HGT := Lib.hid (atF_gt (l := l) (z := z) (last := last) hu0 hu1 hul)
        have HLE := Lib.hid (atF_le l z u last)
        have HQA := Lib.hid (atF_quiet (l := l) (z := z) (last := last) hu0 hu1)
        have HST := Lib.hid (fun h1 j hj => aftL_step (l := l) (z := z) (x := atF l z u last) hu0 hu1 rfl hul h1 (j := j) hj)
        have HEND := HL.out u
        have hB2 := HROW.out.1
        go_wp2_with fail
        go_loopw [12, 39] (fun s i wx => ∃ k : Nat, k ≤ l.length ∧ i = .int .i64 k ∧ s = .int .i64 (atK l z u last k) ∧ wx = wr) (fun _ i _ => l.length - (intOf i).toNat)
        case atStart => exact ⟨0, by omega, rfl, rfl, rfl⟩
        case round =>
          obtain ⟨k, hk, rfl, rfl, rfl⟩ := hrel
          by_cases hlt : k < l.length
          · have hki : (k : Int) < (l.length : Int) := by omega
            have e1 := HROW.out.cell hlt
            have HK := Lib.hid (atK_succ hlt z u last)
            generalize aftL z u l k = y at *
            generalize atK l z u last k = m at *
            go_wp2_with fail
            go_roundw
            case measure => simp [intOf]; omega
            case rel => exact ⟨k + 1, by omega, by go_num, by first | exact minV HK.out | rw [HK.out], trivial⟩
          · have hki : ¬ (k : Int) < (l.length : Int) := by omega
            obtain rfl : k = l.length := by omega
            rw [HEND]
            have HX : Hid (atF l z u last = atF l z u last) := rfl
            generalize hx : atF l z u last = x at *
            clear HEND HX hx
            have hx0' : 0 ≤ x := by have := HGT.out; omega
            have hb0w := below_step hb0 hbw
            by_cases a1 : last < x
            · go_wp2_with fail
              go_ret
              exact ⟨-1, rfl, .inr ⟨rfl, HQ.out.trans (HQA.out.mono (by omega))⟩, hb0w⟩
            by_cases a2 : 268435456 < x
            · go_wp2_with fail
              go_ret
              exact ⟨-1, rfl, .inr ⟨rfl, (HQ.out.trans HQA.out).all (by omega) _⟩, hb0w⟩
            have a3 : x ≤ 268435456 := by omega
            go_wp2_with fail
            refine (conDiffers_any l _ z x _ (HV.out.below hbw) (HIS.out.below hbw) HF.out hx0' (by omega)).mono ?_
            rintro e w2 ⟨rfl, hb2⟩
            have hbw2 := below_step hbw hb2
            cases hd : difB l z x with
            | true =>
              have HD := Lib.hid hd
              clear hd
              go_wp2_with fail
              go_ret
              exact ⟨x, rfl, .inl ⟨by have := HGT.out; omega, by omega, a3, HD.out, HQ.out.trans HQA.out⟩, below_step hb0 hbw2⟩
            | false =>
              have HQ2 := Lib.hid ((HQ.out.trans HQA.out).with hd)
              have HROW2 := Lib.hid (HROW.out.grown hb2)
              have HST2 := Lib.hid (HST.out a3)
              clear hd HROW HST HQ HQA hB2 hbw hc hf hb2
              obtain ⟨hc, hf⟩ := bcell hbw2
              have hB2 := HROW2.out.1
              go_wp2_with fail
              go_loopw [61] (fun i wx => ∃ k : Nat, k ≤ l.length ∧ i = .int .i64 k ∧ Row wx B l.length (fun j => .int .i64 (if j < k then aftL z x l j else aftL z u l j)) ∧ Below W0.heap.size W0 wx) (fun i _ => l.length - (intOf i).toNat)
              case atStart => exact ⟨0, by omega, rfl, HROW2.out.congr (fun j hj => by simp), hbw2⟩
              case round =>
                clear HROW2 hbw2 hc hf hB2
                obtain ⟨k, hk, rfl, hrow, hbw2⟩ := hrel
                obtain ⟨hc, hf⟩ := bcell hbw2
                have hB2 := hrow.1
                by_cases hlt : k < l.length
                · have hki : (k : Int) < (l.length : Int) := by omega
                  have hst := HST2.out k hlt
                  have e1 := hrow.cell hlt
                  have e2 := hrow.frozen hlt
                  have HA := Lib.hid (aftL_at (z := z) (t := x) hlt)
                  have HROW := Lib.hid hrow
                  simp only [Nat.lt_irrefl, if_false] at e1
                  by_cases hy : aftL z u l k = x
                  · rw [hy] at e1
                    obtain ⟨b, off, rfl, hb, c0, c1, c2, c3, c4, c5, c6, c7⟩ := con_at (hsl.below hbw2) hlt
                    clear hst hrow hy
                    generalize l[k] = q at *
                    go_wp2_with fail
                    go_region_with (go_at_call 93; refine (conAfter_any q z x _ (HV.out.below hbw2.drew) hx0' a3).mono ?_; rintro e w4 ⟨rfl, hb4⟩; have hrow4 := HROW.out.drew.grown hb4; have f1 := hrow4.cell hlt; have f2 := hrow4.frozen hlt; have HROW4 := Lib.hid hrow4; clear hrow4; have hbw4 := below_step hbw2.drew hb4; rw [← HA.out])
                    all_goals
                      go_wp2_with fail
                      go_roundw
                      case measure => simp [intOf]; omega
                      case rel => exact ⟨k + 1, by omega, by go_num, (HROW4.out.set k _).congr (fun j hj => by
                        by_cases h : j = k
                        · subst h; simp
                        · simp only [if_neg h]; congr 1; by_cases h2 : j < k
                          · rw [if_pos h2, if_pos (by omega)]
                          · rw [if_neg h2, if_neg (by omega)]), hbw4.setCell (by rw [HB.out]; exact Nat.le_refl _) _⟩
                  · have hst2 := Lib.hid (hst hy)
                    clear hst hrow
                    go_wp2_with fail
                    go_roundw
                    case measure => simp [intOf]; omega
                    case rel => exact ⟨k + 1, by omega, by go_num, HROW.out.congr (fun j hj => by
                      by_cases h : j = k
                      · subst h; rw [if_neg (by omega), if_pos (by omega), hst2.out]
                      · congr 1; by_cases h2 : j < k
                        · rw [if_pos h2, if_pos (by omega)]
                        · rw [if_neg h2, if_neg (by omega)]), hbw2⟩
                · have hki : ¬ (k : Int) < (l.length : Int) := by omega
                  have HR3 : Hid (Row wr B l.length (fun j => .int .i64 (aftL z x l j))) := hrow.congr (fun j hj => by rw [if_pos (by omega)])
                  clear hrow
                  go_wp2_with fail
                  go_roundw
                  case measure =>
                    have := HGT.out
                    show (268435457 - x).toNat < _
                    omega
                  case rel => exact ⟨x, Int.le_refl _, hx0', by have := HGT.out; omega, a3, by omega, HQ2, HR3, hbw2⟩

end Go.Proofs.YtmappmeojmdekaaGreatDoor

namespace Go.Proofs.YtmappmeojmdekaaGreatDoor
open Go.RowKit Go.Lib Go.Maps
set_option linter.unusedVariables false

theorem ChgIs.cases {D : Int → Bool} {t last r : Int} (h : ChgIs D t last r) : (0 ≤ r ∧ t < r ∧ r ≤ last ∧ r ≤ 268435456 ∧ D r = true ∧ Quiet D t (r - 1)) ∨ (r = -1 ∧ Quiet D t last) ∨ (r < 0 ∧ t < r) := by
  rcases h with ⟨a, b, c, d, e⟩ | ⟨a, b⟩
  · by_cases h : 0 ≤ r
    · exact .inl ⟨h, a, b, c, d, e⟩
    · exact .inr (.inr ⟨by omega, a⟩)
  · exact .inr (.inl ⟨a, b⟩)

set_option maxRecDepth 100000 in
set_option maxHeartbeats 6400000 in
theorem conNext_any (l : List ConR) (v : Value) (z : ZoneR) (t : Int) (w : World) (hv : LenV w) (hL : IsSl w 8 v (l.map ConR.cells)) (hfit : ∀ c ∈ l, c.fits) (hlen : l.length ≤ 1000) :
    Calls Tryz.prog 60 #[v, .agg #[.int .i64 z.off, .bool z.sum], .int .i64 t] w fun e w' => e = .returned (.int .i64 (conA l z t)) ∧ Below w.heap.size w w' := by
  obtain ⟨W0, hW0, hb0, hg0, hx0⟩ := box1 w #[.int .i64 z.off, .bool z.sum] 27
  have HV := Lib.hid (hv.below hb0)
  have HF := Lib.hid hfit
  have HIS := Lib.hid (hL.below hb0)
  clear hv hfit hL
  by_cases hout : ¬ (0 ≤ t ∧ t ≤ 268435456)
  · have HE := Lib.hid (conA_out (l := l) (z := z) hout)
    have hcase : t < 0 ∨ (¬ t < 0 ∧ 268435456 < t) := by omega
    clear hout
    rcases hcase with h1 | ⟨h1, h2⟩
    all_goals
      go_enter Tryz.func60, Tryz.ntmps60
      go_wp2_with fail
      go_ret
      exact ⟨ret_int HE.out.symm, by rw [← hW0]; exact hb0⟩
  have h0 : 0 ≤ t := by omega
  have h1 : t ≤ 268435456 := by omega
  have h00 : ¬ t < 0 := by omega
  have h11 : ¬ 268435456 < t := by omega
  clear hout
  have HRES := Lib.hid (fun r (h : NextP (difB l z) t r) => conA_of (l := l) (z := z) h0 h1 h)
  go_enter Tryz.func60, Tryz.ntmps60
  go_wp2_with fail
  rw [← hW0]
  clear hW0
  go_loopw [2] (fun s wr => ∃ u : Int, s = .int .i64 u ∧ t ≤ u ∧ u ≤ 268435456 ∧ Hid (Quiet (difB l z) t u) ∧ Below W0.heap.size W0 wr) (fun s _ => (268435457 - intOf s).toNat)
  case atStart => exact ⟨t, rfl, Int.le_refl _, h1, Quiet.refl _ _, Below.refl _ _⟩
  case round =>
    obtain ⟨u, rfl, htu, hu1, HQ, hbw⟩ := hrel
    have hu0 : 0 ≤ u := by omega
    have hed := edge_is l (t := u) hu1
    go_wp2_with fail
    refine (conEdge_any l _ u _ (HIS.out.below hbw)).mono ?_
    rintro e w2 ⟨rfl, hb2⟩
    obtain ⟨e0, e1, HNE⟩ := hed
    replace HNE := Lib.hid HNE
    generalize edgeF l u = ed at *
    have hbw2 := below_step hbw hb2
    clear hb2
    obtain ⟨hc, hf⟩ := bcell hbw2
    have q1 : IntKind.i64.wrap (ed - 1) = ed - 1 := IntWalk.i64_in _ (by omega)
    have q2 : IntKind.i64.wrap (u + 20160) = u + 20160 := IntWalk.i64_in _ (by omega)
    go_wp2_with fail
    refine (conChange_any l _ z u (min (ed - 1) (u + 20160)) _ (HV.out.below hbw2) (HIS.out.below hbw2) HF.out hlen hu0 hu1 (by omega) (by omega)).mono ?_
    rintro e w3 ⟨r, rfl, hr, hb3⟩
    have hbw3 := below_step hbw2 hb3
    clear hc hf hb3
    obtain ⟨hc, hf⟩ := bcell hbw3
    rcases hr.cases with ⟨r0, r1, r2, r3, r4, r5⟩ | ⟨rfl, r5⟩ | ⟨r0, r1⟩
    · have HE := Lib.hid (HRES.out r ((HQ.out.trans r5).found (by omega) r3 r4))
      clear hr r4 r5
      go_wp2_with fail
      go_ret
      exact ⟨ret_int HE.out.symm, below_step hb0 hbw3⟩
    · have hq := HQ.out.trans (round_quiet hu0 HNE.out r5)
      have HQ2 := Lib.hid hq
      clear hr r5 hq
      by_cases a1 : 268435456 < ed
      · have HE := Lib.hid (HRES.out _ (HQ2.out.none (by omega)))
        go_wp2_with fail
        go_ret
        exact ⟨ret_int HE.out.symm, below_step hb0 hbw3⟩
      · go_wp2_with fail
        refine (conDiffers_any l _ z ed _ (HV.out.below hbw3) (HIS.out.below hbw3) HF.out (by omega) (by omega)).mono ?_
        rintro e w4 ⟨rfl, hb4⟩
        have hbw4 := below_step hbw3 hb4
        clear hb4
        cases hd : difB l z ed with
        | true =>
          have HE := Lib.hid (HRES.out ed (HQ2.out.found (by omega) (by omega) hd))
          clear hd
          go_wp2_with fail
          go_ret
          exact ⟨ret_int HE.out.symm, below_step hb0 hbw4⟩
        | false =>
          have HQ3 := Lib.hid (HQ2.out.with hd)
          clear hd
          go_wp2_with fail
          go_roundw
          case measure => simp only [intOf]; omega
          case rel => exact ⟨ed, rfl, by omega, by omega, HQ3, hbw4⟩
    · omega

end Go.Proofs.YtmappmeojmdekaaGreatDoor

namespace Go.Proofs.YtmappmeojmdekaaGreatDoor
open Go.RowKit Go.Lib Go.Maps
set_option linter.unusedVariables false

theorem conInfo : (Tryz.prog.info? 68).map (fun i => (i.zero, i.size, i.bytes)) = some (some (.agg #[.string ⟨#[]⟩, .int .i64 0, .int .i64 0, .int .i64 0, .int .i64 0, .int .i64 0, .int .i64 0, .int .i64 0]), 8, 72) := by kernel_rfl
theorem stepInfo : (Tryz.prog.info? 52).map (fun i => (i.zero, i.size, i.bytes)) = some (some (.agg #[.int .i64 0, .int .i64 0]), 2, 16) := by kernel_rfl
/-- the error of Series, and the steps -/
noncomputable def cserE (l : List ConR) (z : ZoneR) (f a b : Int) : Int :=
  if 0 ≤ a ∧ a ≤ b ∧ b ≤ 268435456 ∧ b - a ≤ 20160 then (if a = b then 0 else if (restR (cAt l z f) b a []).isSome = true then 0 else 3) else 2
noncomputable def cserL (l : List ConR) (z : ZoneR) (f a b : Int) : List (Int × Int) := if cserE l z f a b = 0 then (if a = b then [] else (restR (cAt l z f) b a []).getD []) else []
structure CserIs (l : List ConR) (z : ZoneR) (f a b c : Int) (L : List (Int × Int)) : Prop where
  e : cserE l z f a b = c
  l : cserL l z f a b = L
theorem cser_range {l : List ConR} {z : ZoneR} {f a b : Int} (h : ¬ (0 ≤ a ∧ a ≤ b ∧ b ≤ 268435456 ∧ b - a ≤ 20160)) : CserIs l z f a b 2 [] := by
  have e : cserE l z f a b = 2 := if_neg h
  exact ⟨e, if_neg (by rw [e]; decide)⟩
theorem cser_empty {l : List ConR} {z : ZoneR} {f a b : Int} (h : 0 ≤ a ∧ a ≤ b ∧ b ≤ 268435456 ∧ b - a ≤ 20160) (hab : a = b) : CserIs l z f a b 0 [] := by
  have e : cserE l z f a b = 0 := by unfold cserE; rw [if_pos h, if_pos hab]
  exact ⟨e, by unfold cserL; rw [if_pos e, if_pos hab]⟩
theorem cser_none {l : List ConR} {z : ZoneR} {f a b : Int} (h : 0 ≤ a ∧ a ≤ b ∧ b ≤ 268435456 ∧ b - a ≤ 20160) (hab : ¬ a = b) (hr : restR (cAt l z f) b a [] = none) : CserIs l z f a b 3 [] := by
  have e : cserE l z f a b = 3 := by unfold cserE; rw [if_pos h, if_neg hab, hr]; rfl
  exact ⟨e, if_neg (by rw [e]; decide)⟩
theorem cser_some {l : List ConR} {z : ZoneR} {f a b : Int} {L : List (Int × Int)} (h : 0 ≤ a ∧ a ≤ b ∧ b ≤ 268435456 ∧ b - a ≤ 20160) (hab : ¬ a = b) (hr : restR (cAt l z f) b a [] = some L) : CserIs l z f a b 0 L := by
  have e : cserE l z f a b = 0 := by unfold cserE; rw [if_pos h, if_neg hab, hr]; rfl
  exact ⟨e, by unfold cserL; rw [if_pos e, if_neg hab, hr]; rfl⟩
/-- what Series hands back -/
def CserPost (w : World) (l : List ConR) (z : ZoneR) (f a b : Int) (e : Ending) (w' : World) : Prop := ∃ v, e = .returned (.tuple #[v, .int .i64 (cserE l z f a b)]) ∧ IsSl w' 2 v ((cserL l z f a b).map encP) ∧ Below w.heap.size w w'
theorem CserPost.mk {w : World} {l : List ConR} {z : ZoneR} {f a b c : Int} {L : List (Int × Int)} {v : Value} {w' : World} (h : CserIs l z f a b c L) (hs : IsSl w' 2 v (L.map encP)) (hb : Below w.heap.size w w') : CserPost w l z f a b (.returned (.tuple #[v, .int .i64 c])) w' :=
  ⟨v, by rw [h.e], by rw [h.l]; exact hs, hb⟩
def mesT (t : Int) : Nat := if t < 0 then 0 else (268435458 - t).toNat
theorem mesT_dec {t u : Int} (h0 : 0 ≤ t) (h1 : t ≤ 268435456) (h : u = -1 ∨ (t < u ∧ u ≤ 268435456)) : mesT u < mesT t := by
  have e : mesT t = (268435458 - t).toNat := if_neg (by omega)
  rw [e]
  unfold mesT
  by_cases hu : u < 0
  · rw [if_pos hu]; omega
  · rw [if_neg hu]; omega
theorem ownC_len (f : Int) (l : List ConR) : (ownC f l).length ≤ l.length := List.length_filter_le _ _
theorem ownC_fits {f : Int} {l : List ConR} (h : ∀ c ∈ l, c.fits) : ∀ c ∈ ownC f l, c.fits := fun c hc => h c (List.mem_filter.1 hc).1

end Go.Proofs.YtmappmeojmdekaaGreatDoor

namespace Go.Proofs.YtmappmeojmdekaaGreatDoor
open Go.RowKit Go.Lib Go.Maps
set_option linter.unusedVariables false

theorem drewN_belowC {w w' : World} (h : ∃ n, w' = w.drewN n) : Below w.heap.size w w' := by
  obtain ⟨n, rfl⟩ := h
  exact below_drewN (Below.refl _ _) n

set_option maxRecDepth 100000 in
set_option maxHeartbeats 6400000 in
theorem conValid_any (x : ConR) (s : ByteArray) (A B : Option Addr) (n c m d : Nat) (w : World) (hn : x.nm.size ≤ maxLen) (hm : n ≤ maxLen) :
    Calls Tryz.prog 27 #[.agg #[.string x.nm, .int .i64 x.fd, .int .i64 x.w.dy, .int .i64 x.w.st, .int .i64 x.w.en, .int .i64 x.w.fr, .int .i64 x.w.to, .int .i64 x.tot], .agg #[.string s, .slice A n c, .slice B m d]] w
      fun e w' => e = .returned (.int .i64 (conE x n)) ∧ Below w.heap.size w w' := by
  obtain ⟨W0, hW0, hb0, hg1, hg0, hx0, hy0⟩ := box2 w #[.string x.nm, .int .i64 x.fd, .int .i64 x.w.dy, .int .i64 x.w.st, .int .i64 x.w.en, .int .i64 x.w.fr, .int .i64 x.w.to, .int .i64 x.tot] 68 #[.string s, .slice A n c, .slice B m d] 25
  unfold maxLen at hm
  cases hv : validL x.nm.data.toList with
  | false =>
    have HE := Lib.hid (conE_name (n := n) hv)
    have HV := Lib.hid hv
    clear hv
    go_enter Tryz.func27, Tryz.ntmps27
    go_wp2_with fail
    rw [← hW0]
    clear hW0
    refine (valid_any x.nm _ hn).mono ?_
    rintro e w1 ⟨rfl, hb1⟩
    rw [HV.out]
    go_wp2_with fail
    go_ret
    exact ⟨ret_int HE.out.symm, below_step hb0 hb1⟩
  | true =>
    have HV := Lib.hid hv
    have hcase : (x.fd < 0 ∨ (¬ x.fd < 0 ∧ (n : Int) ≤ x.fd) ∨ (¬ x.fd < 0 ∧ ¬ (n : Int) ≤ x.fd ∧ x.tot < 0) ∨ (¬ x.fd < 0 ∧ ¬ (n : Int) ≤ x.fd ∧ ¬ x.tot < 0 ∧ 1073741824 < x.tot)) ∨ (¬ x.fd < 0 ∧ ¬ (n : Int) ≤ x.fd ∧ ¬ x.tot < 0 ∧ ¬ 1073741824 < x.tot) := by omega
    rcases hcase with hbad | ⟨k1, k2, k3, k4⟩
    · have HE := Lib.hid (conE_range (n := n) hv (by omega))
      clear hv
      go_enter Tryz.func27, Tryz.ntmps27
      go_wp2_with fail
      rw [← hW0]
      clear hW0
      refine (valid_any x.nm _ hn).mono ?_
      rintro e w1 ⟨rfl, hb1⟩
      rw [HV.out]
      obtain ⟨hc, hf⟩ := bcell hb1
      rcases hbad with k1 | ⟨k1, k2⟩ | ⟨k1, k2, k3⟩ | ⟨k1, k2, k3, k4⟩
      all_goals
        go_wp2_with fail
        go_ret
        exact ⟨ret_int HE.out.symm, below_step hb0 hb1⟩
    · have HE := Lib.hid (conE_ok (n := n) hv (by omega))
      clear hv
      go_enter Tryz.func27, Tryz.ntmps27
      go_wp2_with fail
      rw [← hW0]
      clear hW0
      refine (valid_any x.nm _ hn).mono ?_
      rintro e w1 ⟨rfl, hb1⟩
      rw [HV.out]
      obtain ⟨hc, hf⟩ := bcell hb1
      go_wp2_with fail
      refine (winValid_any x.w _).mono ?_
      rintro e w2 ⟨rfl, hb2⟩
      go_wp2_with fail
      go_ret
      exact ⟨ret_int HE.out.symm, below_step hb0 (below_step hb1 hb2)⟩

set_option maxRecDepth 100000 in
set_option maxHeartbeats 6400000 in
theorem refConV_any (x : ConR) (s : ByteArray) (A B : Option Addr) (n c m d : Nat) (w : World) (hn : x.nm.size ≤ maxLen) (hm : n ≤ maxLen) :
    Calls Tryz.prog 32 #[.agg #[.string x.nm, .int .i64 x.fd, .int .i64 x.w.dy, .int .i64 x.w.st, .int .i64 x.w.en, .int .i64 x.w.fr, .int .i64 x.w.to, .int .i64 x.tot], .agg #[.string s, .slice A n c, .slice B m d]] w
      fun e w' => e = .returned (.int .i64 (conE x n)) ∧ Below w.heap.size w w' := by
  obtain ⟨W0, hW0, hb0, hg1, hg0, hx0, hy0⟩ := box2 w #[.string x.nm, .int .i64 x.fd, .int .i64 x.w.dy, .int .i64 x.w.st, .int .i64 x.w.en, .int .i64 x.w.fr, .int .i64 x.w.to, .int .i64 x.tot] 68 #[.string s, .slice A n c, .slice B m d] 25
  unfold maxLen at hm
  cases hv : validL x.nm.data.toList with
  | false =>
    have HE := Lib.hid (conE_name (n := n) hv)
    have HV := Lib.hid hv
    clear hv
    go_enter Tryz.func32, Tryz.ntmps32
    go_wp2_with fail
    rw [← hW0]
    clear hW0
    refine (refIdV_any x.nm _ hn).mono ?_
    rintro e w1 ⟨rfl, hb1⟩
    replace hb1 := drewN_belowC hb1
    rw [HV.out]
    go_wp2_with fail
    go_ret
    exact ⟨ret_int HE.out.symm, below_step hb0 hb1⟩
  | true =>
    have HV := Lib.hid hv
    have hcase : (x.fd < 0 ∨ (¬ x.fd < 0 ∧ (n : Int) ≤ x.fd) ∨ (¬ x.fd < 0 ∧ ¬ (n : Int) ≤ x.fd ∧ x.tot < 0) ∨ (¬ x.fd < 0 ∧ ¬ (n : Int) ≤ x.fd ∧ ¬ x.tot < 0 ∧ 1073741824 < x.tot)) ∨ (¬ x.fd < 0 ∧ ¬ (n : Int) ≤ x.fd ∧ ¬ x.tot < 0 ∧ ¬ 1073741824 < x.tot) := by omega
    rcases hcase with hbad | ⟨k1, k2, k3, k4⟩
    · have HE := Lib.hid (conE_range (n := n) hv (by omega))
      clear hv
      go_enter Tryz.func32, Tryz.ntmps32
      go_wp2_with fail
      rw [← hW0]
      clear hW0
      refine (refIdV_any x.nm _ hn).mono ?_
      rintro e w1 ⟨rfl, hb1⟩
      replace hb1 := drewN_belowC hb1
      rw [HV.out]
      obtain ⟨hc, hf⟩ := bcell hb1
      rcases hbad with k1 | ⟨k1, k2⟩ | ⟨k1, k2, k3⟩ | ⟨k1, k2, k3, k4⟩
      all_goals
        go_wp2_with fail
        go_ret
        exact ⟨ret_int HE.out.symm, below_step hb0 hb1⟩
    · have HE := Lib.hid (conE_ok (n := n) hv (by omega))
      clear hv
      go_enter Tryz.func32, Tryz.ntmps32
      go_wp2_with fail
      rw [← hW0]
      clear hW0
      refine (refIdV_any x.nm _ hn).mono ?_
      rintro e w1 ⟨rfl, hb1⟩
      replace hb1 := drewN_belowC hb1
      rw [HV.out]
      obtain ⟨hc, hf⟩ := bcell hb1
      go_wp2_with fail
      refine (refValid_any x.w _).mono ?_
      rintro e w2 ⟨rfl, hb2⟩
      go_wp2_with fail
      go_ret
      exact ⟨ret_int HE.out.symm, below_step hb0 (below_step hb1 hb2)⟩

end Go.Proofs.YtmappmeojmdekaaGreatDoor

namespace Go.Proofs.YtmappmeojmdekaaGreatDoor
open Go.RowKit Go.Lib Go.Maps
set_option linter.unusedVariables false

set_option maxRecDepth 100000 in
theorem eq_step (x : Int × Int) (w : World) : (Op.equalIn 10000 52 (.agg #[.int .i64 x.1, .int .i64 x.2]) (.agg #[.int .i64 x.1, .int .i64 x.2])).run Tryz.prog w = .ok true w := by
  rw [run_equalIn_agg w 9999 _ _ _ Tryz.underlying52 Tryz.stoodInHeld52]
  simp only [Program.fieldsOf, Tryz.underlying52]
  simp [go_sem, Op.eqFields, part, run_equalIn_int _ _ _ _ _ _ _ Tryz.underlying3]
theorem neq_step (x : Int × Int) (w : World) : (binOp .neq 52 (.agg #[.int .i64 x.1, .int .i64 x.2]) (.agg #[.int .i64 x.1, .int .i64 x.2])).run Tryz.prog w = .ok (.bool false) w := by
  rw [run_neq_struct, eq_step]; rfl
theorem pair_at {w : World} {A : Option Addr} {l : List (Int × Int)} (h : SlAt w 2 A (l.map encP)) {k : Nat} {x : Int × Int} (hk : l[k]? = some x) :
    ∃ b off, A = some ⟨b, off, none⟩ ∧ b < w.heap.size ∧ w.cell? ⟨b, off + k * 2, none⟩ = some (.int .i64 x.1) ∧ w.cell? ⟨b, off + k * 2 + 1, none⟩ = some (.int .i64 x.2) := by
  obtain ⟨b, off, e, hb, hc⟩ := h k (encP x) (by rw [List.getElem?_map, hk]; rfl)
  have c0 := hc 0 _ rfl
  have c1 := hc 1 _ rfl
  exact ⟨b, off, e, hb, by simpa using c0, by simpa [Nat.add_assoc] using c1⟩

/-- a slice literal of rows -/
theorem rows_lit {α : Type} {enc : α → List Value} {size : Nat} (henc : ∀ x, (enc x).length = size) (w : World) (T : TypeId) (l : List α) (cs : Array Value) (h : cs.toList = l.flatMap enc) : SlAt (w.alloc (.cells cs T)) size (some ⟨w.heap.size, 0, none⟩) (l.map enc) := by
  intro k row hk
  obtain ⟨x, hx, rfl⟩ := rows_at enc hk
  refine ⟨w.heap.size, 0, rfl, by simp, fun j u hu => ?_⟩
  have := World.cell?_alloc_mark w cs T (0, 0) (k * size + j)
  rw [Nat.zero_add, this, ← Array.getElem?_toList, h]
  exact flat_at enc size henc l k x hx j u hu

end Go.Proofs.YtmappmeojmdekaaGreatDoor

namespace Go.Proofs.YtmappmeojmdekaaGreatDoor
open Go.RowKit Go.Lib Go.Maps
set_option linter.unusedVariables false

end Go.Proofs.YtmappmeojmdekaaGreatDoor

namespace Go.Proofs.YtmappmeojmdekaaGreatDoor
open Go.RowKit Go.Lib Go.Maps
attribute [local go_sem] after_cell
set_option linter.unusedVariables false

theorem refHoldsC {W : WinR} {z : ZoneR} {t : Int} {b : Bool} (h : holdsB W z t = b) (w : World) :
    Calls Tryz.prog 74 #[.agg #[.int .i64 W.dy, .int .i64 W.st, .int .i64 W.en, .int .i64 W.fr, .int .i64 W.to], .agg #[.int .i64 z.off, .bool z.sum], .int .i64 t] w
      fun e w' => e = .returned (.bool b) ∧ Below w.heap.size w w' := by
  have := refHolds_any W z t w
  rw [h] at this
  exact this

set_option maxRecDepth 100000 in
set_option maxHeartbeats 6400000 in
theorem refConAt_any (l : List ConR) (v : Value) (z : ZoneR) (f t : Int) (w : World) (hL : IsSl w 8 v (l.map ConR.cells)) :
    Calls Tryz.prog 57 #[v, .agg #[.int .i64 z.off, .bool z.sum], .int .i64 f, .int .i64 t] w fun e w' => e = .returned (.int .i64 (cAt l z f t)) ∧ Below w.heap.size w w' := by
  obtain ⟨W0, hW0, hb0, hg0, hx0⟩ := box1 w #[.int .i64 z.off, .bool z.sum] 27
  replace hL := hL.below hb0
  obtain ⟨A, c, rfl, hlc, hcm, hsl⟩ := hL
  rw [List.length_map] at hlc
  unfold maxLen at hcm
  simp only [List.length_map]
  go_enter Tryz.func57, Tryz.ntmps57
  go_wp2_with fail
  rw [← hW0]
  clear hW0
  go_loopw [9, 10] (fun n i wr => ∃ k : Nat, k ≤ l.length ∧ n = .int .i64 (cAt (l.take k) z f t) ∧ i = .int .i64 k ∧ Below W0.heap.size W0 wr) (fun _ i _ => l.length - (intOf i).toNat)
  case atStart => exact ⟨0, by omega, rfl, rfl, Below.refl _ _⟩
  case round =>
    obtain ⟨k, hk, rfl, rfl, hbw⟩ := hrel
    obtain ⟨hc, hf⟩ := bcell hbw
    by_cases hlt : k < l.length
    · have hki : (k : Int) < (l.length : Int) := by omega
      obtain ⟨b, off, rfl, hb, c0, c1, c2, c3, c4, c5, c6, c7⟩ := con_at (hsl.below hbw) hlt
      have hst := cAt_take hlt z f t
      have y1 : ∀ j, wr.cell? ⟨w.heap.size, j, none⟩ = (#[.int .i64 z.off, .bool z.sum] : Array Value)[j]? := fun j => (hc _ _ hg0).trans (hx0 j)
      have y2 : w.heap.size < wr.heap.size := Nat.lt_of_lt_of_le hg0 hbw.size
      have hbr := Below.refl wr.heap.size wr
      clear hc hf
      generalize l[k] = x at *
      generalize cAt (l.take k) z f t = n at *
      by_cases hfd : x.fd = f
      · cases hh : holdsB x.w z t with
        | false =>
          have H : Hid (cAt (l.take (k + 1)) z f t = n) := by unfold Hid; rw [hst]; exact if_neg (fun h => by rw [(cOn_iff.1 h).2] at hh; cases hh)
          have HC := Lib.hid (fun w => refHoldsC hh w)
          have hd : decide (x.fd = f) = true := by simp [hfd]
          clear hst hh
          go_wp2_with fail
          (refine wp_region_kept wr (by kernel_rfl) (by kernel_rfl) (by assumption) ?_; (repeat (go_big_quiet_step ((first | (go_at_call 74; exact kept_call (HC.out _)))))); refine wpQuiet_nil ?_; intro _ hw'; obtain ⟨x9, hw''⟩ := hw'; subst hw''; have hk9 := after_kept x9; generalize after x9 = w9 at *)
          obtain ⟨hc9, hb9⟩ := hk9
          go_wp2_with fail
          go_roundw
          case measure => simp [intOf]; omega
          case rel => exact ⟨k + 1, by omega, by rw [H.out], by go_num, below_step hbw hb9⟩
        | true =>
          have H : Hid (cAt (l.take (k + 1)) z f t = min n x.tot) := by unfold Hid; rw [hst]; exact if_pos (cOn_iff.2 ⟨hfd, hh⟩)
          have HC := Lib.hid (fun w => refHoldsC hh w)
          have hd : decide (x.fd = f) = true := by simp [hfd]
          clear hst hh
          go_wp2_with fail
          (refine wp_region_kept wr (by kernel_rfl) (by kernel_rfl) (by assumption) ?_; (repeat (go_big_quiet_step ((first | (go_at_call 74; exact kept_call (HC.out _)))))); refine wpQuiet_nil ?_; intro _ hw'; obtain ⟨x9, hw''⟩ := hw'; subst hw''; have hk9 := after_kept x9; generalize after x9 = w9 at *)
          obtain ⟨hc9, hb9⟩ := hk9
          have d7 := (hc9 b _ hb).trans c7
          have hz9 : b < w9.heap.size := Nat.lt_of_lt_of_le hb hb9.size
          clear c0 c1 c2 c3 c4 c5 c6 c7 hc9
          go_wp2_with fail
          go_roundw
          case measure => simp [intOf]; omega
          case rel => exact ⟨k + 1, by omega, by first | exact minV H.out | rw [H.out], by go_num, below_step hbw hb9⟩
      · have H : Hid (cAt (l.take (k + 1)) z f t = n) := by unfold Hid; rw [hst]; exact if_neg (fun h => hfd (cOn_iff.1 h).1)
        have hd : decide (x.fd = f) = false := by simp [hfd]
        have hd2 : (x.fd == f) = false := by simp [hfd]
        clear hst
        go_wp2_with fail
        (refine wp_region_kept wr (by kernel_rfl) (by kernel_rfl) (by assumption) ?_; (repeat (go_big_quiet_step ((first | fail)))); refine wpQuiet_nil ?_; intro _ hw'; obtain ⟨x9, hw''⟩ := hw'; subst hw''; have hk9 := after_kept x9; generalize after x9 = w9 at *)
        obtain ⟨hc9, hb9⟩ := hk9
        go_wp2_with fail
        go_roundw
        case measure => simp [intOf]; omega
        case rel => exact ⟨k + 1, by omega, by rw [H.out], by go_num, below_step hbw hb9⟩
    · have hki : ¬ (k : Int) < (l.length : Int) := by omega
      have H : Hid (cAt l z f t = cAt (l.take k) z f t) := by unfold Hid; rw [List.take_of_length_le (by omega)]
      go_wp2_with fail
      go_ret
      exact ⟨ret_int H.out.symm, below_step hb0 hbw⟩

end Go.Proofs.YtmappmeojmdekaaGreatDoor

namespace Go.Proofs.YtmappmeojmdekaaGreatDoor
open Go.RowKit Go.Lib Go.Maps
attribute [local go_sem] after_cell
set_option linter.unusedVariables false

/-- the strict contracts among the first k -/
def strictK (r : LimR) (t : Int) (k : Nat) : List ConR := (r.C.take k).filter (fun c => decide (c.tot < totF r c.fd t))
theorem strictK_full (r : LimR) (t : Int) : strictK r t r.C.length = strictF r t := by unfold strictK strictF; rw [List.take_length]
theorem strictK_step {r : LimR} {t : Int} {k : Nat} (h : k < r.C.length) : strictK r t (k + 1) = strictK r t k ++ (if r.C[k].tot < totF r r.C[k].fd t then [r.C[k]] else []) := by
  unfold strictK
  rw [List.take_succ_eq_append_getElem h, List.filter_append]
  by_cases e : r.C[k].tot < totF r r.C[k].fd t
  · simp [e]
  · simp [e]
theorem strictK_len (r : LimR) (t : Int) (k : Nat) : (strictK r t k).length ≤ k := by
  unfold strictK
  exact Nat.le_trans (List.length_filter_le _ _) (by rw [List.length_take]; omega)
theorem strictF_fits {r : LimR} {t : Int} (h : ∀ c ∈ r.C, c.fits) : ∀ c ∈ strictF r t, c.fits := fun c hc => h c (List.mem_filter.1 hc).1

set_option maxRecDepth 100000 in
set_option maxHeartbeats 6400000 in
theorem strict_any (r : RulR) (fv pv cv uv : Value) (t : Int) (w : World) (hI : LimIn w r fv pv cv uv) (hR : Rated r.S.F) (hfd : ∀ c ∈ r.C, 0 ≤ c.fd ∧ c.fd < r.S.F.length) (hlen : r.C.length ≤ 1000) :
    Calls Tryz.prog 61 #[.agg #[.string r.S.name, fv, pv, .int .i64 r.z.off, .bool r.z.sum, cv, uv], .int .i64 t] w
      fun e w' => ∃ v, e = .returned v ∧ IsSl w' 8 v ((strictF r.lim t).map ConR.cells) ∧ Below w.heap.size w w' := by
  have HI := Lib.hid hI
  obtain ⟨A, B, C, D, a, b, c, d, rfl, rfl, rfl, rfl, hA⟩ := hI.ad
  obtain ⟨W0, hW0, hb0, hg0, hx0⟩ := box1 w #[.string r.S.name, .slice A r.S.F.length a, .slice B r.S.P.length b, .int .i64 r.z.off, .bool r.z.sum, .slice C r.C.length c, .slice D r.U.length d] 31
  obtain ⟨l1, l2⟩ := hA.lC
  unfold maxLen at l2
  have HI0 := Lib.hid (HI.out.below hb0)
  have HA0 := Lib.hid (hA.below hb0)
  have HR := Lib.hid hR
  have HFD := Lib.hid hfd
  have HSF : Hid (strictK r.lim t r.C.length = strictF r.lim t) := strictK_full r.lim t
  obtain ⟨i0, hi, hz0, hz1, hz2⟩ := info_parts conInfo
  clear hA hI hR hfd
  go_enter Tryz.func61, Tryz.ntmps61
  go_wp2_with fail
  rw [← hW0]
  clear hW0
  go_loopw [5, 11] (fun y i wr => ∃ k : Nat, k ≤ r.C.length ∧ i = .int .i64 k ∧ Below W0.heap.size W0 wr ∧ wr.ownsRow W0.heap.size 68 8 y (strictK r.lim t k).length ((strictK r.lim t k).flatMap ConR.cells)) (fun _ i _ => r.C.length - (intOf i).toNat)
  case atStart => exact ⟨0, by omega, rfl, Below.refl _ _, World.ownsRow_nil _ _ _ _⟩
  case round =>
    obtain ⟨k, hk, rfl, hbw, hy⟩ := hrel
    obtain ⟨hc, hf⟩ := bcell hbw
    by_cases hlt : k < r.C.length
    · have hki : (k : Int) < (r.C.length : Int) := by omega
      obtain ⟨bb, off, rfl, hb, c0, c1, c2, c3, c4, c5, c6, c7⟩ := con_at (HA0.out.below hbw).sC hlt
      have HT : Hid (strictK r.lim t (k + 1) = strictK r.lim t k ++ (if r.C[k].tot < totF r.lim r.C[k].fd t then [r.C[k]] else [])) := strictK_step (r := r.lim) hlt
      have hol := strictK_len r.lim t k
      obtain ⟨hf0, hf1⟩ := HFD.out _ (List.getElem_mem hlt)
      generalize r.C[k] = x at *
      obtain ⟨n, hn⟩ : ∃ n : Nat, x.fd = n := ⟨x.fd.toNat, by omega⟩
      have hnl : n < r.S.F.length := by omega
      obtain ⟨W1, hW1, hb1, hg1, hx1⟩ := box1 wr #[.string x.nm, .int .i64 x.fd, .int .i64 x.w.dy, .int .i64 x.w.st, .int .i64 x.w.en, .int .i64 x.w.fr, .int .i64 x.w.to, .int .i64 x.tot] 68
      have hbw1 := below_step hbw hb1
      have HTT := Lib.hid (fun (w' : World) (h : Below W1.heap.size W1 w') => by have := total_any r _ _ _ _ n t w' ((HI0.out.below hbw1).below h) hnl HR.out; rw [← hn] at this; exact this)
      have y0 : ∀ j, W1.cell? ⟨w.heap.size, j, none⟩ = _ := fun j => (hb1.cell (p := ⟨w.heap.size, j, none⟩) (Nat.lt_of_lt_of_le hg0 hbw.size)).trans ((hc _ j hg0).trans (hx0 j))
      have y1 : w.heap.size < W1.heap.size := Nat.lt_of_lt_of_le hg0 hbw1.size
      have hbr := Below.refl W1.heap.size W1
      have hy1 := own_below hy hb1
      generalize strictK r.lim t k = ow at *
      clear hc hf hy hf0 hf1 hn
      go_wp2_with fail
      rw [← hW1]
      clear hW1 c0 c1 c2 c3 c4 c5 c6 c7
      by_cases hst : x.tot < totF r.lim x.fd t
      · have HT2 : Hid (strictK r.lim t (k + 1) = ow ++ [x]) := by unfold Hid; rw [HT.out, if_pos hst]
        (refine wp_region_kept W1 (by kernel_rfl) (by kernel_rfl) (by assumption) ?_; (repeat (go_big_quiet_step ((first | (go_at_call 55; exact kept_call (HTT.out _ (after_kept _).2)))))); refine wpQuiet_nil ?_; intro _ hw'; obtain ⟨x9, hw''⟩ := hw'; subst hw''; have hk9 := after_kept x9; generalize after x9 = w9 at *)
        obtain ⟨hc9, hb9⟩ := hk9
        have v1 : ∀ j, w9.cell? ⟨wr.heap.size, j, none⟩ = _ := fun j => (hc9 _ j hg1).trans (hx1 j)
        have hz9 := Nat.lt_of_lt_of_le hg1 hb9.size
        have hy9 := own_below hy1 hb9
        have hbw9 := below_step hbw1 hb9
        clear hc9 y0 hx1
        go_wp2_with (at_builtin; refine wpList_append_row _ _ rfl (.tmp 23) (.tmp 25) _ rfl W0.heap.size 68 i0 _ 8 72 Tryz.underlying28 hi hz0 hz1 hz2 rfl (by decide) _ _ _ rfl hy9 _ rfl rfl (by intro u hu; simp at hu; rcases hu with rfl | rfl | rfl | rfl | rfl | rfl | rfl | rfl <;> rfl) (by omega) (by omega) hbw9.size ?_; intro v' w2 hown hgrow hblk)
        have hb2 := below_grown hbw9 hy9 (Nat.le_refl _) hgrow
        clear hgrow
        go_roundw
        case measure => simp [intOf]; omega
        case rel => exact ⟨k + 1, by omega, by go_num, hb2, by rw [HT2.out, List.length_append, List.flatMap_append]; exact hown⟩
      · have HT2 : Hid (strictK r.lim t (k + 1) = ow) := by unfold Hid; rw [HT.out, if_neg hst, List.append_nil]
        (refine wp_region_kept W1 (by kernel_rfl) (by kernel_rfl) (by assumption) ?_; (repeat (go_big_quiet_step ((first | (go_at_call 55; exact kept_call (HTT.out _ (after_kept _).2)))))); refine wpQuiet_nil ?_; intro _ hw'; obtain ⟨x9, hw''⟩ := hw'; subst hw''; have hk9 := after_kept x9; generalize after x9 = w9 at *)
        obtain ⟨hc9, hb9⟩ := hk9
        have hy9 := own_below hy1 hb9
        have hbw9 := below_step hbw1 hb9
        go_wp2_with fail
        go_roundw
        case measure => simp [intOf]; omega
        case rel => exact ⟨k + 1, by omega, by go_num, hbw9, by rw [HT2.out]; exact hy9⟩
    · have hki : ¬ (k : Int) < (r.C.length : Int) := by omega
      obtain rfl : k = r.C.length := by omega
      rw [HSF.out] at hy
      go_wp2_with fail
      go_ret
      exact ⟨_, rfl, IsSl.of_own ConR.cells_len hy rfl, below_step hb0 hbw⟩

end Go.Proofs.YtmappmeojmdekaaGreatDoor

namespace Go.Proofs.YtmappmeojmdekaaGreatDoor
open Go.RowKit Go.Lib Go.Maps
attribute [local go_sem] after_cell
set_option linter.unusedVariables false

set_option maxRecDepth 100000 in
set_option maxHeartbeats 12800000 in
theorem limNext_in (r : RulR) (fv pv cv uv : Value) (t : Int) (w : World) (hv : LenV w) (hI : LimIn w r fv pv cv uv) (hR : Rated r.S.F) (hfd : ∀ c ∈ r.C, 0 ≤ c.fd ∧ c.fd < r.S.F.length) (hlen : r.C.length ≤ 100) (hlu : r.U.length ≤ 100) (hU : CurIn r.U) (h0 : 0 ≤ t) (h1 : t ≤ 268435456) :
    Calls Tryz.prog 38 #[.agg #[.string r.S.name, fv, pv, .int .i64 r.z.off, .bool r.z.sum, cv, uv], .int .i64 t] w fun e w' => e = .returned (.int .i64 (limA r.lim t)) ∧ Below w.heap.size w w' := by
  have HI := Lib.hid hI
  obtain ⟨A, B, C, D, a, b, c, d, rfl, rfl, rfl, rfl, hA⟩ := hI.ad
  obtain ⟨W0, hW0, hb0, hg0, hx0⟩ := box1 w #[.string r.S.name, .slice A r.S.F.length a, .slice B r.S.P.length b, .int .i64 r.z.off, .bool r.z.sum, .slice C r.C.length c, .slice D r.U.length d] 31
  have HI0 := Lib.hid (HI.out.below hb0)
  have HV0 := Lib.hid (hv.below hb0)
  have HR := Lib.hid hR
  have HFD := Lib.hid hfd
  have HCU := Lib.hid hU
  have HFD' : Hid (∀ c ∈ r.lim.C, 0 ≤ c.fd ∧ c.fd < r.lim.R.length) := by rw [lim_len]; exact hfd
  have HRD := Lib.hid (fun u (h1 : t ≤ u) (h2 : u ≤ 268435456) hq => lim_round (r := r.lim) (ev := curA r.U u) (a := conA (strictF r.lim u) r.z u) HFD'.out h0 h1 h2 hq rfl rfl)
  have HCV := Lib.hid (fun u => curA_rng r.U u)
  have HAV := Lib.hid (fun u => conA_rng (strictF r.lim u) r.z u)
  clear hA hI hR hfd hv hU
  go_enter Tryz.func38, Tryz.ntmps38
  go_wp2_with fail
  rw [← hW0]
  clear hW0
  go_loopw [1] (fun s wr => ∃ u : Int, s = .int .i64 u ∧ t ≤ u ∧ u ≤ 268435456 ∧ Hid (Quiet (difR r.lim) t u) ∧ Below W0.heap.size W0 wr) (fun s _ => (268435457 - intOf s).toNat)
  case atStart => exact ⟨t, rfl, Int.le_refl _, h1, Quiet.refl _ _, Below.refl _ _⟩
  case round =>
    obtain ⟨u, rfl, htu, hu1, HQ, hbw⟩ := hrel
    obtain ⟨hc, hf⟩ := bcell hbw
    have hu0 : 0 ≤ u := by omega
    have y0 : ∀ j, wr.cell? ⟨w.heap.size, j, none⟩ = _ := fun j => (hc _ j hg0).trans (hx0 j)
    have y1 : w.heap.size < wr.heap.size := Nat.lt_of_lt_of_le hg0 hbw.size
    have hR4 := HRD.out u htu hu1 HQ.out
    go_wp2_with fail
    refine (curNext_any r.U _ u _ (HI0.out.below hbw).hU hlu HCU.out hu0 hu1).mono ?_
    rintro e w2 ⟨rfl, hb2⟩
    have hev := HCV.out u
    have hav := HAV.out u
    have hbw2 := below_step hbw hb2
    have v0 : ∀ j, w2.cell? ⟨w.heap.size, j, none⟩ = _ := fun j => (hb2.cell (p := ⟨w.heap.size, j, none⟩) y1).trans (y0 j)
    have v1 : w.heap.size < w2.heap.size := Nat.lt_of_lt_of_le y1 hb2.size
    have HI2 := Lib.hid (HI0.out.below hbw2)
    have HV2 := Lib.hid (HV0.out.below hbw2)
    clear hc hf y0 y1 hb2
    have hbr := Below.refl w2.heap.size w2
    have HST := Lib.hid (fun w' (h : (∀ b o, b < w2.heap.size → w'.cell? ⟨b, o, none⟩ = w2.cell? ⟨b, o, none⟩) ∧ Below w2.heap.size w2 w') => strict_any r _ _ _ _ u w' (HI2.out.below h.2) HR.out HFD.out (by omega))
    have HNX := Lib.hid (fun v w' (h : (∀ b o, b < w2.heap.size → w'.cell? ⟨b, o, none⟩ = w2.cell? ⟨b, o, none⟩) ∧ Below w2.heap.size w2 w') hs => conNext_any (strictF r.lim u) v r.z u w' (HV2.out.below h.2) hs (strictF_fits HI2.out.fC) (Nat.le_trans (List.length_filter_le _ _) (show r.C.length ≤ 1000 by omega)))
    generalize curA r.U u = ev at *
    generalize conA (strictF r.lim u) r.z u = an at *
    go_wp2_with fail
    go_cut [6] (fun v wx => v = .int .i64 an ∧ Below w2.heap.size w2 wx)
    case first =>
      go_region_held3 (fun w' => (∀ b o, b < w2.heap.size → w'.cell? ⟨b, o, none⟩ = w2.cell? ⟨b, o, none⟩) ∧ Below w2.heap.size w2 w') (first | exact ⟨(bcell (W := w2) (by assumption)).1, by assumption⟩ | exact ⟨(bcell (W := w2) (Below.drew (by assumption))).1, Below.drew (by assumption)⟩) ((first
        | (go_at_call 61; refine (HST.out _ (by assumption)).mono ?_; rintro e w7 ⟨v7, rfl, hs7, hb7⟩; have hb67 := below_step (w := w2) (And.right (by assumption)) hb7)
        | (go_at_call 60; refine (HNX.out _ _ (by assumption) hs7).mono ?_; rintro e w8 ⟨rfl, hb8⟩; have hb68 := below_step (w := w2) (And.right (by assumption)) hb8)))
      all_goals
        go_wp2_with fail
        go_meet
        exact ⟨rfl, hb68⟩
    case rest =>
      obtain ⟨rfl, hbx⟩ := hcut
      have hbwx := below_step hbw2 hbx
      have z0 := fun j => (hbx.cell (p := ⟨w.heap.size, j, none⟩) v1).trans (v0 j)
      have z1 := Nat.lt_of_lt_of_le v1 hbx.size
      have HIX := Lib.hid (HI0.out.below hbwx)
      have HVX := Lib.hid (HV0.out.below hbwx)
      clear v0 v1 HI2 HV2 HST HNX hbr
      rcases hR4 with ⟨k1, k2, k3⟩ | ⟨k1, k2, k3⟩ | ⟨k1, k2, k3, k4⟩ | ⟨k1, k2, k3, k4, k5, k6⟩
      · have HE := Lib.hid k3
        clear k3
        have hcase : ev < 0 ∨ (¬ ev < 0 ∧ an < ev) := by omega
        clear k2
        rcases hcase with j1 | ⟨j1, j2⟩
        all_goals
          go_wp2_with fail
          go_ret
          exact ⟨ret_int HE.out.symm, below_step hb0 hbwx⟩
      · have HE := Lib.hid k3
        clear k3
        have j1 : ¬ 0 ≤ an := fun h => k1 ⟨h, .inl k2⟩
        clear k1
        go_wp2_with fail
        go_ret
        exact ⟨ret_int HE.out.symm, below_step hb0 hbwx⟩
      · have HE := Lib.hid k4
        have j3 : ¬ ev < 0 := by omega
        have hev1 : ev ≤ 268435457 := by omega
        have HCH := Lib.hid (changed_any r _ _ _ _ ev _ HVX.out HIX.out HR.out k2 hev1)
        rw [k3] at HCH
        clear k4 k3
        have hcase : ¬ 0 ≤ an ∨ (0 ≤ an ∧ ¬ an < ev) := by omega
        clear k1 k2
        rcases hcase with j1 | ⟨j1, j2⟩
        all_goals
          go_wp2_with fail
          refine HCH.out.mono ?_
          rintro e w8 ⟨rfl, hb8⟩
          go_wp2_with fail
          go_ret
          exact ⟨ret_int HE.out.symm, below_step hb0 (below_step hbwx hb8)⟩
      · have HQ2 := Lib.hid k6
        have j3 : ¬ ev < 0 := by omega
        have hev1 : ev ≤ 268435457 := by omega
        have HCH := Lib.hid (changed_any r _ _ _ _ ev _ HVX.out HIX.out HR.out k2 hev1)
        rw [k3] at HCH
        clear k6 k3
        have hcase : ¬ 0 ≤ an ∨ (0 ≤ an ∧ ¬ an < ev) := by omega
        clear k1
        rcases hcase with j1 | ⟨j1, j2⟩
        all_goals
          go_wp2_with fail
          refine HCH.out.mono ?_
          rintro e w8 ⟨rfl, hb8⟩
          go_wp2_with fail
          go_roundw
          case measure => simp only [intOf]; omega
          case rel => exact ⟨ev, rfl, by omega, by omega, HQ2, below_step hbwx hb8⟩

end Go.Proofs.YtmappmeojmdekaaGreatDoor

namespace Go.Proofs.YtmappmeojmdekaaGreatDoor
open Go.RowKit Go.Maps Go.MapKept Go.WideMaps Go.ChangeMaps
set_option linter.unusedVariables false

section
variable {P : Program}

theorem plainElem_bool_inv {H : Type} {e : TypeId} (he : P.underlying e = some .bool) {v : Value} {z : DataW H × List MemPlace} (h : plainElem P e v = some z) : ∃ x, v = .bool x ∧ z = (.lit (.bool x), []) := by
  unfold plainElem at h
  rw [he] at h
  cases v <;> simp at h
  subst h
  exact ⟨_, rfl, rfl⟩

/-- the map at block b holds true at the names 'ns', and nothing else -/
def Taken (P : Program) (K E : TypeId) (w : World) (b : Nat) (ns : List (List UInt8)) : Prop :=
  ∃ n D, w.ownsMap (H := Unit) P K (plainElem P E) b n D ∧ n ≤ ns.length ∧ ∀ s : List UInt8, D.atKey (.string s) (.lit (.bool false)) = .lit (.bool (decide (s ∈ ns)))

theorem taken_made (w : World) (K E : TypeId) : Taken P K E (w.alloc (.map #[] 0)) w.heap.size [] :=
  ⟨0, .map [], World.ownsMap_made w P K _, Nat.le_refl _, fun s => by simp [DataW.atKey]⟩

theorem Taken.lt {K E : TypeId} {w : World} {b : Nat} {ns : List (List UInt8)} (h : Taken P K E w b ns) : b < w.heap.size := by
  obtain ⟨n, D, h1, _⟩ := h
  exact h1.lt

theorem Taken.below {K E : TypeId} {w w' : World} {b : Nat} {ns : List (List UInt8)} (h : Taken P K E w b ns) (hb : Below w.heap.size w w') : Taken P K E w' b ns := by
  obtain ⟨n, D, ⟨es, clock, h1, F, hs, hD⟩, h2, h3⟩ := h
  have hlt := (Array.getElem?_eq_some_iff.1 h1).1
  exact ⟨n, D, ⟨es, clock, (hb.block b hlt).trans h1, F, hs, hD⟩, h2, h3⟩

theorem wpList_lookup_taken (w : World) {ops : Array Oper} {rest : List Oper} {o : Oper} {a : Act} {Q : Exit → Act → World → Prop}
    (hg : o.guard = none) (m x : Operand) (t : TypeId) (hop : o.op = Op.lookup t m x false)
    (K E : TypeId) (hk : P.underlying K = some .string) (ht : P.underlying t = some (.map K E)) (he : P.underlying E = some .bool) (hz : ∀ w, (zeroValue E).run P w = .ok (.bool false) w) (b : Nat) (ns : List (List UInt8))
    (hm : a.eval m = .map (some b)) (hown : Taken P K E w b ns) (s : ByteArray) (hx : a.eval x = .string s) (hs : s.size ≤ maxLen)
    (hK : wpList P ops Q rest (a.put o.dst (.bool (decide (s.data.toList ∈ ns)))) w) :
    wpList P ops Q (o :: rest) a w := by
  refine wpList_plain hg fun K' hK' => ?_
  obtain ⟨n, D, h1, h2, h3⟩ := hown
  obtain ⟨v, ps, hrun, hv⟩ := h1.lookup (string_keyed hk) ht (hz w) (plainElem_bool he false) (keyOf_string_mk hk hs)
  obtain ⟨c, rfl, hc⟩ := plainElem_bool_inv he hv
  rw [h3] at hc
  simp only [Prod.mk.injEq, DataW.lit.injEq, Lit.bool.injEq] at hc
  obtain ⟨rfl, _⟩ := hc
  unfold Oper.wp
  simp [execOp, hop, hm, hx, hrun, Result.andThen]
  exact hK' _ _ hK

theorem wpList_update_taken (w : World) {ops : Array Oper} {rest : List Oper} {o : Oper} {a : Act} {Q : Exit → Act → World → Prop}
    (hg : o.guard = none) (m x v : Operand) (t : TypeId) (hop : o.op = Op.mapUpdate t m x v)
    (K E : TypeId) (hk : P.underlying K = some .string) (ht : P.underlying t = some (.map K E)) (he : P.underlying E = some .bool) (b : Nat) (ns : List (List UInt8))
    (hm : a.eval m = .map (some b)) (hown : Taken P K E w b ns) (hn : ns.length < maxLen) (s : ByteArray) (hx : a.eval x = .string s) (hs : s.size ≤ maxLen) (hv : a.eval v = .bool true)
    (hK : ∀ w', Taken P K E w' b (s.data.toList :: ns) → w.grownBy w' (some b) → wpList P ops Q rest (a.put o.dst undef) w') :
    wpList P ops Q (o :: rest) a w := by
  obtain ⟨n, D, h1, h2, h3⟩ := hown
  have hmap : IsMap D := by
    obtain ⟨es, clock, _, _, _, rfl⟩ := h1
    exact ⟨_, rfl⟩
  refine wpList_mapUpdate_own w hg m x v t hop K E (string_keyed hk) ht _ b n D hm h1 (by omega) (.string s) (.bool true) (.string s.data.toList) hx hv (keyOf_string_mk hk hs) (.lit (.bool true)) [] (plainElem_bool he true) fun w' g1 g2 => ?_
  refine hK w' ⟨n + 1, _, g1, by simp; omega, fun u => ?_⟩ g2
  by_cases hu : u = s.data.toList
  · subst hu
    rw [atKey_put_same hmap (by trivial)]
    simp
  · rw [atKey_put_other (by simpa using hu), h3]
    simp [hu]
theorem grown_of_below {w w' : World} (hb : Below w.heap.size w w') (row : Option Nat) : w.grownBy w' row := ⟨hb.os, hb.tape, hb.output, hb.size, fun k hk _ => hb.block k hk⟩

theorem Taken.congr {K E : TypeId} {w : World} {b : Nat} {ns ms : List (List UInt8)} (h : Taken P K E w b ns) (hm : ∀ x, x ∈ ns ↔ x ∈ ms) (hl : ns.length ≤ ms.length) : Taken P K E w b ms := by
  obtain ⟨n, D, h1, h2, h3⟩ := h
  exact ⟨n, D, h1, Nat.le_trans h2 hl, fun s => by rw [h3 s]; simp [hm s]⟩
end

end Go.Proofs.YtmappmeojmdekaaGreatDoor
