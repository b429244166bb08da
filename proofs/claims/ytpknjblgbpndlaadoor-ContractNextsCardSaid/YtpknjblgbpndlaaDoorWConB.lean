/-
  The examples of the chapter on contracts, in plain words.
  Walks: change of package contract.
  Walks: Next of package contract.
  Walks: Series of package contract.
  Walks: Valid of contracts, of the program and of the reference; two equal lists of steps; the examples.
  Walks: two equal lists of steps; the examples of the chapter on contracts.
  Walks: the examples of the chapter on contracts.
  Walks: At and Value of the reference of contracts.
-/
import Derived.Test.YtpknjblgbpndlaaDoorPEx5
import Derived.Test.YtpknjblgbpndlaaDoorPConM
import Derived.Test.YtpknjblgbpndlaaDoorWConA
import Derived.Test.YtpknjblgbpndlaaDoorSub
import Derived.Test.YtpknjblgbpndlaaDoorTail
import Derived.Test.YtpknjblgbpndlaaDoorWIdent3
import Derived.BigQuiet
import Derived.Deep.RegionHeld3
import Derived.Test.YtpknjblgbpndlaaDoorWRefW3
namespace Go.Proofs.YtpknjblgbpndlaaDoor
set_option linter.unusedVariables false

def exW2 : WinR := ⟨0, 0, 0, 600, 700⟩
def exCa : ConR := ⟨⟨#[97]⟩, 0, exW, 5000⟩
def exCb : ConR := ⟨⟨#[98]⟩, 0, exW2, 8000⟩
theorem exW2_ok : winB exW2 = true := by decide
theorem holds_exW2 {t : Int} (h0 : 0 ≤ t) (h1 : t ≤ 268435456) : holdsB exW2 exZ t = (decide (600 ≤ t) && decide (t < 700)) := by
  unfold holdsB
  rw [exW2_ok, exZ_ok, timeB_iff.2 ⟨h0, h1⟩, pat_all exW2_ok exZ rfl (.inl rfl) t]
  unfold inB exW2
  simp
theorem cAt_two (c d : ConR) (z : ZoneR) (f t : Int) : cAt [c, d] z f t = cStep z f t (cStep z f t noL c) d := rfl
theorem cAt_one (c : ConR) (z : ZoneR) (f t : Int) : cAt [c] z f t = cStep z f t noL c := rfl
theorem exAt {t : Int} (h0 : 0 ≤ t) (h1 : t ≤ 268435456) : cAt [exCa, exCb] exZ 0 t = if 480 ≤ t % 1440 ∧ t % 1440 < 1020 then 5000 else noL := by
  have e1 : cOn exZ 0 t exCa = (decide (480 ≤ t % 1440) && decide (t % 1440 < 1020)) := by unfold cOn exCa; rw [holds_exW h0 h1]; simp
  have e2 : cOn exZ 0 t exCb = (decide (600 ≤ t) && decide (t < 700)) := by unfold cOn exCb; rw [holds_exW2 h0 h1]; simp
  rw [cAt_two]
  unfold cStep
  rw [e1, e2]
  simp only [Bool.and_eq_true, decide_eq_true_eq]
  by_cases h : 480 ≤ t % 1440 ∧ t % 1440 < 1020
  · rw [if_pos h]
    split
    · rfl
    · rfl
  · rw [if_neg h, if_neg (by omega), if_neg h]
theorem exAt1 (t : Int) : cAt [exCa, exCb] exZ 1 t = noL := cAt_none (fun c hc => by
  simp at hc
  rcases hc with rfl | rfl <;> decide)
theorem exAt2 {t : Int} (h : 700 ≤ t) (h1 : t ≤ 268435456) (f : Int) : cAt [exCb] exZ f t = noL := by
  rw [cAt_one]
  unfold cStep cOn exCb
  rw [holds_exW2 (by omega) h1]
  rw [if_neg (by simp; omega)]
theorem exAt_479 : cAt [exCa, exCb] exZ 0 479 = 1073741824 := by rw [exAt (by omega) (by omega), if_neg (by omega)]; rfl
theorem exAt_650 : cAt [exCa, exCb] exZ 0 650 = 5000 := by rw [exAt (by omega) (by omega), if_pos (by omega)]
theorem exAt1_650 : cAt [exCa, exCb] exZ 1 650 = 1073741824 := exAt1 650
theorem exDif {u : Int} (h0 : 1 ≤ u) (h1 : u ≤ 268435456) : difB [exCa, exCb] exZ u = true ↔ ¬ ((480 ≤ u % 1440 ∧ u % 1440 < 1020) ↔ (480 ≤ (u - 1) % 1440 ∧ (u - 1) % 1440 < 1020)) := by
  rw [difB_true]
  constructor
  · rintro ⟨c, hc, h⟩
    have : c.fd = 0 := by simp at hc; rcases hc with rfl | rfl <;> rfl
    rw [this, exAt (by omega) h1, exAt (by omega) (by omega)] at h
    intro hh
    apply h
    by_cases g : 480 ≤ u % 1440 ∧ u % 1440 < 1020
    · rw [if_pos g, if_pos (hh.1 g)]
    · rw [if_neg g, if_neg (fun k => g (hh.2 k))]
  · intro h
    refine ⟨exCa, by simp, ?_⟩
    show cAt _ _ 0 u ≠ cAt _ _ 0 (u - 1)
    rw [exAt (by omega) h1, exAt (by omega) (by omega)]
    by_cases g : 480 ≤ u % 1440 ∧ u % 1440 < 1020
    · rw [if_pos g, if_neg (fun k => h ⟨fun _ => k, fun _ => g⟩)]; unfold noL; omega
    · rw [if_neg g, if_pos (Classical.byContradiction fun k => h ⟨fun x => absurd x g, fun x => absurd x k⟩)]; unfold noL; omega
theorem exNext {t r : Int} (h0 : 0 ≤ t) (h1 : t < r) (h2 : r ≤ 10000) (hd : ¬ ((480 ≤ r % 1440 ∧ r % 1440 < 1020) ↔ (480 ≤ (r - 1) % 1440 ∧ (r - 1) % 1440 < 1020)))
    (hs : ∀ u, t < u → u < r → ((480 ≤ u % 1440 ∧ u % 1440 < 1020) ↔ (480 ≤ (u - 1) % 1440 ∧ (u - 1) % 1440 < 1020))) : NextP (difB [exCa, exCb] exZ) t r := by
  refine .inl ⟨h1, by omega, (exDif (by omega) (by omega)).2 hd, fun u a b => ?_⟩
  cases hh : difB [exCa, exCb] exZ u with
  | false => rfl
  | true => exact absurd (hs u a b) ((exDif (by omega) (by omega)).1 hh)
theorem exConA_480 : conA [exCa, exCb] exZ 480 = 1020 := conA_of (by omega) (by omega) (exNext (by omega) (by omega) (by omega) (by omega) (fun u a b => by omega))
theorem exConA_700 : conA [exCb] exZ 700 = -1 := conA_of (by omega) (by omega) (.inr ⟨rfl, fun u a b => by
  rw [difB_false]
  intro f
  rw [exAt2 (by omega) b, exAt2 (by omega) (by omega)]⟩)
theorem exOwn : ownC 0 [exCa, exCb] = [exCa, exCb] := rfl
theorem exTurn : turnB (cAt [exCa, exCb] exZ 0) = difB [exCa, exCb] exZ := by rw [← own_dif, exOwn]
theorem exNx {t r : Int} (h : NextP (difB [exCa, exCb] exZ) t r) : nxV (cAt [exCa, exCb] exZ 0) t = r := by unfold nxV; rw [exTurn]; exact nextP_of h
theorem exSer : restR (cAt [exCa, exCb] exZ 0) 1100 400 [] = some [(400, 1073741824), (480, 5000), (1020, 1073741824)] := by
  have n1 := exNx (t := 400) (r := 480) (exNext (by omega) (by omega) (by omega) (by omega) (fun u a b => by omega))
  have n2 := exNx (t := 480) (r := 1020) (exNext (by omega) (by omega) (by omega) (by omega) (fun u a b => by omega))
  have n3 := exNx (t := 1020) (r := 1920) (exNext (by omega) (by omega) (by omega) (by omega) (fun u a b => by omega))
  have v1 : cAt [exCa, exCb] exZ 0 400 = 1073741824 := by rw [exAt (by omega) (by omega), if_neg (by omega)]; rfl
  have v2 : cAt [exCa, exCb] exZ 0 480 = 5000 := by rw [exAt (by omega) (by omega), if_pos (by omega)]
  have v3 : cAt [exCa, exCb] exZ 0 1020 = 1073741824 := by rw [exAt (by omega) (by omega), if_neg (by omega)]; rfl
  rw [restR_step (by omega) (by omega), if_neg (by decide), n1, v1, restR_step (by omega) (by omega), if_neg (by decide), n2, v2, restR_step (by omega) (by omega), if_neg (by decide), n3, v3, restR_end (by omega)]
  rfl

end Go.Proofs.YtpknjblgbpndlaaDoor

namespace Go.Proofs.YtpknjblgbpndlaaDoor
open Go.RowKit Go.Lib Go.Maps
set_option linter.unusedVariables false

/-- the next change of the window of contract j -/
noncomputable def aftL (z : ZoneR) (t : Int) (l : List ConR) (j : Nat) : Int := match l[j]? with | some c => aftF z t c | none => 0
theorem aftL_at {z : ZoneR} {t : Int} {l : List ConR} {j : Nat} (h : j < l.length) : aftL z t l j = aftF z t l[j] := by unfold aftL; rw [List.getElem?_eq_getElem h]
/-- the least of the first k candidates -/
noncomputable def atK (l : List ConR) (z : ZoneR) (u last : Int) (k : Nat) : Int := ((l.take k).map (aftF z u)).foldl (fun n m => min n m) (last + 1)
theorem atK_zero (l : List ConR) (z : ZoneR) (u last : Int) : atK l z u last 0 = last + 1 := rfl
theorem atK_succ {l : List ConR} {k : Nat} (h : k < l.length) (z : ZoneR) (u last : Int) : atK l z u last (k + 1) = min (atK l z u last k) (aftL z u l k) := by
  unfold atK
  rw [List.take_succ_eq_append_getElem h, List.map_append, List.foldl_append, aftL_at h]; rfl
theorem atK_end {l : List ConR} {k : Nat} (h : ¬ k < l.length) (z : ZoneR) (u last : Int) : atK l z u last k = atF l z u last := by
  unfold atK atF; rw [List.take_of_length_le (by omega)]
theorem aftL_step {l : List ConR} {z : ZoneR} {t last x : Int} (h0 : 0 ≤ t) (ht : t ≤ 268435456) (hx : x = atF l z t last) (hl : t ≤ last) (h1 : x ≤ 268435456) {j : Nat} (hj : j < l.length) : aftL z t l j ≠ x → aftL z t l j = aftL z x l j := by
  intro hne
  have := aft_step h0 ht hx hl h1 (List.getElem_mem hj)
  rw [aftL_at hj] at hne ⊢
  rw [aftL_at hj]
  rw [if_neg hne] at this
  exact this
theorem Quiet.with {D : Int → Bool} {t u : Int} (h : Quiet D t (u - 1)) (g : D u = false) : Quiet D t u := fun v a b c => by
  by_cases e : v = u
  · rw [e]; exact g
  · exact h v a (by omega) c
theorem Quiet.all {D : Int → Bool} {t u : Int} (h : Quiet D t u) (hu : 268435456 ≤ u) (v : Int) : Quiet D t v := fun x a b c => h x a (by omega) c
def rowI (n : Nat) (f : Nat → Int) : Nat → Value := fun j => .int .i64 (f j)
/-- what change returns -/
def ChgPost (w : World) (D : Int → Bool) (t last : Int) (e : Ending) (w' : World) : Prop := ∃ r, e = .returned (.int .i64 r) ∧ ChgIs D t last r ∧ Below w.heap.size w w'
theorem made_row (w : World) (n : Nat) (T : TypeId) : Row (w.alloc (.cells (madeCells (Value.int .i64 0).cells (n * 1)) T)) w.heap.size n (fun _ => .int .i64 0) := by
  refine ⟨by simp, fun j hj => ⟨?_, ?_⟩⟩
  · rw [World.cell?_alloc_mark w _ T (0, 0) j]
    simp [madeCells, Value.cells, hj, Nat.mod_one]
  · rw [World.frozen?_alloc_mark w _ T 0 0 j]
    simp

set_option maxRecDepth 100000 in
set_option maxHeartbeats 12800000 in
theorem conChange_any (l : List ConR) (v : Value) (z : ZoneR) (t last : Int) (w : World) (hv : LenV w) (hL : IsSl w 8 v (l.map ConR.cells)) (hfit : ∀ c ∈ l, c.fits) (hlen : l.length ≤ 1000) (h0 : 0 ≤ t) (h1 : t ≤ 268435456) (h2 : t ≤ last) (h3 : last ≤ 1000000000) :
    Calls Tryd.prog 39 #[v, .agg #[.int .i64 z.off, .bool z.sum], .int .i64 t, .int .i64 last] w (ChgPost w (difB l z) t last) := by
  obtain ⟨W0, hW0, hb0, hg0, hx0⟩ := box1 w #[.int .i64 z.off, .bool z.sum] 26
  have HV := Lib.hid (hv.below hb0)
  replace hL := hL.below hb0
  have HF := Lib.hid hfit
  have HIS := Lib.hid hL
  clear hv hfit
  obtain ⟨A, c, rfl, hlc, hcm, hsl⟩ := hL
  rw [List.length_map] at hlc
  unfold maxLen at hcm
  simp only [List.length_map] at HIS ⊢
  obtain ⟨i0, hi0, hz0, hz1, hz2⟩ := info_parts intInfo
  have hmk := fun W => run_make_rowZ (P := Tryd.prog) 80 3 i0 _ Tryd.underlying80 hi0 hz0 .i64 .i64 l.length l.length (l.length : Int) (l.length : Int) rfl rfl (Nat.le_refl _) (by rw [hz2]; omega) (by omega) W
  rw [hz1] at hmk
  have HR0 := Lib.hid (made_row W0 l.length 3)
  generalize madeCells _ (l.length * 1) = ZC at hmk HR0
  go_enter Tryd.func39, Tryd.ntmps39
  go_wp2_with fail
  rw [← hW0]
  obtain ⟨B, hB⟩ : ∃ B, B = w.heap.size + 1 := ⟨_, rfl⟩
  rw [← hB]
  have HB : Hid (W0.heap.size = B) := by unfold Hid; rw [hB, hW0]; simp
  have hBg : w.heap.size < B := by omega
  clear hW0 hmk hB
  go_loopw [22] (fun i wr => ∃ k : Nat, k ≤ l.length ∧ i = .int .i64 k ∧ Row wr B l.length (fun j => .int .i64 (if j < k then aftL z t l j else 0)) ∧ Below W0.heap.size W0 wr) (fun i _ => l.length - (intOf i).toNat)
  case atStart => exact ⟨0, by omega, rfl, (HB.out ▸ HR0.out).congr (fun j hj => by simp), below_alloc (Below.refl _ _) _⟩
  case round =>
    obtain ⟨k, hk, rfl, hrow, hbw⟩ := hrel
    obtain ⟨hc, hf⟩ := bcell hbw
    by_cases hlt : k < l.length
    · have hki : (k : Int) < (l.length : Int) := by omega
      obtain ⟨b, off, rfl, hb, c0, c1, c2, c3, c4, c5, c6, c7⟩ := con_at (hsl.below hbw) hlt
      have HA := Lib.hid (aftL_at (z := z) (t := t) hlt)
      have y1 := old_allocC (w := wr) (b := w.heap.size) (Nat.lt_of_lt_of_le hg0 hbw.size)
      generalize l[k] = x at *
      go_wp2_with fail
      refine (conAfter_any x z t _ (HV.out.below (below_alloc hbw _)) h0 h1).mono ?_
      rintro e w2 ⟨rfl, hb2⟩
      have hbw2 := below_step (below_alloc hbw _) hb2
      have hrow2 := (hrow.alloc (.cells #[.string x.nm, .int .i64 x.fd, .int .i64 x.w.dy, .int .i64 x.w.st, .int .i64 x.w.en, .int .i64 x.w.fr, .int .i64 x.w.to, .int .i64 x.tot] 43)).grown hb2
      have e1 := hrow2.cell hlt
      have e2 := hrow2.frozen hlt
      have e3 := hrow2.1
      rw [← HA.out]
      have HROW := Lib.hid hrow2
      clear hrow hrow2
      go_wp2_with fail
      go_roundw
      case measure => simp [intOf]; omega
      case rel => exact ⟨k + 1, by omega, by go_num, (HROW.out.set k _).congr (fun j hj => by
        by_cases h : j = k
        · subst h; simp
        · simp only [if_neg h]; congr 1; by_cases h2 : j < k
          · rw [if_pos h2, if_pos (by omega)]
          · rw [if_neg h2, if_neg (by omega)]), hbw2.setCell (by rw [HB.out]; exact Nat.le_refl _) _⟩
    · have hki : ¬ (k : Int) < (l.length : Int) := by omega
      have HROW : Hid (Row wr B l.length (fun j => .int .i64 (aftL z t l j))) := hrow.congr (fun j hj => by rw [if_pos (by omega)])
      clear hrow
      have hwl : IntKind.i64.wrap (last + 1) = last + 1 := IntWalk.i64_in _ (by omega)
      have HL := Lib.hid (fun u => atK_end (l := l) (k := l.length) (by omega) z u last)
      go_wp2_with fail
      clear hki hlt hk hc hf
      go_loopw [12] (fun s wr => ∃ u : Int, intOf s ≤ u ∧ 0 ≤ intOf s ∧ t ≤ u ∧ u ≤ 268435456 ∧ u ≤ last ∧ Hid (Quiet (difB l z) t u) ∧ Hid (Row wr B l.length (fun j => .int .i64 (aftL z u l j))) ∧ Below W0.heap.size W0 wr) (fun s _ => (268435457 - intOf s).toNat)
      case atStart => exact ⟨t, by simp [intOf, undef]; omega, by simp [intOf, undef], Int.le_refl _, h1, h2, Quiet.refl _ _, HROW, hbw⟩
      case round =>
        clear HROW hbw
        obtain ⟨u, hsu, hs0, htu, hu1, hul, HQ, HROW, hbw⟩ := hrel
        obtain ⟨hc, hf⟩ := bcell hbw
        have hu0 : 0 ≤ u := by omega
        have HGT := Lib.hid (atF_gt (l := l) (z := z) (last := last) hu0 hu1 hul)
        have HLE := Lib.hid (atF_le l z u last)
        have HQA := Lib.hid (atF_quiet (l := l) (z := z) (last := last) hu0 hu1)
        have HST := Lib.hid (fun h1 j hj => aftL_step (l := l) (z := z) (x := atF l z u last) hu0 hu1 rfl hul h1 (j := j) hj)
        have HEND := HL.out u
        have hB2 := HROW.out.1
        go_wp2_with fail
        go_loopw [12, 39] (fun s i wx => ∃ k : Nat, k ≤ l.length ∧ i = .int .i64 k ∧ s = .int .i64 (atK l z u last k) ∧ wx = wr) (fun _ i _ => l.length - (intOf i).toNat)
        case atStart => exact ⟨0, by omega, rfl, rfl, rfl⟩
        case round =>
          obtain ⟨k, hk, rfl, rfl, rfl⟩ := hrel
          by_cases hlt : k < l.length
          · have hki : (k : Int) < (l.length : Int) := by omega
            have e1 := HROW.out.cell hlt
            have HK := Lib.hid (atK_succ hlt z u last)
            generalize aftL z u l k = y at *
            generalize atK l z u last k = m at *
            go_wp2_with fail
            go_roundw
            case measure => simp [intOf]; omega
            case rel => exact ⟨k + 1, by omega, by go_num, by first | exact minV HK.out | rw [HK.out], trivial⟩
          · have hki : ¬ (k : Int) < (l.length : Int) := by omega
            obtain rfl : k = l.length := by omega
            rw [HEND]
            have HX : Hid (atF l z u last = atF l z u last) := rfl
            generalize hx : atF l z u last = x at *
            clear HEND HX hx
            have hx0' : 0 ≤ x := by have := HGT.out; omega
            have hb0w := below_step hb0 hbw
            by_cases a1 : last < x
            · go_wp2_with fail
              go_ret
              exact ⟨-1, rfl, .inr ⟨rfl, HQ.out.trans (HQA.out.mono (by omega))⟩, hb0w⟩
            by_cases a2 : 268435456 < x
            · go_wp2_with fail
              go_ret
              exact ⟨-1, rfl, .inr ⟨rfl, (HQ.out.trans HQA.out).all (by omega) _⟩, hb0w⟩
            have a3 : x ≤ 268435456 := by omega
            go_wp2_with fail
            refine (conDiffers_any l _ z x _ (HV.out.below hbw) (HIS.out.below hbw) HF.out hx0' (by omega)).mono ?_
            rintro e w2 ⟨rfl, hb2⟩
            have hbw2 := below_step hbw hb2
            cases hd : difB l z x with
            | true =>
              have HD := Lib.hid hd
              clear hd
              go_wp2_with fail
              go_ret
              exact ⟨x, rfl, .inl ⟨by have := HGT.out; omega, by omega, a3, HD.out, HQ.out.trans HQA.out⟩, below_step hb0 hbw2⟩
            | false =>
              have HQ2 := Lib.hid ((HQ.out.trans HQA.out).with hd)
              have HROW2 := Lib.hid (HROW.out.grown hb2)
              have HST2 := Lib.hid (HST.out a3)
              clear hd HROW HST HQ HQA hB2 hbw hc hf hb2
              obtain ⟨hc, hf⟩ := bcell hbw2
              have hB2 := HROW2.out.1
              go_wp2_with fail
              go_loopw [61] (fun i wx => ∃ k : Nat, k ≤ l.length ∧ i = .int .i64 k ∧ Row wx B l.length (fun j => .int .i64 (if j < k then aftL z x l j else aftL z u l j)) ∧ Below W0.heap.size W0 wx) (fun i _ => l.length - (intOf i).toNat)
              case atStart => exact ⟨0, by omega, rfl, HROW2.out.congr (fun j hj => by simp), hbw2⟩
              case round =>
                clear HROW2 hbw2 hc hf hB2
                obtain ⟨k, hk, rfl, hrow, hbw2⟩ := hrel
                obtain ⟨hc, hf⟩ := bcell hbw2
                have hB2 := hrow.1
                by_cases hlt : k < l.length
                · have hki : (k : Int) < (l.length : Int) := by omega
                  have hst := HST2.out k hlt
                  have e1 := hrow.cell hlt
                  have e2 := hrow.frozen hlt
                  have HA := Lib.hid (aftL_at (z := z) (t := x) hlt)
                  have HROW := Lib.hid hrow
                  simp only [Nat.lt_irrefl, if_false] at e1
                  by_cases hy : aftL z u l k = x
                  · rw [hy] at e1
                    obtain ⟨b, off, rfl, hb, c0, c1, c2, c3, c4, c5, c6, c7⟩ := con_at (hsl.below hbw2) hlt
                    clear hst hrow hy
                    generalize l[k] = q at *
                    go_wp2_with fail
                    go_region_with (go_at_call 56; refine (conAfter_any q z x _ (HV.out.below hbw2.drew) hx0' a3).mono ?_; rintro e w4 ⟨rfl, hb4⟩; have hrow4 := HROW.out.drew.grown hb4; have f1 := hrow4.cell hlt; have f2 := hrow4.frozen hlt; have HROW4 := Lib.hid hrow4; clear hrow4; have hbw4 := below_step hbw2.drew hb4; rw [← HA.out])
                    all_goals
                      go_wp2_with fail
                      go_roundw
                      case measure => simp [intOf]; omega
                      case rel => exact ⟨k + 1, by omega, by go_num, (HROW4.out.set k _).congr (fun j hj => by
                        by_cases h : j = k
                        · subst h; simp
                        · simp only [if_neg h]; congr 1; by_cases h2 : j < k
                          · rw [if_pos h2, if_pos (by omega)]
                          · rw [if_neg h2, if_neg (by omega)]), hbw4.setCell (by rw [HB.out]; exact Nat.le_refl _) _⟩
                  · have hst2 := Lib.hid (hst hy)
                    clear hst hrow
                    go_wp2_with fail
                    go_roundw
                    case measure => simp [intOf]; omega
                    case rel => exact ⟨k + 1, by omega, by go_num, HROW.out.congr (fun j hj => by
                      by_cases h : j = k
                      · subst h; rw [if_neg (by omega), if_pos (by omega), hst2.out]
                      · congr 1; by_cases h2 : j < k
                        · rw [if_pos h2, if_pos (by omega)]
                        · rw [if_neg h2, if_neg (by omega)]), hbw2⟩
                · have hki : ¬ (k : Int) < (l.length : Int) := by omega
                  have HR3 : Hid (Row wr B l.length (fun j => .int .i64 (aftL z x l j))) := hrow.congr (fun j hj => by rw [if_pos (by omega)])
                  clear hrow
                  go_wp2_with fail
                  go_roundw
                  case measure =>
                    have := HGT.out
                    show (268435457 - x).toNat < _
                    omega
                  case rel => exact ⟨x, Int.le_refl _, hx0', by have := HGT.out; omega, a3, by omega, HQ2, HR3, hbw2⟩

end Go.Proofs.YtpknjblgbpndlaaDoor

namespace Go.Proofs.YtpknjblgbpndlaaDoor
open Go.RowKit Go.Lib Go.Maps
set_option linter.unusedVariables false

theorem ChgIs.cases {D : Int → Bool} {t last r : Int} (h : ChgIs D t last r) : (0 ≤ r ∧ t < r ∧ r ≤ last ∧ r ≤ 268435456 ∧ D r = true ∧ Quiet D t (r - 1)) ∨ (r = -1 ∧ Quiet D t last) ∨ (r < 0 ∧ t < r) := by
  rcases h with ⟨a, b, c, d, e⟩ | ⟨a, b⟩
  · by_cases h : 0 ≤ r
    · exact .inl ⟨h, a, b, c, d, e⟩
    · exact .inr (.inr ⟨by omega, a⟩)
  · exact .inr (.inl ⟨a, b⟩)

set_option maxRecDepth 100000 in
set_option maxHeartbeats 6400000 in
theorem conNext_any (l : List ConR) (v : Value) (z : ZoneR) (t : Int) (w : World) (hv : LenV w) (hL : IsSl w 8 v (l.map ConR.cells)) (hfit : ∀ c ∈ l, c.fits) (hlen : l.length ≤ 1000) :
    Calls Tryd.prog 21 #[v, .agg #[.int .i64 z.off, .bool z.sum], .int .i64 t] w fun e w' => e = .returned (.int .i64 (conA l z t)) ∧ Below w.heap.size w w' := by
  obtain ⟨W0, hW0, hb0, hg0, hx0⟩ := box1 w #[.int .i64 z.off, .bool z.sum] 26
  have HV := Lib.hid (hv.below hb0)
  have HF := Lib.hid hfit
  have HIS := Lib.hid (hL.below hb0)
  clear hv hfit hL
  by_cases hout : ¬ (0 ≤ t ∧ t ≤ 268435456)
  · have HE := Lib.hid (conA_out (l := l) (z := z) hout)
    have hcase : t < 0 ∨ (¬ t < 0 ∧ 268435456 < t) := by omega
    clear hout
    rcases hcase with h1 | ⟨h1, h2⟩
    all_goals
      go_enter Tryd.func21, Tryd.ntmps21
      go_wp2_with fail
      go_ret
      exact ⟨ret_int HE.out.symm, by rw [← hW0]; exact hb0⟩
  have h0 : 0 ≤ t := by omega
  have h1 : t ≤ 268435456 := by omega
  have h00 : ¬ t < 0 := by omega
  have h11 : ¬ 268435456 < t := by omega
  clear hout
  have HRES := Lib.hid (fun r (h : NextP (difB l z) t r) => conA_of (l := l) (z := z) h0 h1 h)
  go_enter Tryd.func21, Tryd.ntmps21
  go_wp2_with fail
  rw [← hW0]
  clear hW0
  go_loopw [2] (fun s wr => ∃ u : Int, s = .int .i64 u ∧ t ≤ u ∧ u ≤ 268435456 ∧ Hid (Quiet (difB l z) t u) ∧ Below W0.heap.size W0 wr) (fun s _ => (268435457 - intOf s).toNat)
  case atStart => exact ⟨t, rfl, Int.le_refl _, h1, Quiet.refl _ _, Below.refl _ _⟩
  case round =>
    obtain ⟨u, rfl, htu, hu1, HQ, hbw⟩ := hrel
    have hu0 : 0 ≤ u := by omega
    have hed := edge_is l (t := u) hu1
    go_wp2_with fail
    refine (conEdge_any l _ u _ (HIS.out.below hbw)).mono ?_
    rintro e w2 ⟨rfl, hb2⟩
    obtain ⟨e0, e1, HNE⟩ := hed
    replace HNE := Lib.hid HNE
    generalize edgeF l u = ed at *
    have hbw2 := below_step hbw hb2
    clear hb2
    obtain ⟨hc, hf⟩ := bcell hbw2
    have q1 : IntKind.i64.wrap (ed - 1) = ed - 1 := IntWalk.i64_in _ (by omega)
    have q2 : IntKind.i64.wrap (u + 20160) = u + 20160 := IntWalk.i64_in _ (by omega)
    go_wp2_with fail
    refine (conChange_any l _ z u (min (ed - 1) (u + 20160)) _ (HV.out.below hbw2) (HIS.out.below hbw2) HF.out hlen hu0 hu1 (by omega) (by omega)).mono ?_
    rintro e w3 ⟨r, rfl, hr, hb3⟩
    have hbw3 := below_step hbw2 hb3
    clear hc hf hb3
    obtain ⟨hc, hf⟩ := bcell hbw3
    rcases hr.cases with ⟨r0, r1, r2, r3, r4, r5⟩ | ⟨rfl, r5⟩ | ⟨r0, r1⟩
    · have HE := Lib.hid (HRES.out r ((HQ.out.trans r5).found (by omega) r3 r4))
      clear hr r4 r5
      go_wp2_with fail
      go_ret
      exact ⟨ret_int HE.out.symm, below_step hb0 hbw3⟩
    · have hq := HQ.out.trans (round_quiet hu0 HNE.out r5)
      have HQ2 := Lib.hid hq
      clear hr r5 hq
      by_cases a1 : 268435456 < ed
      · have HE := Lib.hid (HRES.out _ (HQ2.out.none (by omega)))
        go_wp2_with fail
        go_ret
        exact ⟨ret_int HE.out.symm, below_step hb0 hbw3⟩
      · go_wp2_with fail
        refine (conDiffers_any l _ z ed _ (HV.out.below hbw3) (HIS.out.below hbw3) HF.out (by omega) (by omega)).mono ?_
        rintro e w4 ⟨rfl, hb4⟩
        have hbw4 := below_step hbw3 hb4
        clear hb4
        cases hd : difB l z ed with
        | true =>
          have HE := Lib.hid (HRES.out ed (HQ2.out.found (by omega) (by omega) hd))
          clear hd
          go_wp2_with fail
          go_ret
          exact ⟨ret_int HE.out.symm, below_step hb0 hbw4⟩
        | false =>
          have HQ3 := Lib.hid (HQ2.out.with hd)
          clear hd
          go_wp2_with fail
          go_roundw
          case measure => simp only [intOf]; omega
          case rel => exact ⟨ed, rfl, by omega, by omega, HQ3, hbw4⟩
    · omega

end Go.Proofs.YtpknjblgbpndlaaDoor

namespace Go.Proofs.YtpknjblgbpndlaaDoor
open Go.RowKit Go.Lib Go.Maps
set_option linter.unusedVariables false

theorem conInfo : (Tryd.prog.info? 43).map (fun i => (i.zero, i.size, i.bytes)) = some (some (.agg #[.string ⟨#[]⟩, .int .i64 0, .int .i64 0, .int .i64 0, .int .i64 0, .int .i64 0, .int .i64 0, .int .i64 0]), 8, 72) := by kernel_rfl
theorem stepInfo : (Tryd.prog.info? 62).map (fun i => (i.zero, i.size, i.bytes)) = some (some (.agg #[.int .i64 0, .int .i64 0]), 2, 16) := by kernel_rfl
/-- the error of Series, and the steps -/
noncomputable def cserE (l : List ConR) (z : ZoneR) (f a b : Int) : Int :=
  if 0 ≤ a ∧ a ≤ b ∧ b ≤ 268435456 ∧ b - a ≤ 20160 then (if a = b then 0 else if (restR (cAt l z f) b a []).isSome = true then 0 else 3) else 2
noncomputable def cserL (l : List ConR) (z : ZoneR) (f a b : Int) : List (Int × Int) := if cserE l z f a b = 0 then (if a = b then [] else (restR (cAt l z f) b a []).getD []) else []
structure CserIs (l : List ConR) (z : ZoneR) (f a b c : Int) (L : List (Int × Int)) : Prop where
  e : cserE l z f a b = c
  l : cserL l z f a b = L
theorem cser_range {l : List ConR} {z : ZoneR} {f a b : Int} (h : ¬ (0 ≤ a ∧ a ≤ b ∧ b ≤ 268435456 ∧ b - a ≤ 20160)) : CserIs l z f a b 2 [] := by
  have e : cserE l z f a b = 2 := if_neg h
  exact ⟨e, if_neg (by rw [e]; decide)⟩
theorem cser_empty {l : List ConR} {z : ZoneR} {f a b : Int} (h : 0 ≤ a ∧ a ≤ b ∧ b ≤ 268435456 ∧ b - a ≤ 20160) (hab : a = b) : CserIs l z f a b 0 [] := by
  have e : cserE l z f a b = 0 := by unfold cserE; rw [if_pos h, if_pos hab]
  exact ⟨e, by unfold cserL; rw [if_pos e, if_pos hab]⟩
theorem cser_none {l : List ConR} {z : ZoneR} {f a b : Int} (h : 0 ≤ a ∧ a ≤ b ∧ b ≤ 268435456 ∧ b - a ≤ 20160) (hab : ¬ a = b) (hr : restR (cAt l z f) b a [] = none) : CserIs l z f a b 3 [] := by
  have e : cserE l z f a b = 3 := by unfold cserE; rw [if_pos h, if_neg hab, hr]; rfl
  exact ⟨e, if_neg (by rw [e]; decide)⟩
theorem cser_some {l : List ConR} {z : ZoneR} {f a b : Int} {L : List (Int × Int)} (h : 0 ≤ a ∧ a ≤ b ∧ b ≤ 268435456 ∧ b - a ≤ 20160) (hab : ¬ a = b) (hr : restR (cAt l z f) b a [] = some L) : CserIs l z f a b 0 L := by
  have e : cserE l z f a b = 0 := by unfold cserE; rw [if_pos h, if_neg hab, hr]; rfl
  exact ⟨e, by unfold cserL; rw [if_pos e, if_neg hab, hr]; rfl⟩
/-- what Series hands back -/
def CserPost (w : World) (l : List ConR) (z : ZoneR) (f a b : Int) (e : Ending) (w' : World) : Prop := ∃ v, e = .returned (.tuple #[v, .int .i64 (cserE l z f a b)]) ∧ IsSl w' 2 v ((cserL l z f a b).map encP) ∧ Below w.heap.size w w'
theorem CserPost.mk {w : World} {l : List ConR} {z : ZoneR} {f a b c : Int} {L : List (Int × Int)} {v : Value} {w' : World} (h : CserIs l z f a b c L) (hs : IsSl w' 2 v (L.map encP)) (hb : Below w.heap.size w w') : CserPost w l z f a b (.returned (.tuple #[v, .int .i64 c])) w' :=
  ⟨v, by rw [h.e], by rw [h.l]; exact hs, hb⟩
def mesT (t : Int) : Nat := if t < 0 then 0 else (268435458 - t).toNat
theorem mesT_dec {t u : Int} (h0 : 0 ≤ t) (h1 : t ≤ 268435456) (h : u = -1 ∨ (t < u ∧ u ≤ 268435456)) : mesT u < mesT t := by
  have e : mesT t = (268435458 - t).toNat := if_neg (by omega)
  rw [e]
  unfold mesT
  by_cases hu : u < 0
  · rw [if_pos hu]; omega
  · rw [if_neg hu]; omega
theorem ownC_len (f : Int) (l : List ConR) : (ownC f l).length ≤ l.length := List.length_filter_le _ _
theorem ownC_fits {f : Int} {l : List ConR} (h : ∀ c ∈ l, c.fits) : ∀ c ∈ ownC f l, c.fits := fun c hc => h c (List.mem_filter.1 hc).1

set_option maxRecDepth 100000 in
set_option maxHeartbeats 12800000 in
theorem conSeries_any (l : List ConR) (v : Value) (z : ZoneR) (f a b : Int) (w : World) (hv : LenV w) (hL : IsSl w 8 v (l.map ConR.cells)) (hfit : ∀ c ∈ l, c.fits) (hlen : l.length ≤ 1000) :
    Calls Tryd.prog 23 #[v, .agg #[.int .i64 z.off, .bool z.sum], .int .i64 f, .agg #[.int .i64 a, .int .i64 b]] w (CserPost w l z f a b) := by
  obtain ⟨W0, hW0, hb0, hg1, hg0, hx0, hy0⟩ := box2 w #[.int .i64 z.off, .bool z.sum] 26 #[.int .i64 a, .int .i64 b] 28
  have HV := Lib.hid (hv.below hb0)
  replace hL := hL.below hb0
  have HF := Lib.hid hfit
  clear hv hfit
  by_cases hr : 0 ≤ a ∧ a ≤ b ∧ b ≤ 268435456 ∧ b - a ≤ 20160
  · obtain ⟨a0, ab, b1, hd⟩ := hr
    have hwd : IntKind.i64.wrap (b - a) = b - a := IntWalk.i64_in _ (by omega)
    have q1 : ¬ a < 0 := by omega
    have q2 : ¬ b < a := by omega
    have q3 : ¬ 268435456 < b := by omega
    have q4 : ¬ 20160 < b - a := by omega
    by_cases hab : a = b
    · subst hab
      have HN := Lib.hid (cser_empty (l := l) (z := z) (f := f) ⟨a0, ab, b1, hd⟩ rfl)
      go_enter Tryd.func23, Tryd.ntmps23
      go_wp2_with fail
      go_ret2
      exact CserPost.mk HN.out (IsSl.nil _ _) (by rw [← hW0]; exact hb0)
    have HS1 := Lib.hid (fun hr => cser_none (l := l) (z := z) (f := f) ⟨a0, ab, b1, hd⟩ hab hr)
    have HS2 := Lib.hid (fun L hr => cser_some (l := l) (z := z) (f := f) (L := L) ⟨a0, ab, b1, hd⟩ hab hr)
    obtain ⟨A, c, rfl, hlc, hcm, hsl⟩ := hL
    rw [List.length_map] at hlc
    unfold maxLen at hcm
    simp only [List.length_map]
    obtain ⟨i0, hi, hz0, hz1, hz2⟩ := info_parts conInfo
    obtain ⟨i1, hj, hw0, hw1, hw2⟩ := info_parts stepInfo
    go_enter Tryd.func23, Tryd.ntmps23
    go_wp2_with fail
    rw [← hW0]
    clear hW0
    go_loopw [10, 45] (fun y i wr => ∃ k : Nat, k ≤ l.length ∧ i = .int .i64 k ∧ Below W0.heap.size W0 wr ∧ wr.ownsRow W0.heap.size 43 8 y (ownC f (l.take k)).length ((ownC f (l.take k)).flatMap ConR.cells)) (fun _ i _ => l.length - (intOf i).toNat)
    case atStart => exact ⟨0, by omega, rfl, Below.refl _ _, World.ownsRow_nil _ _ _ _⟩
    case round =>
      obtain ⟨k, hk, rfl, hbw, hy⟩ := hrel
      obtain ⟨hc, hf⟩ := bcell hbw
      by_cases hlt : k < l.length
      · have hki : (k : Int) < (l.length : Int) := by omega
        obtain ⟨bb, off, rfl, hb, c0, c1, c2, c3, c4, c5, c6, c7⟩ := con_at (hsl.below hbw) hlt
        have HT := Lib.hid (own_take (f := f) hlt)
        have hol := ownC_len f (l.take k)
        rw [List.length_take] at hol
        generalize l[k] = x at *
        generalize ownC f (l.take k) = ow at *
        by_cases hfd : x.fd = f
        · have HT2 : Hid (ownC f (l.take (k + 1)) = ow ++ [x]) := by unfold Hid; rw [HT.out, if_pos hfd]
          have HFD := Lib.hid hfd
          go_wp2_with (at_builtin; refine wpList_append_row _ _ rfl (.tmp 53) (.tmp 55) _ rfl W0.heap.size 43 i0 _ 8 72 Tryd.underlying50 hi hz0 hz1 hz2 rfl (by decide) _ _ _ rfl (hy.alloc _) _ (by rw [World.size_alloc]; rfl) rfl (by intro u hu; simp at hu; rcases hu with rfl | rfl | rfl | rfl | rfl | rfl | rfl | rfl <;> rfl) (by omega) (by omega) (below_alloc hbw _).size ?_; intro v' w2 hown hgrow hblk)
          have hb2 := below_grown (below_alloc hbw _) (hy.alloc _) (Nat.le_refl _) hgrow
          clear hgrow hy
          go_roundw
          case measure => simp [intOf]; omega
          case rel => exact ⟨k + 1, by omega, by go_num, hb2, by rw [HT2.out, List.length_append, List.flatMap_append]; rw [← HFD.out] at hown; exact hown⟩
        · have HT2 : Hid (ownC f (l.take (k + 1)) = ow) := by unfold Hid; rw [HT.out, if_neg hfd]
          go_wp2_with fail
          go_roundw
          case measure => simp [intOf]; omega
          case rel => exact ⟨k + 1, by omega, by go_num, below_alloc hbw _, by rw [HT2.out]; exact hy.alloc _⟩
      · have hki : ¬ (k : Int) < (l.length : Int) := by omega
        rw [List.take_of_length_le (by omega)] at hy
        have HOW := Lib.hid (IsSl.of_own ConR.cells_len hy rfl)
        have HOF := Lib.hid (ownC_fits (f := f) HF.out)
        have hol : (ownC f l).length ≤ 1000 := Nat.le_trans (ownC_len f l) hlen
        have HOA := Lib.hid (fun t => own_at l z f t)
        have HON := Lib.hid (fun t h0 h1 => own_next (l := l) (z := z) (f := f) (t := t) h0 h1)
        obtain ⟨A2, cap2, rfl⟩ := own_shape hy
        clear hy
        generalize ownC f l = ow at *
        generalize hV : cAt l z f = V at *
        clear hV
        have e0 := hx0
        have g0 : w.heap.size < wr.heap.size := Nat.lt_of_lt_of_le hg0 hbw.size
        have g1 : w.heap.size + 1 < wr.heap.size := Nat.lt_of_lt_of_le hg1 hbw.size
        go_wp2_with fail
        clear hk hlt hki
        generalize wr = wm at *
        go_loopw [13, 14] (fun s tt wx => ∃ (acc : List (Int × Int)) (t : Int), tt = .int .i64 t ∧ (t = -1 ∨ (a ≤ t ∧ t ≤ 268435456)) ∧ acc.length ≤ 512 ∧ Below wm.heap.size wm wx ∧ wx.ownsRow wm.heap.size 62 2 s acc.length (acc.flatMap encP) ∧ Hid (restR V b a [] = restR V b t acc)) (fun _ tt _ => mesT (intOf tt))
        case atStart => exact ⟨[], a, rfl, .inr ⟨Int.le_refl _, by omega⟩, by simp, Below.refl _ _, World.ownsRow_nil _ _ _ _, rfl⟩
        case round =>
          clear hc hf
          obtain ⟨acc, t, rfl, ht, hal, hbx, hown, HR⟩ := hrel
          have hbw2 := below_step hbw hbx
          obtain ⟨hc, hf⟩ := bcell hbw2
          obtain ⟨A3, cap3, rfl⟩ := own_shape hown
          by_cases hin : 0 ≤ t ∧ t < b
          · obtain ⟨t0, tb⟩ := hin
            have t1 : t ≤ 268435456 := by omega
            have hst := restR_step (V := V) (l := acc) t0 tb
            by_cases hfull : acc.length = 512
            · have HN := Lib.hid (HS1.out (by rw [HR.out, hst, if_pos hfull]))
              have e5 : ((acc.length : Int) == 512) = true := by simp; omega
              clear hst hfull
              go_wp2_with fail
              go_ret2
              exact CserPost.mk HN.out (IsSl.nil _ _) (below_step hb0 hbw2)
            · have HR2 : Hid (restR V b a [] = restR V b (nxV V t) (acc ++ [(t, V t)])) := by unfold Hid; rw [HR.out, hst, if_neg hfull]
              have hnr : nxV V t = -1 ∨ (t < nxV V t ∧ nxV V t ≤ 268435456) := nextP_rng (turnB V) t
              have e5 : ((acc.length : Int) == 512) = false := by simp; omega
              have hal2 : acc.length < 512 := by omega
              clear hst hfull
              go_wp2_with fail
              refine (conAt_any ow _ z f t _ (HV.out.below hbw2) (HOW.out.below hbx)).mono ?_
              rintro e w4 ⟨rfl, hb4⟩
              rw [HOA.out]
              have hbx4 := below_step hbx hb4
              have hbw4 := below_step hbw hbx4
              have hown4 := own_below hown hb4
              clear hc hf hown
              obtain ⟨hc, hf⟩ := bcell hbw4
              generalize V t = vt at *
              go_wp2_with (at_builtin; refine wpList_append_row _ _ rfl (.tmp 75) (.tmp 83) _ rfl wm.heap.size 62 i1 _ 2 16 Tryd.underlying22 hj hw0 hw1 hw2 rfl (by decide) _ _ _ rfl hown4 _ rfl rfl (by intro u hu; simp at hu; rcases hu with rfl | rfl <;> rfl) (by omega) (by omega) hbx4.size ?_; intro v' w5 hown5 hgrow hblk; have hb5 := below_grown hbx4 hown4 (Nat.le_refl _) hgrow; clear hc hf hgrow hblk hown4; obtain ⟨hc, hf⟩ := bcell (below_step hbw hb5))
              have HN := Lib.hid (HON.out t t0 t1)
              refine (conNext_any ow _ z t _ (HV.out.below (below_step hbw hb5)) (HOW.out.below hb5) HOF.out hol).mono ?_
              rintro e w6 ⟨rfl, hb6⟩
              rw [HN.out]
              have hown6 := own_below hown5 hb6
              have hbx6 := below_step hb5 hb6
              go_wp2_with fail
              go_roundw
              case measure => exact mesT_dec t0 t1 hnr
              case rel => exact ⟨acc ++ [(t, vt)], nxV V t, rfl, by omega, by simp; omega, hbx6, by rw [List.length_append, List.flatMap_append]; exact hown6, HR2⟩
          · have HN := Lib.hid (HS2.out acc (by rw [HR.out]; exact restR_end hin))
            have HOWN := Lib.hid (IsSl.of_own encP_len hown rfl)
            have hcase : t < 0 ∨ (0 ≤ t ∧ ¬ t < b) := by omega
            clear hin hown
            rcases hcase with k1 | ⟨k1, k2⟩
            all_goals
              go_wp2_with fail
              go_ret2
              exact CserPost.mk HN.out HOWN.out (below_step hb0 hbw2)
  · have HN := Lib.hid (cser_range (l := l) (z := z) (f := f) hr)
    have hn : a < 0 ∨ (¬ a < 0 ∧ b < a) ∨ (¬ a < 0 ∧ ¬ b < a ∧ 268435456 < b) ∨ (¬ a < 0 ∧ ¬ b < a ∧ ¬ 268435456 < b ∧ 20160 < b - a) := by omega
    clear hr
    rcases hn with g | ⟨g, g2⟩ | ⟨g, g2, g3⟩ | ⟨g, g2, g3, g4⟩
    · go_enter Tryd.func23, Tryd.ntmps23
      go_wp2_with fail
      go_ret2
      exact CserPost.mk HN.out (IsSl.nil _ _) (by rw [← hW0]; exact hb0)
    · go_enter Tryd.func23, Tryd.ntmps23
      go_wp2_with fail
      go_ret2
      exact CserPost.mk HN.out (IsSl.nil _ _) (by rw [← hW0]; exact hb0)
    · go_enter Tryd.func23, Tryd.ntmps23
      go_wp2_with fail
      go_ret2
      exact CserPost.mk HN.out (IsSl.nil _ _) (by rw [← hW0]; exact hb0)
    · have hwd : IntKind.i64.wrap (b - a) = b - a := IntWalk.i64_in _ (by omega)
      go_enter Tryd.func23, Tryd.ntmps23
      go_wp2_with fail
      go_ret2
      exact CserPost.mk HN.out (IsSl.nil _ _) (by rw [← hW0]; exact hb0)

end Go.Proofs.YtpknjblgbpndlaaDoor

namespace Go.Proofs.YtpknjblgbpndlaaDoor
open Go.RowKit Go.Lib Go.Maps
set_option linter.unusedVariables false

theorem drewN_belowC {w w' : World} (h : ∃ n, w' = w.drewN n) : Below w.heap.size w w' := by
  obtain ⟨n, rfl⟩ := h
  exact below_drewN (Below.refl _ _) n

/-- the error of a contract for a site with n feeders -/
def conE (x : ConR) (n : Nat) : Int := if validL x.nm.data.toList = false then 4 else if x.fd < 0 ∨ (n : Int) ≤ x.fd ∨ x.tot < 0 ∨ 1073741824 < x.tot then 2 else winE x.w
theorem conE_name {x : ConR} {n : Nat} (h : validL x.nm.data.toList = false) : conE x n = 4 := if_pos h
theorem conE_range {x : ConR} {n : Nat} (h : validL x.nm.data.toList = true) (g : x.fd < 0 ∨ (n : Int) ≤ x.fd ∨ x.tot < 0 ∨ 1073741824 < x.tot) : conE x n = 2 := by
  unfold conE; rw [if_neg (by rw [h]; decide), if_pos g]
theorem conE_ok {x : ConR} {n : Nat} (h : validL x.nm.data.toList = true) (g : ¬ (x.fd < 0 ∨ (n : Int) ≤ x.fd ∨ x.tot < 0 ∨ 1073741824 < x.tot)) : conE x n = winE x.w := by
  unfold conE; rw [if_neg (by rw [h]; decide), if_neg g]

set_option maxRecDepth 100000 in
set_option maxHeartbeats 6400000 in
theorem conValid_any (x : ConR) (s : ByteArray) (A B : Option Addr) (n c m d : Nat) (w : World) (hn : x.nm.size ≤ maxLen) (hm : n ≤ maxLen) :
    Calls Tryd.prog 17 #[.agg #[.string x.nm, .int .i64 x.fd, .int .i64 x.w.dy, .int .i64 x.w.st, .int .i64 x.w.en, .int .i64 x.w.fr, .int .i64 x.w.to, .int .i64 x.tot], .agg #[.string s, .slice A n c, .slice B m d]] w
      fun e w' => e = .returned (.int .i64 (conE x n)) ∧ Below w.heap.size w w' := by
  obtain ⟨W0, hW0, hb0, hg1, hg0, hx0, hy0⟩ := box2 w #[.string x.nm, .int .i64 x.fd, .int .i64 x.w.dy, .int .i64 x.w.st, .int .i64 x.w.en, .int .i64 x.w.fr, .int .i64 x.w.to, .int .i64 x.tot] 43 #[.string s, .slice A n c, .slice B m d] 47
  unfold maxLen at hm
  cases hv : validL x.nm.data.toList with
  | false =>
    have HE := Lib.hid (conE_name (n := n) hv)
    have HV := Lib.hid hv
    clear hv
    go_enter Tryd.func17, Tryd.ntmps17
    go_wp2_with fail
    rw [← hW0]
    clear hW0
    refine (valid_any x.nm _ hn).mono ?_
    rintro e w1 ⟨rfl, hb1⟩
    rw [HV.out]
    go_wp2_with fail
    go_ret
    exact ⟨ret_int HE.out.symm, below_step hb0 hb1⟩
  | true =>
    have HV := Lib.hid hv
    have hcase : (x.fd < 0 ∨ (¬ x.fd < 0 ∧ (n : Int) ≤ x.fd) ∨ (¬ x.fd < 0 ∧ ¬ (n : Int) ≤ x.fd ∧ x.tot < 0) ∨ (¬ x.fd < 0 ∧ ¬ (n : Int) ≤ x.fd ∧ ¬ x.tot < 0 ∧ 1073741824 < x.tot)) ∨ (¬ x.fd < 0 ∧ ¬ (n : Int) ≤ x.fd ∧ ¬ x.tot < 0 ∧ ¬ 1073741824 < x.tot) := by omega
    rcases hcase with hbad | ⟨k1, k2, k3, k4⟩
    · have HE := Lib.hid (conE_range (n := n) hv (by omega))
      clear hv
      go_enter Tryd.func17, Tryd.ntmps17
      go_wp2_with fail
      rw [← hW0]
      clear hW0
      refine (valid_any x.nm _ hn).mono ?_
      rintro e w1 ⟨rfl, hb1⟩
      rw [HV.out]
      obtain ⟨hc, hf⟩ := bcell hb1
      rcases hbad with k1 | ⟨k1, k2⟩ | ⟨k1, k2, k3⟩ | ⟨k1, k2, k3, k4⟩
      all_goals
        go_wp2_with fail
        go_ret
        exact ⟨ret_int HE.out.symm, below_step hb0 hb1⟩
    · have HE := Lib.hid (conE_ok (n := n) hv (by omega))
      clear hv
      go_enter Tryd.func17, Tryd.ntmps17
      go_wp2_with fail
      rw [← hW0]
      clear hW0
      refine (valid_any x.nm _ hn).mono ?_
      rintro e w1 ⟨rfl, hb1⟩
      rw [HV.out]
      obtain ⟨hc, hf⟩ := bcell hb1
      go_wp2_with fail
      refine (winValid_any x.w _).mono ?_
      rintro e w2 ⟨rfl, hb2⟩
      go_wp2_with fail
      go_ret
      exact ⟨ret_int HE.out.symm, below_step hb0 (below_step hb1 hb2)⟩

set_option maxRecDepth 100000 in
set_option maxHeartbeats 6400000 in
theorem refConV_any (x : ConR) (s : ByteArray) (A B : Option Addr) (n c m d : Nat) (w : World) (hn : x.nm.size ≤ maxLen) (hm : n ≤ maxLen) :
    Calls Tryd.prog 18 #[.agg #[.string x.nm, .int .i64 x.fd, .int .i64 x.w.dy, .int .i64 x.w.st, .int .i64 x.w.en, .int .i64 x.w.fr, .int .i64 x.w.to, .int .i64 x.tot], .agg #[.string s, .slice A n c, .slice B m d]] w
      fun e w' => e = .returned (.int .i64 (conE x n)) ∧ Below w.heap.size w w' := by
  obtain ⟨W0, hW0, hb0, hg1, hg0, hx0, hy0⟩ := box2 w #[.string x.nm, .int .i64 x.fd, .int .i64 x.w.dy, .int .i64 x.w.st, .int .i64 x.w.en, .int .i64 x.w.fr, .int .i64 x.w.to, .int .i64 x.tot] 43 #[.string s, .slice A n c, .slice B m d] 47
  unfold maxLen at hm
  cases hv : validL x.nm.data.toList with
  | false =>
    have HE := Lib.hid (conE_name (n := n) hv)
    have HV := Lib.hid hv
    clear hv
    go_enter Tryd.func18, Tryd.ntmps18
    go_wp2_with fail
    rw [← hW0]
    clear hW0
    refine (refIdV_any x.nm _ hn).mono ?_
    rintro e w1 ⟨rfl, hb1⟩
    replace hb1 := drewN_belowC hb1
    rw [HV.out]
    go_wp2_with fail
    go_ret
    exact ⟨ret_int HE.out.symm, below_step hb0 hb1⟩
  | true =>
    have HV := Lib.hid hv
    have hcase : (x.fd < 0 ∨ (¬ x.fd < 0 ∧ (n : Int) ≤ x.fd) ∨ (¬ x.fd < 0 ∧ ¬ (n : Int) ≤ x.fd ∧ x.tot < 0) ∨ (¬ x.fd < 0 ∧ ¬ (n : Int) ≤ x.fd ∧ ¬ x.tot < 0 ∧ 1073741824 < x.tot)) ∨ (¬ x.fd < 0 ∧ ¬ (n : Int) ≤ x.fd ∧ ¬ x.tot < 0 ∧ ¬ 1073741824 < x.tot) := by omega
    rcases hcase with hbad | ⟨k1, k2, k3, k4⟩
    · have HE := Lib.hid (conE_range (n := n) hv (by omega))
      clear hv
      go_enter Tryd.func18, Tryd.ntmps18
      go_wp2_with fail
      rw [← hW0]
      clear hW0
      refine (refIdV_any x.nm _ hn).mono ?_
      rintro e w1 ⟨rfl, hb1⟩
      replace hb1 := drewN_belowC hb1
      rw [HV.out]
      obtain ⟨hc, hf⟩ := bcell hb1
      rcases hbad with k1 | ⟨k1, k2⟩ | ⟨k1, k2, k3⟩ | ⟨k1, k2, k3, k4⟩
      all_goals
        go_wp2_with fail
        go_ret
        exact ⟨ret_int HE.out.symm, below_step hb0 hb1⟩
    · have HE := Lib.hid (conE_ok (n := n) hv (by omega))
      clear hv
      go_enter Tryd.func18, Tryd.ntmps18
      go_wp2_with fail
      rw [← hW0]
      clear hW0
      refine (refIdV_any x.nm _ hn).mono ?_
      rintro e w1 ⟨rfl, hb1⟩
      replace hb1 := drewN_belowC hb1
      rw [HV.out]
      obtain ⟨hc, hf⟩ := bcell hb1
      go_wp2_with fail
      refine (refValid_any x.w _).mono ?_
      rintro e w2 ⟨rfl, hb2⟩
      go_wp2_with fail
      go_ret
      exact ⟨ret_int HE.out.symm, below_step hb0 (below_step hb1 hb2)⟩

end Go.Proofs.YtpknjblgbpndlaaDoor

namespace Go.Proofs.YtpknjblgbpndlaaDoor
open Go.RowKit Go.Lib Go.Maps
set_option linter.unusedVariables false

set_option maxRecDepth 100000 in
theorem eq_step (x : Int × Int) (w : World) : (Op.equalIn 10000 62 (.agg #[.int .i64 x.1, .int .i64 x.2]) (.agg #[.int .i64 x.1, .int .i64 x.2])).run Tryd.prog w = .ok true w := by
  rw [run_equalIn_agg w 9999 _ _ _ Tryd.underlying62 Tryd.stoodInHeld62]
  simp only [Program.fieldsOf, Tryd.underlying62]
  simp [go_sem, Op.eqFields, part, run_equalIn_int _ _ _ _ _ _ _ Tryd.underlying3]
theorem neq_step (x : Int × Int) (w : World) : (binOp .neq 62 (.agg #[.int .i64 x.1, .int .i64 x.2]) (.agg #[.int .i64 x.1, .int .i64 x.2])).run Tryd.prog w = .ok (.bool false) w := by
  rw [run_neq_struct, eq_step]; rfl
theorem pair_at {w : World} {A : Option Addr} {l : List (Int × Int)} (h : SlAt w 2 A (l.map encP)) {k : Nat} {x : Int × Int} (hk : l[k]? = some x) :
    ∃ b off, A = some ⟨b, off, none⟩ ∧ b < w.heap.size ∧ w.cell? ⟨b, off + k * 2, none⟩ = some (.int .i64 x.1) ∧ w.cell? ⟨b, off + k * 2 + 1, none⟩ = some (.int .i64 x.2) := by
  obtain ⟨b, off, e, hb, hc⟩ := h k (encP x) (by rw [List.getElem?_map, hk]; rfl)
  have c0 := hc 0 _ rfl
  have c1 := hc 1 _ rfl
  exact ⟨b, off, e, hb, by simpa using c0, by simpa [Nat.add_assoc] using c1⟩

set_option maxRecDepth 100000 in
set_option maxHeartbeats 1600000 in
theorem sameSteps_any (l : List (Int × Int)) (u v : Value) (w : World) (hu : IsSl w 2 u (l.map encP)) (hv : IsSl w 2 v (l.map encP)) :
    Calls Tryd.prog 32 #[u, v] w fun e w' => e = .returned (.bool true) ∧ Below w.heap.size w w' := by
  obtain ⟨A, c, rfl, hlc, hcm, hsl⟩ := hu
  obtain ⟨B, d, rfl, hld, hdm, hsl2⟩ := hv
  rw [List.length_map] at hlc
  unfold maxLen at hcm
  simp only [List.length_map]
  have hne : ((l.length : Int) != (l.length : Int)) = false := by simp
  go_enter Tryd.func32, Tryd.ntmps32
  go_wp2_with fail
  go_loopw [5] (fun i wr => ∃ (k : Nat), k ≤ l.length ∧ i = .int .i64 k ∧ Below w.heap.size w wr) (fun i _ => l.length - (intOf i).toNat)
  case atStart => exact ⟨0, by omega, rfl, Below.refl _ _⟩
  case round =>
    obtain ⟨k, hk, rfl, hbw⟩ := hrel
    by_cases hlt : k < l.length
    · have hki : (k : Int) < (l.length : Int) := by omega
      obtain ⟨g, off, rfl, hb, c0, c1⟩ := pair_at (hsl.below hbw) (List.getElem?_eq_getElem hlt)
      obtain ⟨g2, off2, rfl, hb2, d0, d1⟩ := pair_at (hsl2.below hbw) (List.getElem?_eq_getElem hlt)
      generalize l[k] = x at *
      have hnq := neq_step x
      have heg := fun w => run_eqGuard_agg (P := Tryd.prog) w .neq 62 (.tmp 20) (.tmp 24) #[.int .i64 x.1, .int .i64 x.2] #[.int .i64 x.1, .int .i64 x.2] Tryd.eqGuardType62
      go_wp2_with fail
      go_quiet (fail)
      go_wp2_with fail
      go_roundw
      case measure => simp [intOf]; omega
      case rel => exact ⟨k + 1, by omega, by go_num, below_drewN hbw _⟩
    · have hki : ¬ (k : Int) < (l.length : Int) := by omega
      go_wp2_with fail
      go_ret
      exact ⟨rfl, hbw⟩

/-- a slice literal of rows -/
theorem rows_lit {α : Type} {enc : α → List Value} {size : Nat} (henc : ∀ x, (enc x).length = size) (w : World) (T : TypeId) (l : List α) (cs : Array Value) (h : cs.toList = l.flatMap enc) : SlAt (w.alloc (.cells cs T)) size (some ⟨w.heap.size, 0, none⟩) (l.map enc) := by
  intro k row hk
  obtain ⟨x, hx, rfl⟩ := rows_at enc hk
  refine ⟨w.heap.size, 0, rfl, by simp, fun j u hu => ?_⟩
  have := World.cell?_alloc_mark w cs T (0, 0) (k * size + j)
  rw [Nat.zero_add, this, ← Array.getElem?_toList, h]
  exact flat_at enc size henc l k x hx j u hu

def exCells : Array Value := #[.string ⟨#[97]⟩, .int .i64 0, .int .i64 0, .int .i64 480, .int .i64 1020, .int .i64 0, .int .i64 (-1), .int .i64 5000, .string ⟨#[98]⟩, .int .i64 0, .int .i64 0, .int .i64 0, .int .i64 0, .int .i64 600, .int .i64 700, .int .i64 8000]
set_option maxRecDepth 100000 in
theorem example_any (w : World) : Calls Tryd.prog 31 #[] w fun e w' => e = .returned (.slice (some ⟨w.heap.size, 0, none⟩) 2 2) ∧ w' = w.alloc (.cells exCells 43) := by
  go_enter Tryd.func31, Tryd.ntmps31
  go_wp2_with fail
  go_ret
  exact ⟨rfl, rfl⟩
theorem ex_sl (w : World) : SlAt (w.alloc (.cells exCells 43)) 8 (some ⟨w.heap.size, 0, none⟩) ([exCa, exCb].map ConR.cells) := rows_lit ConR.cells_len w _ [exCa, exCb] exCells rfl
theorem ex_tail (w : World) : SlAt (w.alloc (.cells exCells 43)) 8 (some ⟨w.heap.size, 8, none⟩) ([exCb].map ConR.cells) := by
  intro k row hk
  obtain ⟨b, off, e, hb, hc⟩ := ex_sl w (k + 1) row (by simpa using hk)
  injection e with e
  injection e with e1 e2 _
  subst e1
  subst e2
  refine ⟨_, 8, rfl, hb, fun j u hu => ?_⟩
  have := hc j u hu
  rw [show 8 + k * 8 + j = 0 + (k + 1) * 8 + j by omega]
  exact this
theorem ex_fits : ∀ c ∈ [exCa, exCb], c.fits := by
  intro c hc
  simp at hc
  rcases hc with rfl | rfl
  · exact ⟨by unfold maxLen; decide, I64.mk (by decide) (by decide), I64.mk (by decide) (by decide)⟩
  · exact ⟨by unfold maxLen; decide, I64.mk (by decide) (by decide), I64.mk (by decide) (by decide)⟩
theorem exC : CserIs [exCa, exCb] exZ 0 400 1100 0 [(400, 1073741824), (480, 5000), (1020, 1073741824)] := cser_some (by decide) (by decide) exSer
theorem ex_fits1 : ∀ c ∈ [exCb], c.fits := fun c hc => ex_fits c (by simp at hc; simp [hc])
theorem exV : conE ⟨⟨#[97]⟩, 1, ⟨0, 0, 0, 0, 0⟩, 0⟩ 1 = 2 := conE_range (by decide) (by decide)

end Go.Proofs.YtpknjblgbpndlaaDoor

namespace Go.Proofs.YtpknjblgbpndlaaDoor
open Go.RowKit Go.Lib Go.Maps
set_option linter.unusedVariables false

set_option maxRecDepth 100000 in
set_option maxHeartbeats 6400000 in
theorem awake12_any (w : World) (hv : LenV w) : Calls Tryd.prog 16 #[] w fun e w' => e = .returned (.bool true) ∧ Below w.heap.size w w' := by
  have HV := Lib.hid hv
  clear hv
  go_enter Tryd.func16, Tryd.ntmps16
  go_wp2_with fail
  refine (example_any _).mono ?_
  rintro e w1 ⟨rfl, rfl⟩
  obtain ⟨W1, hW1⟩ : ∃ W1, W1 = (w.alloc (.cells exCells 43)).alloc (.cells #[.int .i64 0, .bool false] 26) := ⟨_, rfl⟩
  have hb1 : Below w.heap.size w W1 := by rw [hW1]; exact below_alloc (below_alloc (Below.refl _ _) _) _
  have hs0 : IsSl W1 8 (.slice (some ⟨w.heap.size, 0, none⟩) 2 2) ([exCa, exCb].map ConR.cells) := by
    rw [hW1]; exact IsSl.mk ((ex_sl w).below ((Below.refl _ _).alloc (Nat.le_refl _) _)) rfl (Nat.le_refl _) (by unfold maxLen; decide)
  have hs1 : IsSl W1 8 (.slice (some ⟨w.heap.size, 8, none⟩) 1 1) ([exCb].map ConR.cells) := by
    rw [hW1]; exact IsSl.mk ((ex_tail w).below ((Below.refl _ _).alloc (Nat.le_refl _) _)) rfl (Nat.le_refl _) (by unfold maxLen; decide)
  have hx1 : ∀ j, W1.cell? ⟨w.heap.size + 1, j, none⟩ = (#[.int .i64 0, .bool false] : Array Value)[j]? := fun j => by
    rw [hW1]
    have := World.cell?_alloc_mark (w.alloc (.cells exCells 43)) #[.int .i64 0, .bool false] 26 (0, 0) j
    rw [World.size_alloc] at this
    exact this
  have hg1 : w.heap.size + 1 < W1.heap.size := by rw [hW1]; simp
  have HV1 := Lib.hid (HV.out.below hb1)
  have HS0 := Lib.hid hs0
  have HS1 := Lib.hid hs1
  clear hs0 hs1
  go_wp2_with fail
  rw [← hW1]
  clear hW1
  refine (conAt_any [exCa, exCb] _ exZ 0 479 _ HV1.out HS0.out).mono ?_
  rintro e w2 ⟨rfl, hb2⟩
  rw [exAt_479]
  obtain ⟨hc, hf⟩ := bcell hb2
  go_wp2_with fail
  refine (conAt_any [exCa, exCb] _ exZ 0 650 _ (HV1.out.below hb2) (HS0.out.below hb2)).mono ?_
  rintro e w3 ⟨rfl, hb3⟩
  rw [exAt_650]
  have hb13 := below_step hb2 hb3
  clear hc hf
  obtain ⟨hc, hf⟩ := bcell hb13
  go_wp2_with fail
  refine (conAt_any [exCa, exCb] _ exZ 1 650 _ (HV1.out.below hb13) (HS0.out.below hb13)).mono ?_
  rintro e w4 ⟨rfl, hb4⟩
  rw [exAt1_650]
  have hb14 := below_step hb13 hb4
  clear hc hf
  obtain ⟨hc, hf⟩ := bcell hb14
  go_wp2_with fail
  refine (conSeries_any [exCa, exCb] _ exZ 0 400 1100 _ (HV1.out.below hb14) (HS0.out.below hb14) ex_fits (by decide)).mono ?_
  rintro e w5 ⟨v5, rfl, hv5, hb5⟩
  rw [exC.e]
  rw [exC.l] at hv5
  have hb15 := below_step hb14 hb5
  clear hc hf
  obtain ⟨hc, hf⟩ := bcell hb15
  have HV5 := Lib.hid hv5
  clear hv5
  go_wp2_with fail
  refine (conValid_any ⟨⟨#[97]⟩, 1, ⟨0, 0, 0, 0, 0⟩, 0⟩ _ _ _ 1 1 0 0 _ (by unfold maxLen; decide) (by unfold maxLen; decide)).mono ?_
  rintro e w6 ⟨rfl, hb6⟩
  rw [exV]
  have hb56 := below_step (below_alloc (Below.refl w5.heap.size w5) _) hb6
  have hb16 := below_step hb15 hb56
  clear hc hf
  obtain ⟨hc, hf⟩ := bcell hb16
  have HVL := Lib.hid (HV1.out.below hb16)
  have HS60 := Lib.hid (HS0.out.below hb16)
  have HS61 := Lib.hid (HS1.out.below hb16)
  have HV6 := Lib.hid (HV5.out.below hb56)
  have hg6 : w.heap.size + 1 < w6.heap.size := Nat.lt_of_lt_of_le hg1 hb16.size
  have hx6 : ∀ j, w6.cell? ⟨w.heap.size + 1, j, none⟩ = (#[.int .i64 0, .bool false] : Array Value)[j]? := fun j => (hc _ _ hg1).trans (hx1 j)
  clear hc hf hx1 HS0 HS1 HV5 HV1 HV hb2 hb3 hb4 hb5 hb6 hb13 hb14 hb15
  go_wp2_with fail
  have hbr := Below.refl w6.heap.size w6
  have HN1 := Lib.hid (fun w' (h : (∀ b o, b < w6.heap.size → w'.cell? ⟨b, o, none⟩ = w6.cell? ⟨b, o, none⟩) ∧ Below w6.heap.size w6 w') => conNext_any [exCa, exCb] _ exZ 480 w' (HVL.out.below h.2) (HS60.out.below h.2) ex_fits (by decide))
  have HN2 := Lib.hid (fun w' (h : (∀ b o, b < w6.heap.size → w'.cell? ⟨b, o, none⟩ = w6.cell? ⟨b, o, none⟩) ∧ Below w6.heap.size w6 w') => conNext_any [exCb] _ exZ 700 w' (HVL.out.below h.2) (HS61.out.below h.2) ex_fits1 (by decide))
  have HN3 := Lib.hid (fun v w' (h : (∀ b o, b < w6.heap.size → w'.cell? ⟨b, o, none⟩ = w6.cell? ⟨b, o, none⟩) ∧ Below w6.heap.size w6 w') hv => sameSteps_any [(400, 1073741824), (480, 5000), (1020, 1073741824)] _ v w' (HV6.out.below h.2) hv)
  rw [exConA_480] at HN1
  rw [exConA_700] at HN2
  go_region_held3 (fun w' => (∀ b o, b < w6.heap.size → w'.cell? ⟨b, o, none⟩ = w6.cell? ⟨b, o, none⟩) ∧ Below w6.heap.size w6 w') (first | exact ⟨(bcell (W := w6) (by assumption)).1, by assumption⟩ | exact ⟨(bcell (W := w6) (Below.drew (by assumption))).1, Below.drew (by assumption)⟩ | exact ⟨(bcell (W := w6) (below_alloc (by assumption) _)).1, below_alloc (by assumption) _⟩) ((first
    | (go_at_call 21; have hz7 := hb7; refine (HN2.out _ (by assumption)).mono ?_; rintro e w8 ⟨rfl, hb8⟩; have hb68 := below_step (w := w6) (And.right (by assumption)) hb8)
    | (go_at_call 21; refine (HN1.out _ (by assumption)).mono ?_; rintro e w7 ⟨rfl, hb7⟩; have hb67 := below_step (w := w6) (And.right (by assumption)) hb7)
    | (go_at_call 32; refine (HN3.out _ _ (by assumption) (IsSl.mk (rows_lit encP_len w8 62 [(400, 1073741824), (480, 5000), (1020, 1073741824)] _ rfl) rfl (Nat.le_refl _) (by unfold maxLen; decide))).mono ?_; rintro e w9 ⟨rfl, hb9⟩; have hb69 := below_step (w := w6) (And.right (by assumption)) hb9)))
  all_goals
    go_wp2_with fail
    go_ret
    exact ⟨rfl, below_step hb1 (below_step hb16 hb69)⟩

end Go.Proofs.YtpknjblgbpndlaaDoor

namespace Go.Proofs.YtpknjblgbpndlaaDoor
open Go.RowKit Go.Lib Go.Maps
attribute [local go_sem] after_cell
set_option linter.unusedVariables false

theorem refHoldsC {W : WinR} {z : ZoneR} {t : Int} {b : Bool} (h : holdsB W z t = b) (w : World) :
    Calls Tryd.prog 37 #[.agg #[.int .i64 W.dy, .int .i64 W.st, .int .i64 W.en, .int .i64 W.fr, .int .i64 W.to], .agg #[.int .i64 z.off, .bool z.sum], .int .i64 t] w
      fun e w' => e = .returned (.bool b) ∧ Below w.heap.size w w' := by
  have := refHolds_any W z t w
  rw [h] at this
  exact this

set_option maxRecDepth 100000 in
set_option maxHeartbeats 6400000 in
theorem refConAt_any (l : List ConR) (v : Value) (z : ZoneR) (f t : Int) (w : World) (hL : IsSl w 8 v (l.map ConR.cells)) :
    Calls Tryd.prog 20 #[v, .agg #[.int .i64 z.off, .bool z.sum], .int .i64 f, .int .i64 t] w fun e w' => e = .returned (.int .i64 (cAt l z f t)) ∧ Below w.heap.size w w' := by
  obtain ⟨W0, hW0, hb0, hg0, hx0⟩ := box1 w #[.int .i64 z.off, .bool z.sum] 26
  replace hL := hL.below hb0
  obtain ⟨A, c, rfl, hlc, hcm, hsl⟩ := hL
  rw [List.length_map] at hlc
  unfold maxLen at hcm
  simp only [List.length_map]
  go_enter Tryd.func20, Tryd.ntmps20
  go_wp2_with fail
  rw [← hW0]
  clear hW0
  go_loopw [9, 10] (fun n i wr => ∃ k : Nat, k ≤ l.length ∧ n = .int .i64 (cAt (l.take k) z f t) ∧ i = .int .i64 k ∧ Below W0.heap.size W0 wr) (fun _ i _ => l.length - (intOf i).toNat)
  case atStart => exact ⟨0, by omega, rfl, rfl, Below.refl _ _⟩
  case round =>
    obtain ⟨k, hk, rfl, rfl, hbw⟩ := hrel
    obtain ⟨hc, hf⟩ := bcell hbw
    by_cases hlt : k < l.length
    · have hki : (k : Int) < (l.length : Int) := by omega
      obtain ⟨b, off, rfl, hb, c0, c1, c2, c3, c4, c5, c6, c7⟩ := con_at (hsl.below hbw) hlt
      have hst := cAt_take hlt z f t
      have y1 : ∀ j, wr.cell? ⟨w.heap.size, j, none⟩ = (#[.int .i64 z.off, .bool z.sum] : Array Value)[j]? := fun j => (hc _ _ hg0).trans (hx0 j)
      have y2 : w.heap.size < wr.heap.size := Nat.lt_of_lt_of_le hg0 hbw.size
      have hbr := Below.refl wr.heap.size wr
      clear hc hf
      generalize l[k] = x at *
      generalize cAt (l.take k) z f t = n at *
      by_cases hfd : x.fd = f
      · cases hh : holdsB x.w z t with
        | false =>
          have H : Hid (cAt (l.take (k + 1)) z f t = n) := by unfold Hid; rw [hst]; exact if_neg (fun h => by rw [(cOn_iff.1 h).2] at hh; cases hh)
          have HC := Lib.hid (fun w => refHoldsC hh w)
          have hd : decide (x.fd = f) = true := by simp [hfd]
          clear hst hh
          go_wp2_with fail
          (refine wp_region_kept wr (by kernel_rfl) (by kernel_rfl) (by assumption) ?_; (repeat (go_big_quiet_step ((first | (go_at_call 37; exact kept_call (HC.out _)))))); refine wpQuiet_nil ?_; intro _ hw'; obtain ⟨x9, hw''⟩ := hw'; subst hw''; have hk9 := after_kept x9; generalize after x9 = w9 at *)
          obtain ⟨hc9, hb9⟩ := hk9
          go_wp2_with fail
          go_roundw
          case measure => simp [intOf]; omega
          case rel => exact ⟨k + 1, by omega, by rw [H.out], by go_num, below_step hbw hb9⟩
        | true =>
          have H : Hid (cAt (l.take (k + 1)) z f t = min n x.tot) := by unfold Hid; rw [hst]; exact if_pos (cOn_iff.2 ⟨hfd, hh⟩)
          have HC := Lib.hid (fun w => refHoldsC hh w)
          have hd : decide (x.fd = f) = true := by simp [hfd]
          clear hst hh
          go_wp2_with fail
          (refine wp_region_kept wr (by kernel_rfl) (by kernel_rfl) (by assumption) ?_; (repeat (go_big_quiet_step ((first | (go_at_call 37; exact kept_call (HC.out _)))))); refine wpQuiet_nil ?_; intro _ hw'; obtain ⟨x9, hw''⟩ := hw'; subst hw''; have hk9 := after_kept x9; generalize after x9 = w9 at *)
          obtain ⟨hc9, hb9⟩ := hk9
          have d7 := (hc9 b _ hb).trans c7
          have hz9 : b < w9.heap.size := Nat.lt_of_lt_of_le hb hb9.size
          clear c0 c1 c2 c3 c4 c5 c6 c7 hc9
          go_wp2_with fail
          go_roundw
          case measure => simp [intOf]; omega
          case rel => exact ⟨k + 1, by omega, by first | exact minV H.out | rw [H.out], by go_num, below_step hbw hb9⟩
      · have H : Hid (cAt (l.take (k + 1)) z f t = n) := by unfold Hid; rw [hst]; exact if_neg (fun h => hfd (cOn_iff.1 h).1)
        have hd : decide (x.fd = f) = false := by simp [hfd]
        have hd2 : (x.fd == f) = false := by simp [hfd]
        clear hst
        go_wp2_with fail
        (refine wp_region_kept wr (by kernel_rfl) (by kernel_rfl) (by assumption) ?_; (repeat (go_big_quiet_step ((first | fail)))); refine wpQuiet_nil ?_; intro _ hw'; obtain ⟨x9, hw''⟩ := hw'; subst hw''; have hk9 := after_kept x9; generalize after x9 = w9 at *)
        obtain ⟨hc9, hb9⟩ := hk9
        go_wp2_with fail
        go_roundw
        case measure => simp [intOf]; omega
        case rel => exact ⟨k + 1, by omega, by rw [H.out], by go_num, below_step hbw hb9⟩
    · have hki : ¬ (k : Int) < (l.length : Int) := by omega
      have H : Hid (cAt l z f t = cAt (l.take k) z f t) := by unfold Hid; rw [List.take_of_length_le (by omega)]
      go_wp2_with fail
      go_ret
      exact ⟨ret_int H.out.symm, below_step hb0 hbw⟩

set_option maxRecDepth 100000 in
theorem refValue_any12 (l : List (Int × Int)) (v : Value) (t : Int) (w : World) (hL : IsSl w 2 v (l.map encP)) :
    Calls Tryd.prog 24 #[v, .int .i64 t] w fun e w' => e = .returned (.int .i64 (valL 0 l t)) ∧ Below w.heap.size w w' := by
  obtain ⟨A, c, rfl, hlc, hcm, hsl⟩ := hL
  rw [List.length_map] at hlc
  unfold maxLen at hcm
  simp only [List.length_map]
  go_enter Tryd.func24, Tryd.ntmps24
  go_wp2_with fail
  go_loopw [5, 6] (fun n i wr => ∃ k : Nat, k ≤ l.length ∧ n = .int .i64 (valL 0 (l.take k) t) ∧ i = .int .i64 k ∧ wr = w) (fun _ i _ => l.length - (intOf i).toNat)
  case atStart => exact ⟨0, by omega, rfl, rfl, rfl⟩
  case round =>
    obtain ⟨k, hk, rfl, rfl, rfl⟩ := hrel
    by_cases hlt : k < l.length
    · have hki : (k : Int) < (l.length : Int) := by omega
      obtain ⟨g, off, rfl, hb, c0, c1⟩ := pair_at hsl (List.getElem?_eq_getElem hlt)
      have HT := Lib.hid (valL_take hlt 0 t)
      generalize l[k] = x at *
      generalize valL 0 (l.take k) t = n at *
      by_cases hx : x.1 ≤ t
      · have H : Hid (valL 0 (l.take (k + 1)) t = x.2) := by unfold Hid; rw [HT.out, if_pos hx]
        go_wp2_with fail
        go_roundw
        case measure => simp [intOf]; omega
        case rel => exact ⟨k + 1, by omega, by rw [H.out], by go_num, trivial⟩
      · have H : Hid (valL 0 (l.take (k + 1)) t = n) := by unfold Hid; rw [HT.out, if_neg hx]
        go_wp2_with fail
        go_roundw
        case measure => simp [intOf]; omega
        case rel => exact ⟨k + 1, by omega, by rw [H.out], by go_num, trivial⟩
    · have hki : ¬ (k : Int) < (l.length : Int) := by omega
      have H : Hid (valL 0 l t = valL 0 (l.take k) t) := by unfold Hid; rw [List.take_of_length_le (by omega)]
      go_wp2_with fail
      go_ret
      exact ⟨ret_int H.out.symm, Below.refl _ _⟩

end Go.Proofs.YtpknjblgbpndlaaDoor
