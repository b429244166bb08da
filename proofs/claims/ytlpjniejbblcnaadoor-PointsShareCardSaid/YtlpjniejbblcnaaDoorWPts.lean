/-
  Walks: the law PointsShare.
-/
import Derived.Test.YtlpjniejbblcnaaDoorM14
import Derived.Test.YtlpjniejbblcnaaDoorWShare
namespace Go.Proofs.YtlpjniejbblcnaaDoor
open Go.RowKit Go.Lib Go.Maps
attribute [local go_sem] after_cell
set_option linter.unusedVariables false

theorem allocE_of {S : SiteR} {C : List CapR} {W : List WantR} (h : AllocOk S C W) : allocE S C W = 0 := by
  refine allocE_zero h.site h.len h.caps ?_
  have key : ∀ k, k ≤ W.length → firstE (wantAt S.P W) k = 0 := by
    intro k
    induction k with
    | zero => intro _; rfl
    | succ k ih =>
      intro hk
      have h2 := h.wants k (by omega)
      exact firstE_go (ih (by omega)) (by rw [wantAt_eq (by omega)]; exact wantE_ok h2.1 h2.2)
  exact key _ (Nat.le_refl _)
theorem pt_name (k : Nat) (hk : k < 200) : (⟨#[112]⟩ : ByteArray) ++ ⟨#[UInt8.ofNat ((48 : Int) + k).toNat]⟩ = ptName k := by
  have e : ((48 : Int) + k).toNat = 48 + k := by omega
  rw [e]
  rfl
theorem pt_name2 (k : Nat) : (⟨#[112]⟩ : ByteArray) ++ ⟨#[48 + UInt8.ofNat k]⟩ = ptName k := by
  have e : UInt8.ofNat (48 + k) = 48 + UInt8.ofNat k := by rw [UInt8.ofNat_add]; rfl
  unfold ptName
  rw [e]
  rfl
theorem pointInfo : (Tryd.prog.info? 34).map (fun i => (i.zero, i.size, i.bytes)) = some (some (.agg #[.string ⟨#[]⟩, .int .i64 0, .int .i64 0, .int .i64 0, .int .i64 0]), 5, 48) := by kernel_rfl
theorem wantInfo17 : (Tryd.prog.info? 36).map (fun i => (i.zero, i.size, i.bytes)) = some (some (.agg #[.int .i64 0, .int .i64 0, .int .i64 0]), 3, 24) := by kernel_rfl
/-- the site under construction -/
structure PtsM (w : World) (N fb sb : Nat) (total : Int) (pv wv : Value) (P : List Pnt) (W : List WantR) : Prop where
  f : Blk w fb 26 ((ptsF total).flatMap Feed.cells)
  s : Blk w sb 30 [.string ⟨#[115]⟩, .slice (some ⟨fb, 0, none⟩) 1 1, pv]
  p : w.ownsRow N 34 5 pv P.length (P.flatMap Pnt.cells)
  g : w.ownsRow N 36 3 wv W.length (W.flatMap WantR.cells)
  a : Apart pv wv
  fN : fb < N
  sN : sb < N
  fs : fb ≠ sb
section
variable {w w' : World} {N fb sb : Nat} {total : Int} {pv wv : Value} {P : List Pnt} {W : List WantR}
theorem PtsM.below (h : PtsM w N fb sb total pv wv P W) (hb : Below w.heap.size w w') : PtsM w' N fb sb total pv wv P W := ⟨h.f.below hb h.f.lt, h.s.below hb h.s.lt, own_below h.p hb, own_below h.g hb, h.a, h.fN, h.sN, h.fs⟩
theorem own_not {B s n : Nat} {e : TypeId} {v : Value} {xs : List Value} {k : Nat} (h : w.ownsRow B e s v n xs) (hk : k < B) : v.ownBlock ≠ some k := fun e => by have := (h.lt k e).1; omega
theorem PtsM.snocP (h : PtsM w N fb sb total pv wv P W) {pv' : Value} {x : Pnt} (hg : w.grownBy w' pv.ownBlock) (hown : w'.ownsRow N 34 5 pv' (P.length + 1) (P.flatMap Pnt.cells ++ x.cells)) (hat : ∀ g, pv'.ownBlock = some g → pv.ownBlock = some g ∨ w.heap.size ≤ g) :
    PtsM (w'.setCell ⟨sb, 2, none⟩ pv') N fb sb total pv' wv (P ++ [x]) W := by
  have hset : w'.grownBy (w'.setCell ⟨sb, 2, none⟩ pv') (some sb) := grown_set ⟨rfl, rfl, rfl, Nat.le_refl _, fun _ _ _ => rfl⟩ _ _
  have hne : ∀ {B s n : Nat} {e : TypeId} {v : Value} {xs : List Value}, w'.ownsRow B e s v n xs → N ≤ B → ∀ g, some sb = some g → v.ownBlock ≠ some g := fun ho hB g e => by injection e with e; subst e; exact own_not ho (by have := h.sN; omega)
  have hg' := kept_own h.g hg (fun g e => h.a g e)
  refine ⟨?_, (kept_nb h.s hg (own_not h.p h.sN)).set 2 pv', ?_, kept_own hg' hset (hne hg' (Nat.le_refl _)), grown_apart h.g h.a hat, h.fN, h.sN, h.fs⟩
  · exact (kept_nb h.f hg (own_not h.p h.fN)).other h.fs _
  · refine kept_own ?_ hset (hne hown (Nat.le_refl _))
    rw [List.length_append, List.flatMap_append]; simpa using hown
theorem PtsM.snocW (h : PtsM w N fb sb total pv wv P W) {wv' : Value} {x : WantR} (hg : w.grownBy w' wv.ownBlock) (hown : w'.ownsRow N 36 3 wv' (W.length + 1) (W.flatMap WantR.cells ++ x.cells)) (hat : ∀ g, wv'.ownBlock = some g → wv.ownBlock = some g ∨ w.heap.size ≤ g) :
    PtsM w' N fb sb total pv wv' P (W ++ [x]) := by
  refine ⟨kept_nb h.f hg (own_not h.g h.fN), kept_nb h.s hg (own_not h.g h.sN), kept_own h.p hg (fun g e => fun e2 => h.a g e2 e), ?_, (grown_apart h.p h.a.symm hat).symm, h.fN, h.sN, h.fs⟩
  rw [List.length_append, List.flatMap_append]; simpa using hown
end
/-- the first k points, the first k wants -/
def ptsU (l : List Int) (k : Nat) : List WantR := (ptsW l).take k
theorem ptsU_up {l : List Int} {k : Nat} (h : k < l.length) : ptsU l (k + 1) = ptsU l k ++ [⟨(k : Int), 1, vecL l k⟩] := by
  unfold ptsU
  rw [List.take_succ_eq_append_getElem (by rw [ptsW_len]; exact h), ptsW_get]
theorem ptsP_up (k : Nat) : ptsP (k + 1) = ptsP k ++ [ptP k] := by unfold ptsP; rw [List.range_succ, List.map_append]; rfl
theorem ptsU_len {l : List Int} {k : Nat} (h : k ≤ l.length) : (ptsU l k).length = k := by unfold ptsU; rw [List.length_take, ptsW_len]; omega
/-- the memory behind k rounds -/
def PtsL (N fb sb : Nat) (total : Int) (l : List Int) (wv : Value) (k : Nat) (w : World) : Prop := ∃ pv, PtsM w N fb sb total pv wv (ptsP k) (ptsU l k)
theorem ptsF_fits (total : Int) : ∀ f ∈ ptsF total, f.fits := by
  intro f hf; simp [ptsF] at hf; subst hf; show (⟨#[102]⟩ : ByteArray).size ≤ maxLen; decide
theorem ptsP_fits (n : Nat) : ∀ p ∈ ptsP n, p.fits := by
  intro p hp
  obtain ⟨i, hi, rfl⟩ := List.mem_iff_getElem.1 hp
  rw [ptsP_get]
  show (2 : Nat) ≤ maxLen
  decide

set_option maxRecDepth 100000 in
set_option maxHeartbeats 12800000 in
theorem lawPts (total : Int) (l : List Int) (v : Value) (w : World) (hL : IsSl w 1 v (l.map encZ)) :
    Calls Tryd.prog 3 #[.int .i64 total, v] w fun e w' => e = .returned (.bool true) ∧ Below w.heap.size w w' := by
  have HIS := Lib.hid hL
  obtain ⟨A, cc, rfl, hlc, hcm, hsl⟩ := islen' hL
  have HS := Lib.hid hsl
  clear hL hsl hcm hlc
  have hcase : (10 : Int) < l.length ∨ (¬ (10 : Int) < l.length ∧ total < 0) ∨ (¬ (10 : Int) < l.length ∧ ¬ total < 0 ∧ 1048576 < total) ∨ (¬ (10 : Int) < l.length ∧ ¬ total < 0 ∧ ¬ 1048576 < total) := by omega
  rcases hcase with h1 | ⟨h1, h2⟩ | ⟨h1, h2, h3⟩ | ⟨h1, h2, h3⟩
  iterate 3
    · go_enter Tryd.func3, Tryd.ntmps3
      go_wp2_with fail
      go_ret
      exact ⟨rfl, Below.refl _ _⟩
  have hn : l.length ≤ 10 := by omega
  obtain ⟨i0, hi, hz0, hz1, hz2⟩ := info_parts pointInfo
  obtain ⟨i1, hj, hj0, hj1, hj2⟩ := info_parts wantInfo17
  obtain ⟨W1, hW1, hb1, hM1⟩ : ∃ W1, W1 = (w.alloc (.cells #[.string ⟨#[102]⟩, .int .i64 (-1), .int .i64 total, .int .i64 0, .int .i64 0] 26)).alloc (.cells #[.string ⟨#[115]⟩, .slice (some ⟨w.heap.size, 0, none⟩) 1 1, .slice none 0 0] 30) ∧
      Below w.heap.size w W1 ∧ PtsL (w.heap.size + 2) w.heap.size (w.heap.size + 1) total l (.slice none 0 0) 0 W1 :=
    ⟨_, rfl, below_alloc (below_alloc (Below.refl _ _) _) _, _, (Blk.new' rfl _ _ rfl).alloc _, Blk.new' (by simp) _ _ rfl, World.ownsRow_nil _ _ _ _, World.ownsRow_nil _ _ _ _, fun g h => by simp [Value.ownBlock] at h, by omega, by omega, by omega⟩
  have HM1 := Lib.hid hM1
  clear hM1
  go_enter Tryd.func3, Tryd.ntmps3
  go_wp2_with fail
  rw [← hW1]
  clear hW1
  have hws1 := hb1.size
  go_loopw [6, 32] (fun wv i wr => ∃ k : Nat, k ≤ l.length ∧ i = .int .i64 k ∧ Below w.heap.size w wr ∧ PtsL (w.heap.size + 2) w.heap.size (w.heap.size + 1) total l wv k wr ∧ Hid (∀ j, j < k → 0 ≤ vecL l j ∧ vecL l j ≤ 1048576)) (fun _ i _ => l.length - (intOf i).toNat)
  case atStart => exact ⟨0, by omega, rfl, hb1, HM1.out, fun j hj => by omega⟩
  case round =>
    clear HM1 hb1 hws1
    obtain ⟨k, hk, rfl, hbw, hM, HG⟩ := hrel
    obtain ⟨pv, hM⟩ := hM
    have HM := Lib.hid hM
    clear hM
    obtain ⟨hc, hf⟩ := bcell hbw
    by_cases hlt : k < l.length
    · have hki : (k : Int) < (l.length : Int) := by omega
      obtain ⟨b, off, rfl, hb, c0⟩ := int_at HS.out hlt
      have hvk : vecL l k = l[k] := vecL_get hlt
      have HGN : Hid (0 ≤ l[k] ∧ l[k] ≤ 1048576 → ∀ j, j < k + 1 → 0 ≤ vecL l j ∧ vecL l j ≤ 1048576) := fun h j hj => by
        by_cases e : j = k
        · subst e; rw [hvk]; exact h
        · exact HG.out j (by omega)
      have HPU := Lib.hid (ptsP_up k)
      have HWU := Lib.hid (ptsU_up hlt)
      rw [hvk] at HWU
      have HPL := Lib.hid (ptsP_len k)
      have HWL := Lib.hid (ptsU_len hk)
      clear hvk
      generalize l[k] = x at *
      have hx : (x < 0) ∨ (¬ x < 0 ∧ 1048576 < x) ∨ (¬ x < 0 ∧ ¬ 1048576 < x) := by omega
      rcases hx with a1 | ⟨a1, a2⟩ | ⟨a1, a2⟩
      · go_wp2_with fail
        go_ret
        exact ⟨rfl, hbw⟩
      · go_wp2_with fail
        go_ret
        exact ⟨rfl, hbw⟩
      · have HN := Lib.hid (HGN.out (by omega))
        have q1 : IntKind.i64.wrap (48 + (k : Int)) = 48 + (k : Int) := IntWalk.i64_in _ (by omega)
        have q2 : IntKind.u8.wrap (48 + (k : Int)) = 48 + (k : Int) := by
          show (48 + (k : Int)) % 256 = _
          omega
        have hob := one_byte (P := Tryd.prog) 32 9 5 Tryd.underlying32 Tryd.underlying5 Tryd.underlying9 (48 + (k : Int)) (by omega) (by omega)
        have hnm := pt_name k (by omega)
        have d2 := (HM.out.s.cell 2).trans rfl
        have hsl := HM.out.s.lt
        have sz := HM.out.s.free 2
        go_upto_region 10 with fail
        go_cut [] (fun wx => ∃ pv', Below w.heap.size w wx ∧ Hid (PtsM wx (w.heap.size + 2) w.heap.size (w.heap.size + 1) total pv' u6 (ptsP k ++ [ptP k]) (ptsU l k)))
        case first =>
          have hbA := below_alloc (Below.refl wr.heap.size wr) (.cells #[.int .u8 (48 + (k : Int))] 5)
          have HMA := Lib.hid (HM.out.below hbA)
          have hAs : (wr.alloc (.cells #[.int .u8 (48 + (k : Int))] 5)).heap.size = wr.heap.size + 1 := by simp
          have HAS := Lib.hid hAs
          clear hAs
          go_wp2_with (at_builtin; refine wpList_append_row _ _ rfl (.tmp 44) (.tmp 52) _ rfl (w.heap.size + 2) 34 i0 _ 5 48 Tryd.underlying28 hi hz0 hz1 hz2 rfl (by decide) pv (ptsP k).length ((ptsP k).flatMap Pnt.cells) rfl HMA.out.p _ (by rw [HAS.out]; rfl) rfl (by intro u hu; simp at hu; rcases hu with rfl | rfl | rfl | rfl | rfl <;> rfl) (by have := HPL.out; omega) (by have := HPL.out; omega) (by have := HMA.out.s.lt; omega) ?_; intro v4 w4 hown4 hgrow4 hblk4; obtain ⟨A4, c4, rfl⟩ := own_shape hown4; have hd4 := kept_nb HMA.out.s hgrow4 (own_not HMA.out.p (by omega)); have s4 := (hd4.cell 2).trans rfl; have f4 := hd4.free 2)
          have hown5 : w4.ownsRow (w.heap.size + 2) 34 5 (.slice A4 ((ptsP k).length + 1) c4) ((ptsP k).length + 1) ((ptsP k).flatMap Pnt.cells ++ (ptP k).cells) := by
            rw [show (ptP k).cells = [.string (ptName k), .int .i64 0, .int .i64 1, .int .i64 1048576, .int .i64 0] from rfl, ← pt_name2 k]
            first | exact hown4 | simpa using hown4
          have hm5 := HMA.out.snocP hgrow4 hown5 hblk4
          have hb5 := (below_grown (below_step hbw hbA) HMA.out.p (by omega) hgrow4).setCell (p := ⟨w.heap.size + 1, 2, none⟩) (show w.heap.size ≤ w.heap.size + 1 by omega) (.slice A4 ((ptsP k).length + 1) c4)
          go_meet
          exact ⟨_, hb5, hm5⟩
        case rest =>
          clear HM d2 hsl sz hob hbw hc hf
          obtain ⟨pv', hbw, HM⟩ := hcut
          go_wp2_with (at_builtin; refine wpList_append_row _ _ rfl (.tmp 55) (.tmp 59) _ rfl (w.heap.size + 2) 36 i1 _ 3 24 Tryd.underlying31 hj hj0 hj1 hj2 rfl (by decide) u6 (ptsU l k).length ((ptsU l k).flatMap WantR.cells) rfl HM.out.g _ rfl rfl (by intro u hu; simp at hu; rcases hu with rfl | rfl | rfl <;> rfl) (by have := HWL.out; omega) (by have := HWL.out; omega) (by have := HM.out.s.lt; omega) ?_; intro v6 w6 hown6 hgrow6 hblk6)
          (try go_simp)
          go_roundw
          case measure => simp [intOf] <;> omega
          case rel =>
            have hm7 := HM.out.snocW (x := ⟨(k : Int), 1, x⟩) hgrow6 hown6 hblk6
            have hb6 := below_grown hbw HM.out.g (by omega) hgrow6
            exact ⟨k + 1, by omega, by go_num, hb6, ⟨_, by rw [HPU.out, HWU.out]; exact hm7⟩, HN.out⟩
    · have hki : ¬ (k : Int) < (l.length : Int) := by omega
      have hkn : k = l.length := by omega
      subst hkn
      have HCC : Hid (∀ x ∈ l, 0 ≤ x ∧ x ≤ 1048576) := fun x hx => by
        obtain ⟨j, hj, rfl⟩ := List.mem_iff_getElem.1 hx
        have := HG.out j hj
        rw [vecL_get hj] at this
        exact this
      have HAP := Lib.hid (allocP_ok (total := total) (c := l) (by omega) (by omega) hn HCC.out)
      have hue : ptsU l l.length = ptsW l := by unfold ptsU; exact List.take_of_length_le (by rw [ptsW_len]; omega)
      rw [hue] at HM
      obtain ⟨W2, hW2, hb2, hg2, hx2⟩ := box1 wr #[.int .i64 total, .int .i64 0, .int .i64 0, .int .i64 total] 41
      have HF2 : Hid (IsSl W2 5 (.slice (some ⟨w.heap.size, 0, none⟩) 1 1) ((ptsS total l.length).F.map Feed.cells)) := ((HM.out.f.isSl Feed.cells_len rfl (show (1 : Nat) ≤ maxLen by decide)).below hb2)
      have HP2 : Hid (IsSl W2 5 pv ((ptsS total l.length).P.map Pnt.cells)) := (IsSl.of_own Pnt.cells_len HM.out.p rfl).below hb2
      have HW2' : Hid (IsSl W2 3 u6 ((ptsW l).map WantR.cells)) := (IsSl.of_own WantR.cells_len' HM.out.g rfl).below hb2
      have HC2 : Hid (IsSl W2 4 (.slice (some ⟨wr.heap.size, 0, none⟩) 1 1) ((ptsC total).map CapR.cells)) := by
        have h : Blk W2 wr.heap.size 41 ((ptsC total).flatMap CapR.cells) := by rw [hW2]; exact Blk.new' rfl _ _ rfl
        exact h.isSl CapR.cells_len rfl (show (1 : Nat) ≤ maxLen by decide)
      have y0 := HM.out.s.arr
      have hsl := HM.out.s.lt
      clear hue hx2 hg2 HG
      have hRun := Lib.hid (arun_any (ptsS total l.length) (ptsC total) (ptsW l) _ _ _ _ W2 HF2.out HP2.out HC2.out HW2'.out (show (1 : Nat) ≤ maxLen by decide) (ptsF_fits total) (ptsP_fits l.length) (show (1 : Nat) ≤ 1000 by decide) (by rw [ptsW_len]; omega))
      go_wp2_with fail
      rw [← hW2]
      clear hW2
      refine hRun.out.mono ?_
      rintro e w3 ⟨hb3, hp3⟩
      rw [allocE_of HAP.out] at hp3
      rcases hp3 with ⟨h, _⟩ | ⟨_, v3, x3, rfl, hx3, hs3, hf3⟩
      · exact absurd rfl h
      have hbw3 := below_step (below_step hbw hb2) hb3
      have HFI := Lib.hid (pts_fill (by omega) (by omega) hn HCC.out hx3)
      rw [ptsW_len] at hs3
      have hvl : IsSl w3 1 (.slice A l.length cc) ((listV l.length (vecL l)).map encZ) := by rw [listV_vecL]; exact HIS.out.below hbw3
      have HSH := Lib.hid (share_any l.length (vecL l) total _ w3 hvl (by omega) (by omega) (fun i hi => by rw [vecL_get hi]; have := HCC.out _ (List.getElem_mem hi); omega))
      obtain ⟨G, g, hv3, _, _, hsx⟩ := islen' hs3
      subst hv3
      simp only [listV_len]
      have HSX := Lib.hid hsx
      clear hs3 hsx hf3 hx3 hvl hRun
      have hne : ((l.length : Int) != (l.length : Int)) = false := by simp
      go_wp2_with (go_at_call 10; refine HSH.out.mono ?_; rintro e w4 ⟨hb4, v4, x4, rfl, hs4, hfx⟩; obtain ⟨G4, g4, rfl, hg4a, hg4b, hsx4⟩ := islen' hs4; simp only [listV_len])
      have HEQ : Hid (∀ i, i < l.length → x3 i = x4 i) := fun i hi => by
        obtain ⟨F, hF, _, e⟩ := HFI.out
        rw [e]; exact hfx F hF i hi
      have HSX3 := Lib.hid (HSX.out.below hb4)
      have HSX4 := Lib.hid hsx4
      have hbw4 := below_step hbw3 hb4
      have hln : l.length ≤ 10 := hn
      clear hs4 hfx hsx4 hg4a hg4b y0 hsl HFI HSX HSH
      go_loopw [101] (fun i wi => ∃ k : Nat, k ≤ l.length ∧ i = .int .i64 k ∧ Below w4.heap.size w4 wi) (fun i _ => l.length - (intOf i).toNat)
      case atStart => exact ⟨0, by omega, rfl, Below.refl _ _⟩
      case round =>
        obtain ⟨q, hq, rfl, hbi⟩ := hrel
        by_cases hql : q < l.length
        · have hqi : (q : Int) < (l.length : Int) := by omega
          obtain ⟨b3, off3, hG3, hb3', z3⟩ := vec_at HSX3.out hql
          obtain ⟨b4, off4, hG4, hb4', z4⟩ := vec_at HSX4.out hql
          subst hG3 hG4
          have Z3 := (hbi.cell (p := ⟨b3, off3 + q, none⟩) hb3').trans z3
          have Z4 := (hbi.cell (p := ⟨b4, off4 + q, none⟩) hb4').trans z4
          rw [HEQ.out q hql] at Z3
          have hzi := hbi.size
          have k3 : b3 < wr.heap.size := by omega
          have k4 : b4 < wr.heap.size := by omega
          have hbr := Below.refl wr.heap.size wr
          have hne2 : (x4 q != x4 q) = false := by simp
          have HQL := Lib.hid hql
          clear z3 z4
          generalize x4 q = u at *
          go_wp2_with fail
          (refine wp_region_kept wr (by kernel_rfl) (by kernel_rfl) (by assumption) ?_; (repeat (go_big_quiet_step ((first | fail)))); refine wpQuiet_nil ?_; intro _ hw'; obtain ⟨x9, hw''⟩ := hw'; subst hw''; have hk9 := after_kept x9; generalize after x9 = w9 at *)
          obtain ⟨hc9, hb9⟩ := hk9
          have HB9 := Lib.hid (below_step hbi hb9)
          clear hc9
          go_wp2_with fail
          go_roundw
          case measure =>
            have := HQL.out
            simp [intOf] <;> omega
          case rel => exact ⟨q + 1, HQL.out, by go_num, HB9.out⟩
        · have hqi : ¬ (q : Int) < (l.length : Int) := by omega
          go_wp2_with fail
          go_ret
          exact ⟨rfl, below_step hbw4 hbi⟩

end Go.Proofs.YtlpjniejbblcnaaDoor
