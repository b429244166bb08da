/-
  Walks: the examples of the chapter on tokens.
-/
import Derived.Test.YtcaicdjlfgpbfaaDoorWToken8
import Derived.Test.YtcaicdjlfgpbfaaDoorWToken9
import Derived.Test.YtcaicdjlfgpbfaaDoorWReserve2
import Derived.Deep.DeepCutAuto
namespace Go.Proofs.YtcaicdjlfgpbfaaDoor
open Go.RowKit Go.Lib Go.Joins
attribute [local go_sem] after_cell
set_option linter.unusedVariables false

def tkA : Tok := ⟨⟨#[65]⟩, ⟨#[]⟩, ⟨#[]⟩, 1, 1, 100⟩
def tkB : Tok := ⟨⟨#[98]⟩, ⟨#[]⟩, ⟨#[]⟩, 1, 1, 100⟩
def tkC : Tok := ⟨⟨#[67]⟩, ⟨#[]⟩, ⟨#[]⟩, 1, 1, 100⟩
def tkD : Tok := ⟨⟨#[66]⟩, ⟨#[]⟩, ⟨#[]⟩, 1, 1, 100⟩
def tkBad : Tok := ⟨⟨#[]⟩, ⟨#[]⟩, ⟨#[]⟩, 1, 1, 100⟩
def tkOdd : Tok := ⟨⟨#[65]⟩, ⟨#[]⟩, ⟨#[]⟩, 1, 4, 100⟩
def tkG : Tok := ⟨⟨#[65]⟩, ⟨#[102, 97, 109, 105, 108, 121]⟩, ⟨#[]⟩, 1, 1, 100⟩
def tkH : Tok := ⟨⟨#[98]⟩, ⟨#[70, 97, 109, 105, 108, 121]⟩, ⟨#[]⟩, 1, 1, 100⟩
def tkIn : List Tok := [tkB, tkA, tkC, tkD]
def tkL (k : Nat) : List Tok := (tkIn.take k).foldl putTL []

theorem tkL_4 : tkL 4 = [tkA, tkD, tkC] := by kernel_rfl
theorem tkL_ok (k : Nat) (h : k < 4) : putTE (tkL k) (tkIn[k]'h) = 0 := by
  match k, h with
  | 0, _ => show putTE (tkL 0) tkB = 0; decide +kernel
  | 1, _ => show putTE (tkL 1) tkA = 0; decide +kernel
  | 2, _ => show putTE (tkL 2) tkC = 0; decide +kernel
  | 3, _ => show putTE (tkL 3) tkD = 0; decide +kernel
theorem tkL_step (k : Nat) (h : k < 4) : putTL (tkL k) (tkIn[k]'h) = tkL (k + 1) := by
  unfold tkL
  rw [List.take_succ_eq_append_getElem (show k < tkIn.length from h), List.foldl_append]
  rfl
theorem tkIn_fits : ∀ x ∈ tkIn, x.fits := by
  intro x hx
  simp [tkIn] at hx
  rcases hx with rfl | rfl | rfl | rfl <;> exact ⟨by decide, by decide, by decide⟩
theorem mem_putTL {l : List Tok} {t x : Tok} (h : x ∈ putTL l t) : x = t ∨ x ∈ l := by
  unfold putTL at h
  split at h
  · exact .inr h
  · split at h
    · rcases List.mem_or_eq_of_mem_set h with h | h
      · exact .inr h
      · exact .inl h
    · exact insT_mem.1 h
theorem mem_play {t : List Tok} : ∀ {l : List Tok} {x : Tok}, x ∈ t.foldl putTL l → x ∈ l ∨ x ∈ t := by
  induction t with
  | nil => intro l x h; exact .inl h
  | cons y t ih =>
    intro l x h
    rcases ih h with h | h
    · rcases mem_putTL h with rfl | h
      · exact .inr (by simp)
      · exact .inl h
    · exact .inr (by simp [h])
theorem tkL_fits (k : Nat) : ∀ x ∈ tkL k, x.fits := by
  intro x hx
  rcases mem_play hx with h | h
  · simp at h
  · exact tkIn_fits x (List.mem_of_mem_take h)
theorem tkL_len (k : Nat) (h : k ≤ 4) : (tkL k).length ≤ 4 := by
  match k, h with
  | 0, _ => decide +kernel
  | 1, _ => decide +kernel
  | 2, _ => decide +kernel
  | 3, _ => decide +kernel
  | 4, _ => decide +kernel

set_option maxRecDepth 100000 in
set_option maxHeartbeats 6400000 in
theorem tokExample_any (w : World) : Calls Tryd.prog 6 #[] w fun e w' => e = .returned (.bool true) ∧ Below w.heap.size w w' := by
  go_enter Tryd.func6, Tryd.ntmps6
  go_wp2_with fail
  go_cut [2, 3, 4] (fun s2 s3 s4 wx => ∃ g2 g3 g4 : Nat, s2 = .pointer (some ⟨g2, 0, none⟩) ∧ s3 = .pointer (some ⟨g3, 0, none⟩) ∧ s4 = .pointer (some ⟨g4, 0, none⟩) ∧ Below w.heap.size w wx ∧
    Blk wx w.heap.size 24 tkA.cells ∧ Blk wx g2 24 tkA.cells ∧ Blk wx g3 24 tkA.cells ∧ Blk wx g4 24 tkA.cells ∧ w.heap.size < g2 ∧ w.heap.size < g3 ∧ w.heap.size < g4 ∧ g2 ≠ g3 ∧ g2 ≠ g4 ∧ g3 ≠ g4)
  case first =>
    go_region
    all_goals (go_wp2_with fail; go_meet)
    all_goals exact ⟨_, _, _, rfl, rfl, rfl, by repeat (first | exact Below.refl _ _ | refine below_alloc ?_ _ | refine below_drew ?_), by repeat (first | (refine Blk.new' ?_ _ _ rfl; simp; done) | refine Blk.alloc ?_ _ | refine Blk.drew ?_), by repeat (first | (refine Blk.new' ?_ _ _ rfl; simp; done) | refine Blk.alloc ?_ _ | refine Blk.drew ?_), by repeat (first | (refine Blk.new' ?_ _ _ rfl; simp; done) | refine Blk.alloc ?_ _ | refine Blk.drew ?_), by repeat (first | (refine Blk.new' ?_ _ _ rfl; simp; done) | refine Blk.alloc ?_ _ | refine Blk.drew ?_), by omega, by omega, by omega, by omega, by omega, by omega⟩
  case rest =>
    obtain ⟨g2, g3, g4, rfl, rfl, rfl, hbw, k1, k2, k3, k4, l2, l3, l4, n23, n24, n34⟩ := hcut
    have x2 : ∀ j, wc.cell? ⟨g2, j, none⟩ = (#[.string ⟨#[65]⟩, .string ⟨#[]⟩, .string ⟨#[]⟩, .int .i64 1, .int .i64 1, .int .i64 100] : Array Value)[j]? := k2.arr
    have x3 : ∀ j, wc.cell? ⟨g3, j, none⟩ = (#[.string ⟨#[65]⟩, .string ⟨#[]⟩, .string ⟨#[]⟩, .int .i64 1, .int .i64 1, .int .i64 100] : Array Value)[j]? := k3.arr
    have x4 : ∀ j, wc.cell? ⟨g4, j, none⟩ = (#[.string ⟨#[65]⟩, .string ⟨#[]⟩, .string ⟨#[]⟩, .int .i64 1, .int .i64 1, .int .i64 100] : Array Value)[j]? := k4.arr
    have f2 := k2.free
    have f3 := k3.free
    have f4 := k4.free
    have f32 := far_cell (Ne.symm n23)
    have f42 := far_cell (Ne.symm n24)
    have f43 := far_cell (Ne.symm n34)
    go_upto_region 4 with fail
    obtain ⟨w2, hw2⟩ : ∃ w2, w2 = (((wc.setCell ⟨g2, 0, none⟩ (.string ⟨#[98]⟩)).setCell ⟨g3, 0, none⟩ (.string ⟨#[67]⟩)).setCell ⟨g4, 0, none⟩ (.string ⟨#[66]⟩)) := ⟨_, rfl⟩
    rw [← hw2]
    have m1 : Blk w2 w.heap.size 24 tkA.cells := by rw [hw2]; exact ((k1.other (by omega) _).other (by omega) _).other (by omega) _
    have m2 : Blk w2 g2 24 tkB.cells := by rw [hw2]; exact ((k2.set 0 _).other n23 _).other n24 _
    have m3 : Blk w2 g3 24 tkC.cells := by rw [hw2]; exact ((k3.other (Ne.symm n23) _).set 0 _).other n34 _
    have m4 : Blk w2 g4 24 tkD.cells := by rw [hw2]; exact ((k4.other (Ne.symm n24) _).other (Ne.symm n34) _).set 0 _
    have hb2 : Below w.heap.size w w2 := by rw [hw2]; exact ((hbw.setCell (by simp; omega) _).setCell (by simp; omega) _).setCell (by simp; omega) _
    clear hw2 x2 x3 x4 f2 f3 f4 f32 f42 f43 hbw k1 k2 k3 k4
    have x1 : ∀ j, w2.cell? ⟨w.heap.size, j, none⟩ = (#[.string ⟨#[65]⟩, .string ⟨#[]⟩, .string ⟨#[]⟩, .int .i64 1, .int .i64 1, .int .i64 100] : Array Value)[j]? := m1.arr
    have x2 : ∀ j, w2.cell? ⟨g2, j, none⟩ = (#[.string ⟨#[98]⟩, .string ⟨#[]⟩, .string ⟨#[]⟩, .int .i64 1, .int .i64 1, .int .i64 100] : Array Value)[j]? := m2.arr
    have x3 : ∀ j, w2.cell? ⟨g3, j, none⟩ = (#[.string ⟨#[67]⟩, .string ⟨#[]⟩, .string ⟨#[]⟩, .int .i64 1, .int .i64 1, .int .i64 100] : Array Value)[j]? := m3.arr
    have x4 : ∀ j, w2.cell? ⟨g4, j, none⟩ = (#[.string ⟨#[66]⟩, .string ⟨#[]⟩, .string ⟨#[]⟩, .int .i64 1, .int .i64 1, .int .i64 100] : Array Value)[j]? := m4.arr
    go_wp2_with fail
    obtain ⟨w3, hw3⟩ : ∃ w3, w3 = w2.alloc (.cells #[.string ⟨#[98]⟩, .string ⟨#[]⟩, .string ⟨#[]⟩, .int .i64 1, .int .i64 1, .int .i64 100, .string ⟨#[65]⟩, .string ⟨#[]⟩, .string ⟨#[]⟩, .int .i64 1, .int .i64 1, .int .i64 100, .string ⟨#[67]⟩, .string ⟨#[]⟩, .string ⟨#[]⟩, .int .i64 1, .int .i64 1, .int .i64 100, .string ⟨#[66]⟩, .string ⟨#[]⟩, .string ⟨#[]⟩, .int .i64 1, .int .i64 1, .int .i64 100] 24) := ⟨_, rfl⟩
    rw [← hw3]
    have hb3 : Below w2.heap.size w2 w3 := by rw [hw3]; exact below_alloc (Below.refl _ _) _
    have hsl3 : SlAt w3 6 (some ⟨w2.heap.size, 0, none⟩) (tkIn.map Tok.cells) := by
      have hB : Blk w3 w2.heap.size 24 (tkIn.flatMap Tok.cells) := by rw [hw3]; exact Blk.new' rfl _ _ rfl
      obtain ⟨A, c, e, _, _, h⟩ := hB.isSl Tok.cells_len (l := tkIn) (n := 4) rfl (by decide)
      injection e with e _ _
      rw [e]; exact h
    clear hw3
    have hz3 : w2.heap.size < w3.heap.size := by
      obtain ⟨b, off, e, hlt, _⟩ := hsl3 0 tkB.cells rfl
      injection e with e
      injection e with e1 _ _
      omega
    go_loopw [5, 31] (fun u i wr => ∃ k : Nat, k ≤ 4 ∧ i = .int .i64 k ∧ Below w3.heap.size w3 wr ∧ Hid (IsSl wr 6 u ((tkL k).map Tok.cells))) (fun _ i _ => 4 - (intOf i).toNat)
    case atStart => exact ⟨0, by omega, rfl, Below.refl _ _, IsSl.nil _ _⟩
    case round =>
      obtain ⟨k, hk, rfl, hbr, HU⟩ := hrel
      obtain ⟨hc, hf⟩ := bcell hbr
      have hzr := hbr.size
      by_cases hlt : k < 4
      · have hki : (k : Int) < 4 := by omega
        have HOK := Lib.hid (tkL_ok k hlt)
        have HST := Lib.hid (tkL_step k hlt)
        have hfx : (tkIn[k]'hlt).fits := tkIn_fits _ (List.getElem_mem _)
        have hll := tkL_len k hk
        obtain ⟨b, off, he, hbb, c0, c1, c2, c3, c4, c5⟩ := tok_at hsl3 (show k < tkIn.length from hlt)
        injection he with he
        injection he with he1 he2 _
        subst he1
        subst he2
        simp only [Nat.zero_add] at c0 c1 c2 c3 c4 c5
        have HLF := Lib.hid (tkL_fits k)
        generalize tkIn[k]'hlt = x at *
        generalize tkL k = L at *
        go_wp2_with fail
        refine (tput_any L _ x _ (by omega) (HU.out.below (below_alloc (Below.refl _ _) _)) HLF.out hfx).mono ?_
        rintro e w4 ⟨u4, rfl, hu4, hb4⟩
        rw [HOK.out]
        go_wp2_with fail
        go_roundw
        case measure => simp [intOf]; omega
        case rel => exact ⟨k + 1, by omega, by go_num, hbr.trans ((below_alloc (Below.refl _ _) _ |> fun h => below_step h hb4).mono hbr.size), by show IsSl _ _ _ _; rw [← HST.out]; exact hu4⟩
      · have hk4 : k = 4 := by omega
        subst hk4
        have hu := HU.out
        rw [tkL_4] at hu
        go_wp2_with fail
        have hbz := below_step hb3 hbr
        have hfit : ∀ x ∈ [tkA, tkD, tkC], x.fits := by rw [← tkL_4]; exact tkL_fits 4
        have p1 := m1.lt
        have p2 := m2.lt
        have p3 := m3.lt
        have p4 := m4.lt
        clear hc hf HU hbr hb3 hsl3 hz3 hzr m1 m2 m3 m4
        have hx := find_any [tkA, tkD, tkC] _ ⟨#[99]⟩ wr (by decide) hu hfit
        rw [show findT [tkA, tkD, tkC] ⟨#[99]⟩ = tkC from by kernel_rfl, show foundT [tkA, tkD, tkC] ⟨#[99]⟩ = true from by kernel_rfl] at hx
        refine hx.mono ?_
        clear hx
        rintro e w5 ⟨rfl, hb5⟩
        replace hbz := below_step hbz hb5
        replace hu := hu.below hb5
        obtain ⟨W6, hW6, hb6, hg6, hx6⟩ := box1 w5 #[.string ⟨#[67]⟩, .string ⟨#[]⟩, .string ⟨#[]⟩, .int .i64 1, .int .i64 1, .int .i64 100] 24
        go_wp2_with fail
        rw [show w5.alloc (.cells #[.string tkC.id, .string tkC.group, .string tkC.contract, .int .i64 tkC.kind, .int .i64 tkC.status, .int .i64 tkC.expiry] 24) = W6 from hW6.symm]
        clear hW6
        replace hbz := below_step hbz hb6
        replace hu := hu.below hb6
        have hx := drop_any [tkA, tkD, tkC] _ ⟨#[120]⟩ W6 (by decide) hu hfit
        rw [show dropTL [tkA, tkD, tkC] ⟨#[120]⟩ = [tkA, tkD, tkC] from by kernel_rfl, show dropTE [tkA, tkD, tkC] ⟨#[120]⟩ = 8 from by kernel_rfl] at hx
        refine hx.mono ?_
        clear hx
        rintro e w7 ⟨u7, rfl, hu7, hb7⟩
        replace hbz := below_step hbz hb7
        replace hu := hu.below hb7
        have hx7 : ∀ j, w7.cell? ⟨w5.heap.size, j, none⟩ = (#[.string ⟨#[67]⟩, .string ⟨#[]⟩, .string ⟨#[]⟩, .int .i64 1, .int .i64 1, .int .i64 100] : Array Value)[j]? := fun j => (hb7.cell (p := ⟨w5.heap.size, j, none⟩) hg6).trans (hx6 j)
        have hg7 : w5.heap.size < w7.heap.size := Nat.lt_of_lt_of_le hg6 hb7.size
        obtain ⟨hc, hf⟩ := bcell hbz
        clear hx6 hg6 hb5 hb6 hb7
        have hz7 := hbz.size
        have q1 : w.heap.size < w7.heap.size := by omega
        have q2 : g2 < w7.heap.size := by omega
        have q3 : g3 < w7.heap.size := by omega
        have q4 : g4 < w7.heap.size := by omega
        go_upto_region 19 with fail
        obtain ⟨W8, hW8, hb8, hg81, hg80, hx8, hy8⟩ := box2 w7 #[.string ⟨#[]⟩, .string ⟨#[]⟩, .string ⟨#[]⟩, .int .i64 1, .int .i64 1, .int .i64 100] 24 #[.string ⟨#[65]⟩, .string ⟨#[]⟩, .string ⟨#[]⟩, .int .i64 1, .int .i64 4, .int .i64 100] 24
        rw [← hW8]
        clear hW8
        have hx78 : ∀ j, W8.cell? ⟨w5.heap.size, j, none⟩ = (#[.string ⟨#[67]⟩, .string ⟨#[]⟩, .string ⟨#[]⟩, .int .i64 1, .int .i64 1, .int .i64 100] : Array Value)[j]? := fun j => (hb8.cell (p := ⟨w5.heap.size, j, none⟩) hg7).trans (hx7 j)
        replace hbz := below_step hbz hb8
        replace hu := hu.below hb8
        replace hu7 := hu7.below hb8
        clear hc hf q1 q2 q3 q4 hz7
        obtain ⟨hc, hf⟩ := bcell hbz
        have hz8 := hbz.size
        have hz87 := hb8.size
        have q1 : w.heap.size < W8.heap.size := by omega
        have q2 : g2 < W8.heap.size := by omega
        have q3 : g3 < W8.heap.size := by omega
        have q4 : g4 < W8.heap.size := by omega
        have q5 : w5.heap.size < W8.heap.size := by omega
        clear hx7 hb8 hg7
        go_cut [16, 17] (fun s16 s17 wx => ∃ g5 g6 : Nat, s16 = .pointer (some ⟨g5, 0, none⟩) ∧ s17 = .pointer (some ⟨g6, 0, none⟩) ∧ Below W8.heap.size W8 wx ∧
          Blk wx g5 24 tkA.cells ∧ Blk wx g6 24 tkB.cells ∧ W8.heap.size ≤ g5 ∧ W8.heap.size ≤ g6 ∧ g5 ≠ g6)
        case first =>
          go_region
          all_goals (go_wp2_with fail; go_meet)
          all_goals exact ⟨_, _, rfl, rfl, by repeat (first | exact Below.refl _ _ | refine below_alloc ?_ _ | refine below_drew ?_), by repeat (first | (refine Blk.new' ?_ _ _ rfl; simp; done) | refine Blk.alloc ?_ _ | refine Blk.drew ?_), by repeat (first | (refine Blk.new' ?_ _ _ rfl; simp; done) | refine Blk.alloc ?_ _ | refine Blk.drew ?_), by omega, by omega, by omega⟩
        case rest =>
          obtain ⟨g5, g6, rfl, rfl, hb9, k5, k6, l5, l6, n56⟩ := hcut
          have y5 : ∀ j, wc.cell? ⟨g5, j, none⟩ = (#[.string ⟨#[65]⟩, .string ⟨#[]⟩, .string ⟨#[]⟩, .int .i64 1, .int .i64 1, .int .i64 100] : Array Value)[j]? := k5.arr
          have y6 : ∀ j, wc.cell? ⟨g6, j, none⟩ = (#[.string ⟨#[98]⟩, .string ⟨#[]⟩, .string ⟨#[]⟩, .int .i64 1, .int .i64 1, .int .i64 100] : Array Value)[j]? := k6.arr
          have f5 := k5.free
          have f6 := k6.free
          have f65 := far_cell (Ne.symm n56)
          clear hc hf
          go_upto_region 21 with fail
          obtain ⟨w9, hw9⟩ : ∃ w9, w9 = ((wc.setCell ⟨g5, 1, none⟩ (.string ⟨#[102, 97, 109, 105, 108, 121]⟩)).setCell ⟨g6, 1, none⟩ (.string ⟨#[70, 97, 109, 105, 108, 121]⟩)) := ⟨_, rfl⟩
          rw [← hw9]
          have m5 : Blk w9 g5 24 tkG.cells := by rw [hw9]; exact (k5.set 1 _).other n56 _
          have m6 : Blk w9 g6 24 tkH.cells := by rw [hw9]; exact (k6.other (Ne.symm n56) _).set 1 _
          have hb9' : Below W8.heap.size W8 w9 := by rw [hw9]; exact (hb9.setCell l5 _).setCell l6 _
          have hb10 := hb9'
          have m5' := m5
          have m6' := m6
          have r5 := m5'.lt
          have r6 := m6'.lt
          have y5' : ∀ j, w9.cell? ⟨g5, j, none⟩ = (#[.string ⟨#[65]⟩, .string ⟨#[102, 97, 109, 105, 108, 121]⟩, .string ⟨#[]⟩, .int .i64 1, .int .i64 1, .int .i64 100] : Array Value)[j]? := m5'.arr
          have y6' : ∀ j, w9.cell? ⟨g6, j, none⟩ = (#[.string ⟨#[98]⟩, .string ⟨#[70, 97, 109, 105, 108, 121]⟩, .string ⟨#[]⟩, .int .i64 1, .int .i64 1, .int .i64 100] : Array Value)[j]? := m6'.arr
          have hz10 := hb10.size
          have z1 : ∀ j, w9.cell? ⟨w.heap.size, j, none⟩ = (#[.string ⟨#[65]⟩, .string ⟨#[]⟩, .string ⟨#[]⟩, .int .i64 1, .int .i64 1, .int .i64 100] : Array Value)[j]? := fun j => ((below_step hbz hb10).cell (p := ⟨w.heap.size, j, none⟩) p1).trans (x1 j)
          have z2 : ∀ j, w9.cell? ⟨g2, j, none⟩ = (#[.string ⟨#[98]⟩, .string ⟨#[]⟩, .string ⟨#[]⟩, .int .i64 1, .int .i64 1, .int .i64 100] : Array Value)[j]? := fun j => ((below_step hbz hb10).cell (p := ⟨g2, j, none⟩) p2).trans (x2 j)
          have z3 : ∀ j, w9.cell? ⟨g3, j, none⟩ = (#[.string ⟨#[67]⟩, .string ⟨#[]⟩, .string ⟨#[]⟩, .int .i64 1, .int .i64 1, .int .i64 100] : Array Value)[j]? := fun j => ((below_step hbz hb10).cell (p := ⟨g3, j, none⟩) p3).trans (x3 j)
          have z4 : ∀ j, w9.cell? ⟨g4, j, none⟩ = (#[.string ⟨#[66]⟩, .string ⟨#[]⟩, .string ⟨#[]⟩, .int .i64 1, .int .i64 1, .int .i64 100] : Array Value)[j]? := fun j => ((below_step hbz hb10).cell (p := ⟨g4, j, none⟩) p4).trans (x4 j)
          have z5 : ∀ j, w9.cell? ⟨w5.heap.size, j, none⟩ = (#[.string ⟨#[67]⟩, .string ⟨#[]⟩, .string ⟨#[]⟩, .int .i64 1, .int .i64 1, .int .i64 100] : Array Value)[j]? := fun j => (hb10.cell (p := ⟨w5.heap.size, j, none⟩) q5).trans (hx78 j)
          have z6 : ∀ j, w9.cell? ⟨w7.heap.size, j, none⟩ = (#[.string ⟨#[]⟩, .string ⟨#[]⟩, .string ⟨#[]⟩, .int .i64 1, .int .i64 1, .int .i64 100] : Array Value)[j]? := fun j => (hb10.cell (p := ⟨w7.heap.size, j, none⟩) hg80).trans (hx8 j)
          have z7 : ∀ j, w9.cell? ⟨w7.heap.size + 1, j, none⟩ = (#[.string ⟨#[65]⟩, .string ⟨#[]⟩, .string ⟨#[]⟩, .int .i64 1, .int .i64 4, .int .i64 100] : Array Value)[j]? := fun j => (hb10.cell (p := ⟨w7.heap.size + 1, j, none⟩) hg81).trans (hy8 j)
          have t1 : w.heap.size < w9.heap.size := by omega
          have t2 : g2 < w9.heap.size := by omega
          have t3 : g3 < w9.heap.size := by omega
          have t4 : g4 < w9.heap.size := by omega
          have t5 : w5.heap.size < w9.heap.size := by omega
          have t6 : w7.heap.size < w9.heap.size := by omega
          have t7 : w7.heap.size + 1 < w9.heap.size := by omega
          replace hu := hu.below hb10
          replace hu7 := hu7.below hb10
          have hfin := below_step hb2 (below_step hbz hb10)
          clear hw9 m5 m6 m5' m6' hb9 hb9' hbz hz10 hz8 hz87 x1 x2 x3 x4 y5 y6 f5 f6 f65 k5 k6 p1 p2 p3 p4 q1 q2 q3 q4 q5 l2 l3 l4 l5 l6 n23 n24 n34 n56 hx78 hx8 hy8 hg80 hg81 hb10 hb2
          have heql := tokEql_run tkC tkC
          rw [show tokEqX tkC tkC = true from (tokEqX_iff _ _).2 rfl] at heql
          have heg := fun w => run_eqGuard_agg (P := Tryd.prog) w .eql 24 (.tmp 70) (.tmp 71) #[.string ⟨#[67]⟩, .string ⟨#[]⟩, .string ⟨#[]⟩, .int .i64 1, .int .i64 1, .int .i64 100] #[.string ⟨#[67]⟩, .string ⟨#[]⟩, .string ⟨#[]⟩, .int .i64 1, .int .i64 1, .int .i64 100] Tryd.eqGuardType24
          go_wp2_with fail
          obtain ⟨w10, hw10⟩ : ∃ w10, w10 = w9.alloc (.cells #[.string ⟨#[65]⟩, .string ⟨#[]⟩, .string ⟨#[]⟩, .int .i64 1, .int .i64 1, .int .i64 100, .string ⟨#[66]⟩, .string ⟨#[]⟩, .string ⟨#[]⟩, .int .i64 1, .int .i64 1, .int .i64 100, .string ⟨#[67]⟩, .string ⟨#[]⟩, .string ⟨#[]⟩, .int .i64 1, .int .i64 1, .int .i64 100] 24) := ⟨_, rfl⟩
          rw [← hw10]
          have hs10 : IsSl w10 6 (.slice (some ⟨w9.heap.size, 0, none⟩) 3 3) ([tkA, tkD, tkC].map Tok.cells) := by
            have hB : Blk w10 w9.heap.size 24 ([tkA, tkD, tkC].flatMap Tok.cells) := by rw [hw10]; exact Blk.new' rfl _ _ rfl
            exact hB.isSl Tok.cells_len rfl (by decide)
          have hb10 : Below w9.heap.size w9 w10 := by rw [hw10]; exact below_alloc (Below.refl _ _) _
          clear hw10
          replace hu := hu.below hb10
          replace hu7 := hu7.below hb10
          refine (tokEqual_any [tkA, tkD, tkC] [tkA, tkD, tkC] _ _ w10 (by decide) (by decide) hu hs10).mono ?_
          rintro e v1 ⟨rfl, hb⟩
          replace hb := drewN_below hb
          have hbw := below_step hb10 hb
          rw [tokEqL_t rfl]
          replace hu := hu.below hb
          replace hu7 := hu7.below hb
          clear hb hs10 hb10
          obtain ⟨hc, hf⟩ := bcell hbw
          go_wp2_with fail
          refine (tokEqual_any [tkA, tkD, tkC] [tkA, tkD, tkC] _ _ v1 (by decide) (by decide) hu7 hu).mono ?_
          rintro e v2 ⟨rfl, hb⟩
          replace hb := drewN_below hb
          replace hbw := hbw.trans (hb.mono hbw.size)
          rw [tokEqL_t rfl]
          clear hb hu hu7 hc hf
          obtain ⟨hc, hf⟩ := bcell hbw
          go_wp2_with fail
          have hx := tvalid_any tkA v2 ⟨by decide, by decide, by decide⟩
          rw [show validT tkA = 0 from by kernel_rfl] at hx
          refine hx.mono ?_
          clear hx
          rintro e v3 ⟨rfl, hb⟩
          replace hbw := hbw.trans (hb.mono hbw.size)
          clear hb hc hf
          obtain ⟨hc, hf⟩ := bcell hbw
          go_wp2_with fail
          have hx := tvalid_any tkBad v3 ⟨by decide, by decide, by decide⟩
          rw [show validT tkBad = 4 from by kernel_rfl] at hx
          refine hx.mono ?_
          clear hx
          rintro e v4 ⟨rfl, hb⟩
          replace hbw := hbw.trans (hb.mono hbw.size)
          clear hb hc hf
          obtain ⟨hc, hf⟩ := bcell hbw
          go_wp2_with fail
          have hx := tvalid_any tkOdd v4 ⟨by decide, by decide, by decide⟩
          rw [show validT tkOdd = 2 from by kernel_rfl] at hx
          refine hx.mono ?_
          clear hx
          rintro e v5 ⟨rfl, hb⟩
          replace hbw := hbw.trans (hb.mono hbw.size)
          clear hb hc hf
          obtain ⟨hc, hf⟩ := bcell hbw
          go_wp2_with fail
          have hx := status_any tkA 99 v5
          rw [show statusT tkA 99 = 1 from by kernel_rfl] at hx
          refine hx.mono ?_
          clear hx
          rintro e v6 ⟨rfl, hb⟩
          replace hbw := hbw.trans (hb.mono hbw.size)
          clear hb hc hf
          obtain ⟨hc, hf⟩ := bcell hbw
          go_wp2_with fail
          have hx := status_any tkA 100 v6
          rw [show statusT tkA 100 = 3 from by kernel_rfl] at hx
          refine hx.mono ?_
          clear hx
          rintro e v7 ⟨rfl, hb⟩
          replace hbw := hbw.trans (hb.mono hbw.size)
          clear hb hc hf
          obtain ⟨hc, hf⟩ := bcell hbw
          go_wp2_with fail
          have hx := tokSame_any tkB tkD v7 (by decide) (by decide)
          rw [show sameT tkB tkD = true from by kernel_rfl] at hx
          refine hx.mono ?_
          clear hx
          rintro e v8 ⟨rfl, hb⟩
          replace hbw := hbw.trans (hb.mono hbw.size)
          clear hb hc hf
          obtain ⟨hc, hf⟩ := bcell hbw
          go_wp2_with fail
          have hx := tokSame_any tkA tkB v8 (by decide) (by decide)
          rw [show sameT tkA tkB = false from by kernel_rfl] at hx
          refine hx.mono ?_
          clear hx
          rintro e v9 ⟨rfl, hb⟩
          replace hbw := hbw.trans (hb.mono hbw.size)
          clear hb hc hf
          obtain ⟨hc, hf⟩ := bcell hbw
          go_wp2_with fail
          have hx := tokSame_any tkG tkH v9 (by decide) (by decide)
          rw [show sameT tkG tkH = true from by kernel_rfl] at hx
          refine hx.mono ?_
          clear hx
          rintro e v10 ⟨rfl, hb⟩
          replace hbw := hbw.trans (hb.mono hbw.size)
          clear hb hc hf
          obtain ⟨hc, hf⟩ := bcell hbw
          go_wp2_with fail
          go_ret
          exact ⟨rfl, below_step hfin hbw⟩

end Go.Proofs.YtcaicdjlfgpbfaaDoor
