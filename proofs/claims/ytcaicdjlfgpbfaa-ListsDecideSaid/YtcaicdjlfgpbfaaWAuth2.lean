/-
  Walks: the checks of package auth.
-/
import Derived.Test.YtcaicdjlfgpbfaaWAuth1
namespace Go.Proofs.Ytcaicdjlfgpbfaa
open Go.RowKit Go.Lib Go.Joins
attribute [local go_sem] after_cell
set_option linter.unusedVariables false
set_option linter.unusedSimpArgs false

set_option maxRecDepth 100000 in
set_option maxHeartbeats 3200000 in
theorem listed_any (q : QstR) (L : List Tok) (w : World) (hL : IsSl w 6 q.l (L.map Tok.cells)) (hf : ∀ x ∈ L, x.fits) (hl : L.length ≤ 1000) :
    Calls Try.prog 20 #[.agg #[q.l, q.c, q.t, q.a, .string q.id, .int .i64 q.now]] w fun e w' =>
      e = .returned (.tuple #[.agg #[.int .i64 (decIn L q.id q.now 1).st, .int .i64 (decIn L q.id q.now 1).src, .string (decIn L q.id q.now 1).grp], .bool (foundT L q.id)]) ∧ Below w.heap.size w w' := by
  obtain ⟨W0, hW0, hb0, hg1, hg0, hx0, hx1, hz1⟩ := box2f w #[q.l, q.c, q.t, q.a, .string q.id, .int .i64 q.now] 53 #[.int .i64 0, .int .i64 0, .string ⟨#[]⟩] 35
  have HF := Lib.hid (in_any q L q.l 1 W0 (hL.below hb0) hf hl)
  clear hL hf
  generalize foundT L q.id = ok at *
  generalize decIn L q.id q.now 1 = D at *
  go_enter Try.func20, Try.ntmps20
  go_wp2_with fail
  rw [← hW0]
  clear hW0
  go_wp2_with fail
  refine HF.out.mono ?_
  rintro e w1 ⟨rfl, hb1⟩
  obtain ⟨hc, hz⟩ := bcell hb1
  go_wp2_with fail
  obtain ⟨hx2, hb2⟩ := rowStored hb1 hg1 hx1 rfl [.int .i64 D.st, .int .i64 D.src, .string D.grp] rfl
  have hb3 := hb2 w.heap.size w (by omega) (below_step hb0 hb1)
  generalize hw5 : World.setCell _ _ _ = w5
  rw [show storeRow w1 (w.heap.size + 1) 0 [.int .i64 D.st, .int .i64 D.src, .string D.grp] = w5 from hw5] at hx2 hb3
  have d0 := hx2 0 (by simp)
  have d1 := hx2 1 (by simp)
  have d2 := hx2 2 (by simp)
  exact bodyPost_ret (v := .tuple #[.agg #[.int .i64 D.st, .int .i64 D.src, .string D.grp], .bool ok]) (by simp [results, Try.results20, go_sem, d0, d1, d2]) rfl ⟨rfl, hb3⟩

set_option maxRecDepth 100000 in
set_option maxHeartbeats 3200000 in
theorem cached_any (q : QstR) (L : List Tok) (w : World) (hL : IsSl w 6 q.c (L.map Tok.cells)) (hf : ∀ x ∈ L, x.fits) (hl : L.length ≤ 1000) :
    Calls Try.prog 21 #[.agg #[q.l, q.c, q.t, q.a, .string q.id, .int .i64 q.now]] w fun e w' =>
      e = .returned (.tuple #[.agg #[.int .i64 (decIn L q.id q.now 2).st, .int .i64 (decIn L q.id q.now 2).src, .string (decIn L q.id q.now 2).grp], .bool (foundT L q.id)]) ∧ Below w.heap.size w w' := by
  obtain ⟨W0, hW0, hb0, hg1, hg0, hx0, hx1, hz1⟩ := box2f w #[q.l, q.c, q.t, q.a, .string q.id, .int .i64 q.now] 53 #[.int .i64 0, .int .i64 0, .string ⟨#[]⟩] 35
  have HF := Lib.hid (in_any q L q.c 2 W0 (hL.below hb0) hf hl)
  clear hL hf
  generalize foundT L q.id = ok at *
  generalize decIn L q.id q.now 2 = D at *
  go_enter Try.func21, Try.ntmps21
  go_wp2_with fail
  rw [← hW0]
  clear hW0
  go_wp2_with fail
  refine HF.out.mono ?_
  rintro e w1 ⟨rfl, hb1⟩
  obtain ⟨hc, hz⟩ := bcell hb1
  go_wp2_with fail
  obtain ⟨hx2, hb2⟩ := rowStored hb1 hg1 hx1 rfl [.int .i64 D.st, .int .i64 D.src, .string D.grp] rfl
  have hb3 := hb2 w.heap.size w (by omega) (below_step hb0 hb1)
  generalize hw5 : World.setCell _ _ _ = w5
  rw [show storeRow w1 (w.heap.size + 1) 0 [.int .i64 D.st, .int .i64 D.src, .string D.grp] = w5 from hw5] at hx2 hb3
  have d0 := hx2 0 (by simp)
  have d1 := hx2 1 (by simp)
  have d2 := hx2 2 (by simp)
  exact bodyPost_ret (v := .tuple #[.agg #[.int .i64 D.st, .int .i64 D.src, .string D.grp], .bool ok]) (by simp [results, Try.results21, go_sem, d0, d1, d2]) rfl ⟨rfl, hb3⟩

set_option maxRecDepth 100000 in
set_option maxHeartbeats 3200000 in
theorem offline_any (q : QstR) (w : World) :
    Calls Try.prog 22 #[.agg #[q.l, q.c, q.t, q.a, .string q.id, .int .i64 q.now]] w fun e w' => e = .returned (.tuple #[.agg #[.int .i64 4, .int .i64 4, .string ⟨#[]⟩], .bool true]) ∧ Below w.heap.size w w' := by
  obtain ⟨W9, hW9, hb9, _, _, _, hx9⟩ := box2 w #[q.l, q.c, q.t, q.a, .string q.id, .int .i64 q.now] 53 #[.int .i64 4, .int .i64 4, .string ⟨#[]⟩] 35
  go_enter Try.func22, Try.ntmps22
  go_wp2_with fail
  rw [← hW9]
  clear hW9
  have d0 := hx9 0
  have d1 := hx9 1
  have d2 := hx9 2
  exact bodyPost_ret (v := .tuple #[.agg #[.int .i64 4, .int .i64 4, .string ⟨#[]⟩], .bool true]) (by simp [results, Try.results22, go_sem, d0, d1, d2]) rfl ⟨rfl, hb9⟩

set_option maxRecDepth 100000 in
set_option maxHeartbeats 3200000 in
theorem unknown_any (q : QstR) (w : World) :
    Calls Try.prog 24 #[.agg #[q.l, q.c, q.t, q.a, .string q.id, .int .i64 q.now]] w fun e w' => e = .returned (.tuple #[.agg #[.int .i64 4, .int .i64 3, .string ⟨#[]⟩], .bool true]) ∧ Below w.heap.size w w' := by
  obtain ⟨W9, hW9, hb9, _, _, _, hx9⟩ := box2 w #[q.l, q.c, q.t, q.a, .string q.id, .int .i64 q.now] 53 #[.int .i64 4, .int .i64 3, .string ⟨#[]⟩] 35
  go_enter Try.func24, Try.ntmps24
  go_wp2_with fail
  rw [← hW9]
  clear hW9
  have d0 := hx9 0
  have d1 := hx9 1
  have d2 := hx9 2
  exact bodyPost_ret (v := .tuple #[.agg #[.int .i64 4, .int .i64 3, .string ⟨#[]⟩], .bool true]) (by simp [results, Try.results24, go_sem, d0, d1, d2]) rfl ⟨rfl, hb9⟩

theorem indexNone_any (c : Nat) (fv : Value) (w : World) : Calls Try.prog 55 #[.slice none 0 c, fv] w fun e w' => e = .returned (.int .i64 (-1)) ∧ w = w' := by
  go_enter Try.func55, Try.ntmps55
  go_wp2_with fail
  go_loopw [8] (fun i wr => i = .int .i64 0 ∧ w = wr) (fun _ _ => 0)
  case atStart => exact ⟨rfl, rfl⟩
  case round =>
    obtain ⟨rfl, rfl⟩ := hrel
    go_wp2_with fail
    go_ret
    exact ⟨rfl, rfl⟩
theorem containsNone_any (c : Nat) (fv : Value) (w : World) : Calls Try.prog 48 #[.slice none 0 c, fv] w fun e w' => e = .returned (.bool false) ∧ w = w' := by
  go_enter Try.func48, Try.ntmps48
  go_wp2_with (go_at_call 55; refine (indexNone_any c _ _).mono ?_; rintro e w' ⟨rfl, rfl⟩)
  go_ret
  exact ⟨rfl, rfl⟩
set_option maxRecDepth 100000 in
theorem busyNone_any (q : QstR) (c : Nat) (hq : q.a = .slice none 0 c) (w : World) : Calls Try.prog 32 #[.agg #[q.l, q.c, q.t, q.a, .string q.id, .int .i64 q.now]] w fun e w' => e = .returned (.bool false) ∧ Below w.heap.size w w' := by
  obtain ⟨W0, hW0, hb0, hg0, hx0⟩ := box1 w #[q.l, q.c, q.t, q.a, .string q.id, .int .i64 q.now] 53
  have HC := Lib.hid (fun fv w' => containsNone_any c fv w')
  rw [hq] at hx0 hW0 ⊢
  clear hq
  go_enter Try.func32, Try.ntmps32
  go_wp2_with fail
  rw [← hW0]
  clear hW0
  go_wp2_with (go_at_call 48; refine (HC.out _ _).mono ?_; rintro e w' ⟨rfl, rfl⟩)
  go_ret
  exact ⟨rfl, hb0⟩

set_option maxRecDepth 100000 in
set_option maxHeartbeats 6400000 in
theorem known_any (q : QstR) (L : List Tok) (c : Nat) (w : World) (hL : IsSl w 6 q.t (L.map Tok.cells)) (hf : ∀ x ∈ L, x.fits) (hl : L.length ≤ 1000) (hq : q.a = .slice none 0 c) :
    Calls Try.prog 23 #[.agg #[q.l, q.c, q.t, q.a, .string q.id, .int .i64 q.now]] w fun e w' =>
      e = .returned (.tuple #[.agg #[.int .i64 (decIn L q.id q.now 3).st, .int .i64 (decIn L q.id q.now 3).src, .string (decIn L q.id q.now 3).grp], .bool (foundT L q.id)]) ∧ Below w.heap.size w w' := by
  obtain ⟨W0, hW0, hb0, hg1, hg0, hx0, hx1, hz1⟩ := box2f w #[q.l, q.c, q.t, q.a, .string q.id, .int .i64 q.now] 53 #[.int .i64 0, .int .i64 0, .string ⟨#[]⟩] 35
  have HF := Lib.hid (in_any q L q.t 3 W0 (hL.below hb0) hf hl)
  have HBU := Lib.hid (fun w' => busyNone_any q c hq w')
  clear hL hf hq
  generalize foundT L q.id = ok at *
  generalize decIn L q.id q.now 3 = D at *
  go_enter Try.func23, Try.ntmps23
  go_wp2_with fail
  rw [← hW0]
  clear hW0
  go_wp2_with fail
  refine HF.out.mono ?_
  rintro e w1 ⟨rfl, hb1⟩
  obtain ⟨W1, hW1, hb2, hg2, hx2⟩ := box1 w1 #[.int .i64 D.st, .int .i64 D.src, .string D.grp] 35
  have hb12 := below_step hb1 hb2
  have hx3 : ∀ j, W1.cell? ⟨w.heap.size, j, none⟩ = (#[q.l, q.c, q.t, q.a, .string q.id, .int .i64 q.now] : Array Value)[j]? := fun j => (hb12.cell (p := ⟨w.heap.size, j, none⟩) hg0).trans (hx0 j)
  have hx4 : ∀ j, W1.cell? ⟨w.heap.size + 1, j, none⟩ = (#[.int .i64 0, .int .i64 0, .string ⟨#[]⟩] : Array Value)[j]? := fun j => (hb12.cell (p := ⟨w.heap.size + 1, j, none⟩) hg1).trans (hx1 j)
  have hz4 : ∀ j, W1.frozen? ⟨w.heap.size + 1, j, none⟩ = false := fun j => (hb12.frozen (p := ⟨w.heap.size + 1, j, none⟩) hg1).trans (hz1 j)
  have hgx0 : w.heap.size < W1.heap.size := Nat.lt_of_lt_of_le hg0 hb12.size
  have hgx1 : w.heap.size + 1 < W1.heap.size := Nat.lt_of_lt_of_le hg1 hb12.size
  go_upto_region 2 with fail
  rw [← hW1]
  clear hW1
  cases ok with
  | false =>
    go_wp2_with fail
    obtain ⟨hx6, hb6⟩ := rowStored (hb12) hg1 hx1 rfl [.int .i64 D.st, .int .i64 D.src, .string D.grp] rfl
    have hb7 := hb6 w.heap.size w (by omega) (below_step hb0 (hb12))
    generalize hw5 : World.setCell _ _ _ = w5
    rw [show storeRow W1 (w.heap.size + 1) 0 [.int .i64 D.st, .int .i64 D.src, .string D.grp] = w5 from hw5] at hx6 hb7
    have d0 := hx6 0 (by simp)
    have d1 := hx6 1 (by simp)
    have d2 := hx6 2 (by simp)
    exact bodyPost_ret (v := .tuple #[.agg #[.int .i64 D.st, .int .i64 D.src, .string D.grp], .bool false]) (by simp [results, Try.results23, go_sem, d0, d1, d2]) rfl ⟨rfl, hb7⟩
  | true =>
    cases hsb : (D.st == 1) with
    | true =>
      go_wp2_with fail
      refine (HBU.out _).mono ?_
      rintro e w2 ⟨rfl, hb3⟩
      obtain ⟨hc, hz⟩ := bcell hb3
      go_wp2_with fail
      obtain ⟨hx6, hb6⟩ := rowStored (below_step hb12 hb3) hg1 hx1 rfl [.int .i64 D.st, .int .i64 D.src, .string D.grp] rfl
      have hb7 := hb6 w.heap.size w (by omega) (below_step hb0 (below_step hb12 hb3))
      generalize hw5 : World.setCell _ _ _ = w5
      rw [show storeRow w2 (w.heap.size + 1) 0 [.int .i64 D.st, .int .i64 D.src, .string D.grp] = w5 from hw5] at hx6 hb7
      have d0 := hx6 0 (by simp)
      have d1 := hx6 1 (by simp)
      have d2 := hx6 2 (by simp)
      exact bodyPost_ret (v := .tuple #[.agg #[.int .i64 D.st, .int .i64 D.src, .string D.grp], .bool true]) (by simp [results, Try.results23, go_sem, d0, d1, d2]) rfl ⟨rfl, hb7⟩
    | false =>
      go_wp2_with fail
      obtain ⟨hx6, hb6⟩ := rowStored (hb12) hg1 hx1 rfl [.int .i64 D.st, .int .i64 D.src, .string D.grp] rfl
      have hb7 := hb6 w.heap.size w (by omega) (below_step hb0 (hb12))
      generalize hw5 : World.setCell _ _ _ = w5
      rw [show storeRow W1 (w.heap.size + 1) 0 [.int .i64 D.st, .int .i64 D.src, .string D.grp] = w5 from hw5] at hx6 hb7
      have d0 := hx6 0 (by simp)
      have d1 := hx6 1 (by simp)
      have d2 := hx6 2 (by simp)
      exact bodyPost_ret (v := .tuple #[.agg #[.int .i64 D.st, .int .i64 D.src, .string D.grp], .bool true]) (by simp [results, Try.results23, go_sem, d0, d1, d2]) rfl ⟨rfl, hb7⟩

end Go.Proofs.Ytcaicdjlfgpbfaa
