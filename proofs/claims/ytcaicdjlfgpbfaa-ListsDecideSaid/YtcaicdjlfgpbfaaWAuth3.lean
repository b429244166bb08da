/-
  Walks: decide, Local and Central of package auth.
-/
import Derived.Test.YtcaicdjlfgpbfaaWAuth2
namespace Go.Proofs.Ytcaicdjlfgpbfaa
open Go.RowKit Go.Lib Go.Joins
attribute [local go_sem] after_cell
set_option linter.unusedVariables false
set_option linter.unusedSimpArgs false

def decL (L : List Tok) (id : ByteArray) (now : Int) : DecR := if foundT L id = true then decIn L id now 1 else ⟨4, 4, ⟨#[]⟩⟩
def decC (L : List Tok) (id : ByteArray) (now : Int) : DecR := if foundT L id = true then decIn L id now 3 else ⟨4, 3, ⟨#[]⟩⟩
theorem found_nil (id : ByteArray) : foundT [] id = false := rfl

set_option maxRecDepth 100000 in
set_option maxHeartbeats 6400000 in
theorem decideL_any (q : QstR) (L : List Tok) (b cc : Nat) (w : World) (hbw : b < w.heap.size) (c0 : w.cell? ⟨b, 0, none⟩ = some (.func (.func 20) #[.agg #[q.l, q.c, q.t, q.a, .string q.id, .int .i64 q.now]] #[])) (c1 : w.cell? ⟨b, 1, none⟩ = some (.func (.func 21) #[.agg #[q.l, q.c, q.t, q.a, .string q.id, .int .i64 q.now]] #[])) (c2 : w.cell? ⟨b, 2, none⟩ = some (.func (.func 22) #[.agg #[q.l, q.c, q.t, q.a, .string q.id, .int .i64 q.now]] #[]))
    (hL : IsSl w 6 q.l (L.map Tok.cells)) (hq : q.c = .slice none 0 0)
    (hf : ∀ x ∈ L, x.fits) (hl : L.length ≤ 1000) :
    Calls Try.prog 19 #[.slice (some ⟨b, 0, none⟩) 3 cc] w fun e w' => e = .returned (.agg #[.int .i64 (decL L q.id q.now).st, .int .i64 (decL L q.id q.now).src, .string (decL L q.id q.now).grp]) ∧ Below w.heap.size w w' := by
  obtain ⟨W0, hW0, hb0, hg0, hx0, hz0⟩ := box1f w #[.int .i64 0, .int .i64 0, .string ⟨#[]⟩] 35
  have hbb : b < W0.heap.size := Nat.lt_of_lt_of_le hbw hb0.size
  have k0 := (hb0.cell (p := ⟨b, 0, none⟩) hbw).trans c0
  have k1 := (hb0.cell (p := ⟨b, 1, none⟩) hbw).trans c1
  have k2 := (hb0.cell (p := ⟨b, 2, none⟩) hbw).trans c2
  have H0 := Lib.hid (fun w' (hb : Below W0.heap.size W0 w') => listed_any q L w' ((hL.below hb0).below hb) hf hl)
  have H1 := Lib.hid (fun w' (hb : Below W0.heap.size W0 w') => cached_any q [] w' (by rw [hq]; exact IsSl.nil _ _) (fun x hx => by simp at hx) (by simp))
  rw [found_nil] at H1
  have H2 := Lib.hid (fun w' (hb : Below W0.heap.size W0 w') => offline_any q w')
  clear hL hf hl hq
  clear c0 c1 c2
  cases hfd : foundT L q.id with
  | true =>
    rw [hfd] at H0
    unfold decL
    rw [if_pos hfd]
    generalize decIn L q.id q.now 1 = D at *
    go_enter Try.func19, Try.ntmps19
    go_wp2_with fail
    rw [← hW0]
    clear hW0
    go_wp2_with fail
    go_loopw [9] (fun i wr => i = .int .i64 0 ∧ Below W0.heap.size W0 wr) (fun _ _ => 0)
    case atStart => exact ⟨rfl, Below.refl _ _⟩
    case round =>
      obtain ⟨rfl, hbx⟩ := hrel
      obtain ⟨hc, hz⟩ := bcell hbx
      have hgx : w.heap.size < wr.heap.size := Nat.lt_of_lt_of_le hg0 hbx.size
      have e0 : wr.cell? ⟨b, 0, none⟩ = _ := (hc b 0 hbb).trans k0
      go_wp2_with fail
      refine (H0.out _ hbx).mono ?_
      rintro e w1 ⟨rfl, hb1⟩
      have hgx1 : w.heap.size < w1.heap.size := Nat.lt_of_lt_of_le hgx hb1.size
      obtain ⟨hc1, hz1⟩ := bcell (below_step hbx hb1)
      go_wp2_with fail
      obtain ⟨hx2, hb2⟩ := rowStored (below_step hbx hb1) hg0 hx0 rfl [.int .i64 D.st, .int .i64 D.src, .string D.grp] rfl
      have hb3 := hb2 w.heap.size w (by omega) (below_step hb0 (below_step hbx hb1))
      have hsz : w.heap.size < (storeRow w1 w.heap.size 0 [.int .i64 D.st, .int .i64 D.src, .string D.grp]).heap.size := by rw [storeRow_size]; exact hgx1
      generalize hw5 : World.setCell _ _ _ = w5
      rw [show storeRow w1 w.heap.size 0 [.int .i64 D.st, .int .i64 D.src, .string D.grp] = w5 from hw5] at hx2 hb3 hsz
      have hbA := below_alloc (Below.refl w5.heap.size w5) (.cells #[.int .i64 D.st, .int .i64 D.src, .string D.grp] 35)
      have d0 := (hbA.cell (p := ⟨w.heap.size, 0, none⟩) hsz).trans (hx2 0 (by simp))
      have d1 := (hbA.cell (p := ⟨w.heap.size, 1, none⟩) hsz).trans (hx2 1 (by simp))
      have d2 := (hbA.cell (p := ⟨w.heap.size, 2, none⟩) hsz).trans (hx2 2 (by simp))
      have hb6 := below_step hb3 hbA
      generalize w5.alloc (.cells #[.int .i64 D.st, .int .i64 D.src, .string D.grp] 35) = w6 at *
      exact bodyPost_ret (v := .agg #[.int .i64 D.st, .int .i64 D.src, .string D.grp]) (by simp [results, Try.results19, go_sem, d0, d1, d2]) rfl ⟨rfl, hb6⟩
  | false =>
    rw [hfd] at H0
    unfold decL
    rw [if_neg (by rw [hfd]; simp)]
    generalize decIn L q.id q.now 1 = D at *
    go_enter Try.func19, Try.ntmps19
    go_wp2_with fail
    rw [← hW0]
    clear hW0
    go_wp2_with fail
    go_loopw [9] (fun i wr => ∃ k : Nat, k ≤ 2 ∧ i = .int .i64 k ∧ Below W0.heap.size W0 wr) (fun i _ => 2 - (intOf i).toNat)
    case atStart => exact ⟨0, by omega, rfl, Below.refl _ _⟩
    case round =>
      obtain ⟨k, hk, rfl, hbx⟩ := hrel
      obtain ⟨hc, hz⟩ := bcell hbx
      have hgx : w.heap.size < wr.heap.size := Nat.lt_of_lt_of_le hg0 hbx.size
      have e0 : wr.cell? ⟨b, 0, none⟩ = _ := (hc b 0 hbb).trans k0
      have e1 : wr.cell? ⟨b, 1, none⟩ = _ := (hc b 1 hbb).trans k1
      have e2 : wr.cell? ⟨b, 2, none⟩ = _ := (hc b 2 hbb).trans k2
      rcases (by omega : k = 0 ∨ k = 1 ∨ k = 2) with rfl | rfl | rfl
      · skip
        go_wp2_with fail
        refine (H0.out _ hbx).mono ?_
        rintro e w1 ⟨rfl, hb1⟩
        have hgx1 : w.heap.size < w1.heap.size := Nat.lt_of_lt_of_le hgx hb1.size
        obtain ⟨hc1, hz1⟩ := bcell (below_step hbx hb1)
        go_wp2_with fail
        go_roundw
        case measure => simp [intOf]
        case rel => exact ⟨1, by omega, by go_num, by repeat (first | exact below_step hbx hb1 | refine below_alloc ?_ _)⟩
      · skip
        go_wp2_with fail
        refine (H1.out _ hbx).mono ?_
        rintro e w1 ⟨rfl, hb1⟩
        have hgx1 : w.heap.size < w1.heap.size := Nat.lt_of_lt_of_le hgx hb1.size
        obtain ⟨hc1, hz1⟩ := bcell (below_step hbx hb1)
        go_wp2_with fail
        go_roundw
        case measure => simp [intOf]
        case rel => exact ⟨2, by omega, by go_num, by repeat (first | exact below_step hbx hb1 | refine below_alloc ?_ _)⟩
      · skip
        go_wp2_with fail
        refine (H2.out _ hbx).mono ?_
        rintro e w1 ⟨rfl, hb1⟩
        have hgx1 : w.heap.size < w1.heap.size := Nat.lt_of_lt_of_le hgx hb1.size
        obtain ⟨hc1, hz1⟩ := bcell (below_step hbx hb1)
        go_wp2_with fail
        obtain ⟨hx2, hb2⟩ := rowStored (below_step hbx hb1) hg0 hx0 rfl [.int .i64 4, .int .i64 4, .string ⟨#[]⟩] rfl
        have hb3 := hb2 w.heap.size w (by omega) (below_step hb0 (below_step hbx hb1))
        have hsz : w.heap.size < (storeRow w1 w.heap.size 0 [.int .i64 4, .int .i64 4, .string ⟨#[]⟩]).heap.size := by rw [storeRow_size]; exact hgx1
        generalize hw5 : World.setCell _ _ _ = w5
        rw [show storeRow w1 w.heap.size 0 [.int .i64 4, .int .i64 4, .string ⟨#[]⟩] = w5 from hw5] at hx2 hb3 hsz
        have hbA := below_alloc (Below.refl w5.heap.size w5) (.cells #[.int .i64 4, .int .i64 4, .string ⟨#[]⟩] 35)
        have d0 := (hbA.cell (p := ⟨w.heap.size, 0, none⟩) hsz).trans (hx2 0 (by simp))
        have d1 := (hbA.cell (p := ⟨w.heap.size, 1, none⟩) hsz).trans (hx2 1 (by simp))
        have d2 := (hbA.cell (p := ⟨w.heap.size, 2, none⟩) hsz).trans (hx2 2 (by simp))
        have hb6 := below_step hb3 hbA
        generalize w5.alloc (.cells #[.int .i64 4, .int .i64 4, .string ⟨#[]⟩] 35) = w6 at *
        exact bodyPost_ret (v := .agg #[.int .i64 4, .int .i64 4, .string ⟨#[]⟩]) (by simp [results, Try.results19, go_sem, d0, d1, d2]) rfl ⟨rfl, hb6⟩

set_option maxRecDepth 100000 in
set_option maxHeartbeats 6400000 in
theorem decideC_any (q : QstR) (L : List Tok) (b cc : Nat) (w : World) (hbw : b < w.heap.size) (c0 : w.cell? ⟨b, 0, none⟩ = some (.func (.func 23) #[.agg #[q.l, q.c, q.t, q.a, .string q.id, .int .i64 q.now]] #[])) (c1 : w.cell? ⟨b, 1, none⟩ = some (.func (.func 24) #[.agg #[q.l, q.c, q.t, q.a, .string q.id, .int .i64 q.now]] #[]))
    (ca : Nat) (hL : IsSl w 6 q.t (L.map Tok.cells)) (hq : q.a = .slice none 0 ca)
    (hf : ∀ x ∈ L, x.fits) (hl : L.length ≤ 1000) :
    Calls Try.prog 19 #[.slice (some ⟨b, 0, none⟩) 2 cc] w fun e w' => e = .returned (.agg #[.int .i64 (decC L q.id q.now).st, .int .i64 (decC L q.id q.now).src, .string (decC L q.id q.now).grp]) ∧ Below w.heap.size w w' := by
  obtain ⟨W0, hW0, hb0, hg0, hx0, hz0⟩ := box1f w #[.int .i64 0, .int .i64 0, .string ⟨#[]⟩] 35
  have hbb : b < W0.heap.size := Nat.lt_of_lt_of_le hbw hb0.size
  have k0 := (hb0.cell (p := ⟨b, 0, none⟩) hbw).trans c0
  have k1 := (hb0.cell (p := ⟨b, 1, none⟩) hbw).trans c1
  have H0 := Lib.hid (fun w' (hb : Below W0.heap.size W0 w') => known_any q L ca w' ((hL.below hb0).below hb) hf hl hq)
  have H1 := Lib.hid (fun w' (hb : Below W0.heap.size W0 w') => unknown_any q w')
  clear hL hf hl hq
  clear c0 c1
  cases hfd : foundT L q.id with
  | true =>
    rw [hfd] at H0
    unfold decC
    rw [if_pos hfd]
    generalize decIn L q.id q.now 3 = D at *
    go_enter Try.func19, Try.ntmps19
    go_wp2_with fail
    rw [← hW0]
    clear hW0
    go_wp2_with fail
    go_loopw [9] (fun i wr => i = .int .i64 0 ∧ Below W0.heap.size W0 wr) (fun _ _ => 0)
    case atStart => exact ⟨rfl, Below.refl _ _⟩
    case round =>
      obtain ⟨rfl, hbx⟩ := hrel
      obtain ⟨hc, hz⟩ := bcell hbx
      have hgx : w.heap.size < wr.heap.size := Nat.lt_of_lt_of_le hg0 hbx.size
      have e0 : wr.cell? ⟨b, 0, none⟩ = _ := (hc b 0 hbb).trans k0
      go_wp2_with fail
      refine (H0.out _ hbx).mono ?_
      rintro e w1 ⟨rfl, hb1⟩
      have hgx1 : w.heap.size < w1.heap.size := Nat.lt_of_lt_of_le hgx hb1.size
      obtain ⟨hc1, hz1⟩ := bcell (below_step hbx hb1)
      go_wp2_with fail
      obtain ⟨hx2, hb2⟩ := rowStored (below_step hbx hb1) hg0 hx0 rfl [.int .i64 D.st, .int .i64 D.src, .string D.grp] rfl
      have hb3 := hb2 w.heap.size w (by omega) (below_step hb0 (below_step hbx hb1))
      have hsz : w.heap.size < (storeRow w1 w.heap.size 0 [.int .i64 D.st, .int .i64 D.src, .string D.grp]).heap.size := by rw [storeRow_size]; exact hgx1
      generalize hw5 : World.setCell _ _ _ = w5
      rw [show storeRow w1 w.heap.size 0 [.int .i64 D.st, .int .i64 D.src, .string D.grp] = w5 from hw5] at hx2 hb3 hsz
      have hbA := below_alloc (Below.refl w5.heap.size w5) (.cells #[.int .i64 D.st, .int .i64 D.src, .string D.grp] 35)
      have d0 := (hbA.cell (p := ⟨w.heap.size, 0, none⟩) hsz).trans (hx2 0 (by simp))
      have d1 := (hbA.cell (p := ⟨w.heap.size, 1, none⟩) hsz).trans (hx2 1 (by simp))
      have d2 := (hbA.cell (p := ⟨w.heap.size, 2, none⟩) hsz).trans (hx2 2 (by simp))
      have hb6 := below_step hb3 hbA
      generalize w5.alloc (.cells #[.int .i64 D.st, .int .i64 D.src, .string D.grp] 35) = w6 at *
      exact bodyPost_ret (v := .agg #[.int .i64 D.st, .int .i64 D.src, .string D.grp]) (by simp [results, Try.results19, go_sem, d0, d1, d2]) rfl ⟨rfl, hb6⟩
  | false =>
    rw [hfd] at H0
    unfold decC
    rw [if_neg (by rw [hfd]; simp)]
    generalize decIn L q.id q.now 3 = D at *
    go_enter Try.func19, Try.ntmps19
    go_wp2_with fail
    rw [← hW0]
    clear hW0
    go_wp2_with fail
    go_loopw [9] (fun i wr => ∃ k : Nat, k ≤ 1 ∧ i = .int .i64 k ∧ Below W0.heap.size W0 wr) (fun i _ => 1 - (intOf i).toNat)
    case atStart => exact ⟨0, by omega, rfl, Below.refl _ _⟩
    case round =>
      obtain ⟨k, hk, rfl, hbx⟩ := hrel
      obtain ⟨hc, hz⟩ := bcell hbx
      have hgx : w.heap.size < wr.heap.size := Nat.lt_of_lt_of_le hg0 hbx.size
      have e0 : wr.cell? ⟨b, 0, none⟩ = _ := (hc b 0 hbb).trans k0
      have e1 : wr.cell? ⟨b, 1, none⟩ = _ := (hc b 1 hbb).trans k1
      rcases (by omega : k = 0 ∨ k = 1) with rfl | rfl
      · skip
        go_wp2_with fail
        refine (H0.out _ hbx).mono ?_
        rintro e w1 ⟨rfl, hb1⟩
        have hgx1 : w.heap.size < w1.heap.size := Nat.lt_of_lt_of_le hgx hb1.size
        obtain ⟨hc1, hz1⟩ := bcell (below_step hbx hb1)
        go_wp2_with fail
        go_roundw
        case measure => simp [intOf]
        case rel => exact ⟨1, by omega, by go_num, by repeat (first | exact below_step hbx hb1 | refine below_alloc ?_ _)⟩
      · skip
        go_wp2_with fail
        refine (H1.out _ hbx).mono ?_
        rintro e w1 ⟨rfl, hb1⟩
        have hgx1 : w.heap.size < w1.heap.size := Nat.lt_of_lt_of_le hgx hb1.size
        obtain ⟨hc1, hz1⟩ := bcell (below_step hbx hb1)
        go_wp2_with fail
        obtain ⟨hx2, hb2⟩ := rowStored (below_step hbx hb1) hg0 hx0 rfl [.int .i64 4, .int .i64 3, .string ⟨#[]⟩] rfl
        have hb3 := hb2 w.heap.size w (by omega) (below_step hb0 (below_step hbx hb1))
        have hsz : w.heap.size < (storeRow w1 w.heap.size 0 [.int .i64 4, .int .i64 3, .string ⟨#[]⟩]).heap.size := by rw [storeRow_size]; exact hgx1
        generalize hw5 : World.setCell _ _ _ = w5
        rw [show storeRow w1 w.heap.size 0 [.int .i64 4, .int .i64 3, .string ⟨#[]⟩] = w5 from hw5] at hx2 hb3 hsz
        have hbA := below_alloc (Below.refl w5.heap.size w5) (.cells #[.int .i64 4, .int .i64 3, .string ⟨#[]⟩] 35)
        have d0 := (hbA.cell (p := ⟨w.heap.size, 0, none⟩) hsz).trans (hx2 0 (by simp))
        have d1 := (hbA.cell (p := ⟨w.heap.size, 1, none⟩) hsz).trans (hx2 1 (by simp))
        have d2 := (hbA.cell (p := ⟨w.heap.size, 2, none⟩) hsz).trans (hx2 2 (by simp))
        have hb6 := below_step hb3 hbA
        generalize w5.alloc (.cells #[.int .i64 4, .int .i64 3, .string ⟨#[]⟩] 35) = w6 at *
        exact bodyPost_ret (v := .agg #[.int .i64 4, .int .i64 3, .string ⟨#[]⟩]) (by simp [results, Try.results19, go_sem, d0, d1, d2]) rfl ⟨rfl, hb6⟩

end Go.Proofs.Ytcaicdjlfgpbfaa
