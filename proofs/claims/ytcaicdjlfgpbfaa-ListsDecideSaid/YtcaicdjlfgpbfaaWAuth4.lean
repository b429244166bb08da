/-
  Walks: Local and Central of package auth.
-/
import Derived.Test.YtcaicdjlfgpbfaaWAuth3
namespace Go.Proofs.Ytcaicdjlfgpbfaa
open Go.RowKit Go.Lib Go.Joins
attribute [local go_sem] after_cell
set_option linter.unusedVariables false
set_option linter.unusedSimpArgs false

set_option maxRecDepth 100000 in
set_option maxHeartbeats 6400000 in
theorem local_any (L : List Tok) (v now : Int) (u : Value) (id : ByteArray) (w : World) (hL : IsSl w 6 u (L.map Tok.cells)) (hf : ∀ x ∈ L, x.fits) (hl : L.length ≤ 1000) :
    Calls Try.prog 8 #[.agg #[.int .i64 v, u], .slice none 0 0, .string id, .int .i64 now] w fun e w' => e = .returned (.agg #[.int .i64 (decL L id now).st, .int .i64 (decL L id now).src, .string (decL L id now).grp]) ∧ Below w.heap.size w w' := by
  obtain ⟨A, c, rfl, _, _, _⟩ := islen' hL
  obtain ⟨W0, hW0, hb0, hg1, hg0, hx0, hx1, hz1⟩ := box2f w #[.int .i64 v, .slice A L.length c] 29 #[.int .i64 0, .int .i64 0, .string ⟨#[]⟩] 35
  obtain ⟨W1, hW1, hb1, hg2, hx2⟩ := box1 W0 #[.slice A L.length c, .slice none 0 0, .slice none 0 0, .slice none 0 0, .string id, .int .i64 now] 53
  obtain ⟨W2, hW2, hb2, hg3, hx3⟩ := box1 W1 #[.func (.func 20) #[.agg #[.slice A L.length c, .slice none 0 0, .slice none 0 0, .slice none 0 0, .string id, .int .i64 now]] #[], .func (.func 21) #[.agg #[.slice A L.length c, .slice none 0 0, .slice none 0 0, .slice none 0 0, .string id, .int .i64 now]] #[], .func (.func 22) #[.agg #[.slice A L.length c, .slice none 0 0, .slice none 0 0, .slice none 0 0, .string id, .int .i64 now]] #[]] 55
  have hb02 := below_step hb1 hb2
  have hs1 : W1.heap.size = w.heap.size + 1 + 1 + 1 := by rw [hW1, hW0]; simp
  have hd := (decideL_any ⟨.slice A L.length c, .slice none 0 0, .slice none 0 0, .slice none 0 0, id, now⟩ L W1.heap.size 3 W2 hg3 (hx3 0) (hx3 1) (hx3 2) ((hL.below hb0).below hb02) rfl hf hl)
  rw [hs1] at hd
  obtain ⟨D, HDD⟩ : ∃ D, Hid (decL L id now = D) := ⟨_, rfl⟩
  rw [show decL L id now = D from HDD.out] at hd
  have HD2 := Lib.hid hd
  clear hL hf hd hs1
  go_enter Try.func8, Try.ntmps8
  go_wp2_with fail
  rw [← hW0]
  clear hW0
  go_upto_region 2 with fail
  rw [← hW1]
  clear hW1
  go_wp2_with fail
  rw [← hW2]
  clear hW2
  refine HD2.out.mono ?_
  rintro e w3 ⟨rfl, hb3⟩
  have hb03 := below_step hb02 hb3
  obtain ⟨hc, hz⟩ := bcell hb03
  go_wp2_with fail
  obtain ⟨hx6, hb6⟩ := rowStored hb03 hg1 hx1 rfl [.int .i64 D.st, .int .i64 D.src, .string D.grp] rfl
  have hb7 := hb6 w.heap.size w (by omega) (below_step hb0 hb03)
  generalize hw5 : World.setCell _ _ _ = w5
  rw [show storeRow w3 (w.heap.size + 1) 0 [.int .i64 D.st, .int .i64 D.src, .string D.grp] = w5 from hw5] at hx6 hb7
  have d0 := hx6 0 (by simp)
  have d1 := hx6 1 (by simp)
  have d2 := hx6 2 (by simp)
  exact bodyPost_ret (v := .agg #[.int .i64 D.st, .int .i64 D.src, .string D.grp]) (by simp [results, Try.results8, go_sem, d0, d1, d2]) rfl ⟨by rw [HDD.out], hb7⟩

set_option maxRecDepth 100000 in
set_option maxHeartbeats 6400000 in
theorem central_any (L : List Tok) (now : Int) (u : Value) (id : ByteArray) (w : World) (hL : IsSl w 6 u (L.map Tok.cells)) (hf : ∀ x ∈ L, x.fits) (hl : L.length ≤ 1000) :
    Calls Try.prog 9 #[u, .string id, .slice none 0 0, .int .i64 now] w fun e w' => e = .returned (.agg #[.int .i64 (decC L id now).st, .int .i64 (decC L id now).src, .string (decC L id now).grp]) ∧ Below w.heap.size w w' := by
  obtain ⟨A, c, rfl, _, _, _⟩ := islen' hL
  obtain ⟨W0, hW0, hb0, hg0, hx0, hz0⟩ := box1f w #[.int .i64 0, .int .i64 0, .string ⟨#[]⟩] 35
  obtain ⟨W1, hW1, hb1, hg2, hx2⟩ := box1 W0 #[.slice none 0 0, .slice none 0 0, .slice A L.length c, .slice none 0 0, .string id, .int .i64 now] 53
  obtain ⟨W2, hW2, hb2, hg3, hx3⟩ := box1 W1 #[.func (.func 23) #[.agg #[.slice none 0 0, .slice none 0 0, .slice A L.length c, .slice none 0 0, .string id, .int .i64 now]] #[], .func (.func 24) #[.agg #[.slice none 0 0, .slice none 0 0, .slice A L.length c, .slice none 0 0, .string id, .int .i64 now]] #[]] 55
  have hb02 := below_step hb1 hb2
  have hs1 : W1.heap.size = w.heap.size + 1 + 1 := by rw [hW1, hW0]; simp
  have hd := (decideC_any ⟨.slice none 0 0, .slice none 0 0, .slice A L.length c, .slice none 0 0, id, now⟩ L W1.heap.size 2 W2 hg3 (hx3 0) (hx3 1) 0 ((hL.below hb0).below hb02) rfl hf hl)
  rw [hs1] at hd
  obtain ⟨D, HDD⟩ : ∃ D, Hid (decC L id now = D) := ⟨_, rfl⟩
  rw [show decC L id now = D from HDD.out] at hd
  have HD2 := Lib.hid hd
  clear hL hf hd hs1
  go_enter Try.func9, Try.ntmps9
  go_wp2_with fail
  rw [← hW0]
  clear hW0
  go_upto_region 2 with fail
  rw [← hW1]
  clear hW1
  go_wp2_with fail
  rw [← hW2]
  clear hW2
  refine HD2.out.mono ?_
  rintro e w3 ⟨rfl, hb3⟩
  have hb03 := below_step hb02 hb3
  obtain ⟨hc, hz⟩ := bcell hb03
  go_wp2_with fail
  obtain ⟨hx6, hb6⟩ := rowStored hb03 hg0 hx0 rfl [.int .i64 D.st, .int .i64 D.src, .string D.grp] rfl
  have hb7 := hb6 w.heap.size w (by omega) (below_step hb0 hb03)
  generalize hw5 : World.setCell _ _ _ = w5
  rw [show storeRow w3 w.heap.size 0 [.int .i64 D.st, .int .i64 D.src, .string D.grp] = w5 from hw5] at hx6 hb7
  have d0 := hx6 0 (by simp)
  have d1 := hx6 1 (by simp)
  have d2 := hx6 2 (by simp)
  exact bodyPost_ret (v := .agg #[.int .i64 D.st, .int .i64 D.src, .string D.grp]) (by simp [results, Try.results9, go_sem, d0, d1, d2]) rfl ⟨by rw [HDD.out], hb7⟩

end Go.Proofs.Ytcaicdjlfgpbfaa
