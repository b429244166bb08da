/-
  Walks: the examples of the chapter.
-/
import Derived.Test.YtpokacnbdojncaaDoorWReserve12
import Derived.Test.YtpokacnbdojncaaDoorBox3
namespace Go.Proofs.YtpokacnbdojncaaDoor
open Go.RowKit Go.Lib Go.Joins
set_option linter.unusedVariables false

theorem exput (l m : List Resv) (r : Resv) (now e : Int) (h1 : putL l r now = m) (h2 : putE l r now = e) (v : Value) (w : World) (hl : l.length ≤ 4096) (hv : IsSl w 5 v (l.map Resv.cells)) (hr : r.ok) :
    Calls Tryd.prog 8 #[v, .agg #[.int .i64 r.id, .int .i64 r.conn, .string r.token, .string r.group, .int .i64 r.expiry], .int .i64 now] w
      fun x w' => ∃ u, x = .returned (.tuple #[u, .int .i64 e]) ∧ IsSl w' 5 u (m.map Resv.cells) ∧ Below w.heap.size w w' := by
  have h := put_any l v r now w hl hv hr
  rw [h1, h2] at h
  exact h

theorem exA_ok : exA.ok := by constructor <;> decide
theorem exB_ok : exB.ok := by constructor <;> decide
theorem exM_ok : exM.ok := by constructor <;> decide
theorem ex2 : putL [] exA 100 = [] := by kernel_rfl
theorem ex3 : putL [exA] exB 0 = [exA] := by kernel_rfl

theorem exmay (conn now : Int) (t : Tok) (b : Bool) (h : mayL [exA] conn t now = b) (A : Option Addr) (c : Nat) (w : World) (hsl : SlAt w 5 A ([exA].map Resv.cells)) (h1 : t.id.size ≤ maxLen) (h2 : t.group.size ≤ maxLen) :
    Calls Tryd.prog 10 #[.slice A 1 c, .int .i64 conn, .agg #[.string t.id, .string t.group, .string t.contract, .int .i64 t.kind, .int .i64 t.status, .int .i64 t.expiry], .int .i64 now] w
      fun e w' => e = .returned (.bool b) ∧ Below w.heap.size w w' := by
  have hx := may_any [exA] A c conn now t w (by decide) hsl h1 h2
  rw [h] at hx
  exact hx

set_option maxHeartbeats 6400000 in
theorem example_any (w : World) : Calls Tryd.prog 7 #[] w fun e w' => e = .returned (.bool true) ∧ Below w.heap.size w w' := by
  obtain ⟨W0, hW0, hb0, hg1, hg0, hbx, hby⟩ := box2 w #[.int .i64 1, .int .i64 2, .string ⟨#[65]⟩, .string ⟨#[103]⟩, .int .i64 100] 24 #[.int .i64 2, .int .i64 2, .string ⟨#[66]⟩, .string ⟨#[]⟩, .int .i64 100] 24
  go_enter Tryd.func7, Tryd.ntmps7
  go_wp2_with fail
  rw [← hW0]
  clear hW0
  refine (exput [] [exA] exA 99 0 ex1 ex1e _ W0 (by decide) (IsSl.nil _ _) exA_ok).mono ?_
  rintro e w1 ⟨l, rfl, hl, hb⟩
  have hbw := hb
  obtain ⟨hc, hf⟩ := bcell hbw
  clear hb
  go_wp2_with fail
  refine (exput [] [] exA 100 12 ex2 ex2e _ _ (by decide) (IsSl.nil _ _) exA_ok).mono ?_
  rintro e w2 ⟨l2, rfl, hl2, hb⟩
  replace hbw := hbw.trans (hb.mono hbw.size)
  replace hl := hl.below hb
  clear hb hc hf
  obtain ⟨hc, hf⟩ := bcell hbw
  go_wp2_with fail
  refine (exput [exA] [exA] exB 0 16 ex3 ex3e _ _ (by decide) hl exB_ok).mono ?_
  rintro e w3 ⟨l3, rfl, hl3, hb⟩
  replace hbw := hbw.trans (hb.mono hbw.size)
  replace hl := hl.below hb
  clear hb hc hf
  obtain ⟨hc, hf⟩ := bcell hbw
  go_wp2_with fail
  obtain ⟨W3, hW3, hb3, hg3, hbz⟩ := box1 w3 #[.int .i64 1, .int .i64 3, .string ⟨#[65]⟩, .string ⟨#[103]⟩, .int .i64 100] 24
  rw [← hW3]
  clear hW3 hc hf
  have hB3 := below_step hbw hb3
  have hx3 : ∀ j, W3.cell? ⟨w.heap.size, j, none⟩ = (#[.int .i64 1, .int .i64 2, .string ⟨#[65]⟩, .string ⟨#[103]⟩, .int .i64 100] : Array Value)[j]? := fun j => (hB3.cell (p := ⟨w.heap.size, j, none⟩) hg0).trans (hbx j)
  have hy3 : ∀ j, W3.cell? ⟨w.heap.size + 1, j, none⟩ = (#[.int .i64 2, .int .i64 2, .string ⟨#[66]⟩, .string ⟨#[]⟩, .int .i64 100] : Array Value)[j]? := fun j => (hB3.cell (p := ⟨w.heap.size + 1, j, none⟩) hg1).trans (hby j)
  have hs0 := hB3.size
  have hs1 : w.heap.size < W3.heap.size := by omega
  have hs2 : w.heap.size + 1 < W3.heap.size := by omega
  replace hl := hl.below hb3
  have hB := below_step hb0 hB3
  clear hbx hby hb0 hbw hB3 hb3 hl2 hl3
  refine (exput [exA] [exM] exM 0 0 ex4 ex4e _ _ (by decide) hl exM_ok).mono ?_
  rintro e w4 ⟨m, rfl, hm, hb⟩
  have hbw := hb
  replace hl := hl.below hb
  obtain ⟨hc, hf⟩ := bcell hbw
  clear hb
  go_wp2_with fail
  refine (exput [exM] [exM, exB] exB 0 0 ex5 ex5e _ _ (by decide) hm exB_ok).mono ?_
  rintro e w5 ⟨m, rfl, hm, hb⟩
  replace hbw := hbw.trans (hb.mono hbw.size)
  replace hl := hl.below hb
  clear hb hc hf
  obtain ⟨hc, hf⟩ := bcell hbw
  go_wp2_with fail
  have hx := cancel_any [exA] l 7 w5 (by decide) hl
  rw [ex6e] at hx
  refine hx.mono ?_
  clear hx
  rintro e w6 ⟨n, rfl, hn, hb⟩
  replace hbw := hbw.trans (hb.mono hbw.size)
  replace hl := hl.below hb
  replace hm := hm.below hb
  clear hb hc hf
  obtain ⟨hc, hf⟩ := bcell hbw
  go_wp2_with fail
  have hx := expire_any [exA] l 99 w6 (by decide) hl
  rw [ex7, ex7l] at hx
  refine hx.mono ?_
  clear hx
  rintro e w7 ⟨y, z, rfl, hy, hz, hb⟩
  replace hbw := hbw.trans (hb.mono hbw.size)
  replace hl := hl.below hb
  replace hm := hm.below hb
  clear hb hc hf
  obtain ⟨hc, hf⟩ := bcell hbw
  have hs7 := hbw.size
  have hs71 : w3.heap.size < w7.heap.size := by omega
  have hs72 : w.heap.size < w7.heap.size := by omega
  have hs73 : w.heap.size + 1 < w7.heap.size := by omega
  obtain ⟨Z, cz, rfl, hzl, hzm, hzs⟩ := islen hz
  go_wp2_with (go_at_call 15; refine stopper ?_)
  unfold Stop
  obtain ⟨W8, hW8, hb8, hg81, hg80, hx8, hy8, hsl8⟩ := box3 w7 #[.int .i64 1, .int .i64 2, .string ⟨#[]⟩, .string ⟨#[103]⟩, .int .i64 100] 24 #[.string ⟨#[99]⟩, .string ⟨#[]⟩, .string ⟨#[]⟩, .int .i64 0, .int .i64 0, .int .i64 0] 26 #[.int .i64 1, .int .i64 3, .string ⟨#[65]⟩, .string ⟨#[103]⟩, .int .i64 100, .int .i64 2, .int .i64 2, .string ⟨#[66]⟩, .string ⟨#[]⟩, .int .i64 100] 24 (enc := Resv.cells) (size := 5) (n := 2) [exM, exB] Resv.cells_len rfl (by decide) rfl
  rw [← hW8]
  clear hW8
  have hB8 := below_step hbw hb8
  have hx9 : ∀ j, W8.cell? ⟨w.heap.size, j, none⟩ = (#[.int .i64 1, .int .i64 2, .string ⟨#[65]⟩, .string ⟨#[103]⟩, .int .i64 100] : Array Value)[j]? := fun j => (hB8.cell (p := ⟨w.heap.size, j, none⟩) hs1).trans (hx3 j)
  replace hl := hl.below hb8
  replace hm := hm.below hb8
  replace hy := hy.below hb8
  replace hB := below_step hB hB8
  have hs80 : w.heap.size < W8.heap.size := by omega
  clear hc hf hbz hx3 hy3 hbw hb8 hB8 hs71 hs72 hs73 hs7 hs0 hs1 hs2 hg3 hn hz hzs
  refine (equal_any [exM, exB] [exM, exB] _ _ W8 (by decide) (by decide) hm hsl8).mono ?_
  rintro e w9 ⟨rfl, hb⟩
  have hbw := drewN_below hb
  rw [eqL_t rfl]
  replace hl := hl.below hbw
  replace hy := hy.below hbw
  obtain ⟨hc, hf⟩ := bcell hbw
  clear hb
  go_wp2_with (go_at_call 15; refine stopper ?_)
  unfold Stop
  refine (equal_any [exA] [exA] _ _ w9 (by decide) (by decide) hy hl).mono ?_
  rintro e w10 ⟨rfl, hb⟩
  replace hb := drewN_below hb
  replace hbw := hbw.trans (hb.mono hbw.size)
  replace hl := hl.below hb
  clear hb hc hf
  rw [eqL_t rfl]
  obtain ⟨hc, hf⟩ := bcell hbw
  go_wp2_with fail
  have hx := rvalid_any exA w10 exA_ok
  rw [ex8] at hx
  refine hx.mono ?_
  clear hx
  rintro e w11 ⟨rfl, hb⟩
  replace hbw := hbw.trans (hb.mono hbw.size)
  replace hl := hl.below hb
  clear hb hc hf
  obtain ⟨hc, hf⟩ := bcell hbw
  go_wp2_with fail
  have hx := rvalid_any exBad w11 (by constructor <;> decide)
  rw [ex8b] at hx
  refine hx.mono ?_
  clear hx
  rintro e w12 ⟨rfl, hb⟩
  replace hbw := hbw.trans (hb.mono hbw.size)
  replace hl := hl.below hb
  clear hb hc hf
  obtain ⟨hc, hf⟩ := bcell hbw
  obtain ⟨A, c, rfl, hlc, hcm, hsl⟩ := islen hl
  clear hl
  go_wp2_with fail
  refine (exmay 2 50 ⟨⟨#[97]⟩, ⟨#[]⟩, ⟨#[]⟩, 0, 0, 0⟩ true (by decide +kernel) A c _ hsl (by decide) (by decide)).mono ?_
  rintro e w13 ⟨rfl, hb⟩
  replace hbw := hbw.trans (hb.mono hbw.size)
  replace hsl := hsl.below hb
  clear hb hc hf
  obtain ⟨hc, hf⟩ := bcell hbw
  go_wp2_with fail
  refine (exmay 2 50 ⟨⟨#[98]⟩, ⟨#[71]⟩, ⟨#[]⟩, 0, 0, 0⟩ true (by decide +kernel) A c _ hsl (by decide) (by decide)).mono ?_
  rintro e w14 ⟨rfl, hb⟩
  replace hbw := hbw.trans (hb.mono hbw.size)
  replace hsl := hsl.below hb
  clear hb hc hf
  obtain ⟨hc, hf⟩ := bcell hbw
  go_wp2_with fail
  refine (exmay 2 99 ⟨⟨#[99]⟩, ⟨#[]⟩, ⟨#[]⟩, 0, 0, 0⟩ false (by decide +kernel) A c _ hsl (by decide) (by decide)).mono ?_
  rintro e w15 ⟨rfl, hb⟩
  replace hbw := hbw.trans (hb.mono hbw.size)
  replace hsl := hsl.below hb
  clear hb hc hf
  obtain ⟨hc, hf⟩ := bcell hbw
  go_wp2_with fail
  refine (exmay 2 100 ⟨⟨#[99]⟩, ⟨#[]⟩, ⟨#[]⟩, 0, 0, 0⟩ true (by decide +kernel) A c _ hsl (by decide) (by decide)).mono ?_
  rintro e w16 ⟨rfl, hb⟩
  replace hbw := hbw.trans (hb.mono hbw.size)
  replace hsl := hsl.below hb
  clear hb hc hf
  obtain ⟨hc, hf⟩ := bcell hbw
  go_wp2_with fail
  refine (exmay 1 50 ⟨⟨#[99]⟩, ⟨#[]⟩, ⟨#[]⟩, 0, 0, 0⟩ true (by decide +kernel) A c _ hsl (by decide) (by decide)).mono ?_
  rintro e w17 ⟨rfl, hb⟩
  replace hbw := hbw.trans (hb.mono hbw.size)
  replace hsl := hsl.below hb
  clear hb hc hf
  obtain ⟨hc, hf⟩ := bcell hbw
  go_wp2_with fail
  go_ret
  exact ⟨rfl, below_step hB hbw⟩

end Go.Proofs.YtpokacnbdojncaaDoor
