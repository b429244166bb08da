/-
  Walks: the laws ReserveValid, ReserveMay, ReserveOne.
-/
import Derived.Test.YtpokacnbdojncaaWReserve13
import Derived.Test.YtpokacnbdojncaaWReserve14
import Derived.Test.YtpokacnbdojncaaWReserve5
namespace Go.Proofs.Ytpokacnbdojncaa
open Go.RowKit Go.Lib Go.Joins
set_option linter.unusedVariables false

set_option maxHeartbeats 1600000 in
theorem lawValid (r : Resv) (w : World) (h1 : r.token.size ≤ maxLen) (h2 : r.group.size ≤ maxLen) :
    Calls Try.prog 3 #[.agg #[.int .i64 r.id, .int .i64 r.conn, .string r.token, .string r.group, .int .i64 r.expiry]] w fun e w' => e = .returned (.bool true) ∧ Below w.heap.size w w' := by
  obtain ⟨W0, hW0, hb0, hgl, hbx⟩ := box1 w #[.int .i64 r.id, .int .i64 r.conn, .string r.token, .string r.group, .int .i64 r.expiry] 23
  cases hq : longB r with
  | true =>
    go_enter Try.func3, Try.ntmps3
    go_wp2_with fail
    rw [← hW0]
    clear hW0
    refine (long_any r _ h1 h2).mono ?_
    rintro e w1 ⟨rfl, hb⟩
    rw [hq]
    go_wp2_with fail
    refine (example_any _).mono ?_
    rintro e w2 ⟨rfl, hb2⟩
    go_wp2_with fail
    go_ret
    exact ⟨rfl, below_step hb0 (below_step hb hb2)⟩
  | false =>
    have hr := (long_iff r).1 hq
    go_enter Try.func3, Try.ntmps3
    go_wp2_with fail
    rw [← hW0]
    clear hW0
    refine (long_any r _ h1 h2).mono ?_
    rintro e w1 ⟨rfl, hbw⟩
    rw [hq]
    obtain ⟨hc, hf⟩ := bcell hbw
    have hq1 : (validR r == validR r) = true := by simp
    go_wp2_with fail
    go_region_held3 (fun w' => (∀ b o, b < W0.heap.size → w'.cell? ⟨b, o, none⟩ = W0.cell? ⟨b, o, none⟩) ∧ Below W0.heap.size W0 w') (first | exact ⟨(bcell (W := W0) (by assumption)).1, by assumption⟩ | exact ⟨(bcell (W := W0) (Below.drew (by assumption))).1, Below.drew (by assumption)⟩) ((first | (go_at_call 10; refine (rvalid_any r _ hr).mono ?_; rintro e w' ⟨rfl, hb⟩; have hbw' := below_step (w := W0) (And.right (by assumption)) hb; clear hb) | (go_at_call 11; refine (refRvalid_any r _ hr).mono ?_; rintro e w' ⟨rfl, hb⟩; have hbw' := below_step (w := W0) (And.right (by assumption)) hb; clear hb) | (go_at_call 9; refine (example_any _).mono ?_; rintro e w' ⟨rfl, hb⟩; have hbw' := below_step (w := W0) (And.right (by assumption)) hb; clear hb)))
    all_goals (rename_i hh; obtain ⟨hc', hbw'⟩ := hh)
    all_goals go_wp2
    all_goals go_ret
    all_goals exact ⟨rfl, below_step hb0 hbw'⟩

theorem held_len (L : List Resv) (now : Int) : (heldL L now).length + (lostL L now).length = L.length := by
  unfold heldL lostL
  induction L with
  | nil => rfl
  | cons r l ih => cases h : decide (now < r.expiry) <;> simp [h] <;> omega

theorem may_from (W : World) (l : List Resv) (v : Value) (conn now : Int) (t : Tok) (w : World) (hl : l.length ≤ 4096) (hv : IsSl W 5 v (l.map Resv.cells)) (h1 : t.id.size ≤ maxLen) (h2 : t.group.size ≤ maxLen) (hS : (∀ b o, b < W.heap.size → w.cell? ⟨b, o, none⟩ = W.cell? ⟨b, o, none⟩) ∧ Below W.heap.size W w) :
    Calls Try.prog 22 #[v, .int .i64 conn, .agg #[.string t.id, .string t.group, .string t.contract, .int .i64 t.kind, .int .i64 t.status, .int .i64 t.expiry], .int .i64 now] w
      fun e w' => e = .returned (.bool (mayL l conn t now)) ∧ Below w.heap.size w w' := by
  obtain ⟨A, c, rfl, hlc, hcm, hsl⟩ := islen (hv.below hS.2)
  exact may_any l A c conn now t w (by unfold maxLen; omega) hsl h1 h2
theorem refMay_from (W : World) (l : List Resv) (v : Value) (conn now : Int) (t : Tok) (w : World) (hl : l.length ≤ 4096) (hv : IsSl W 5 v (l.map Resv.cells)) (h1 : t.id.size ≤ maxLen) (h2 : t.group.size ≤ maxLen) (hok : ∀ r ∈ l, r.ok) (hS : (∀ b o, b < W.heap.size → w.cell? ⟨b, o, none⟩ = W.cell? ⟨b, o, none⟩) ∧ Below W.heap.size W w) :
    Calls Try.prog 23 #[v, .int .i64 conn, .agg #[.string t.id, .string t.group, .string t.contract, .int .i64 t.kind, .int .i64 t.status, .int .i64 t.expiry], .int .i64 now] w
      fun e w' => e = .returned (.bool (mayL l conn t now)) ∧ Below w.heap.size w w' := by
  obtain ⟨A, c, rfl, hlc, hcm, hsl⟩ := islen (hv.below hS.2)
  exact refMay_any l A c conn now t w (by unfold maxLen; omega) hsl h1 h2 hok

theorem play_short {l : List OpR} (h : l.length ≤ 100) : (playL l).length ≤ 4096 := by have := play_len l; omega

set_option maxHeartbeats 1600000 in
theorem lawMay (l : List OpR) (v : Value) (conn now : Int) (t : Tok) (w : World) (hv : IsSl w 7 v (l.map OpR.cells)) (hs : ∀ o ∈ l, o.fits) (h1 : t.id.size ≤ maxLen) (h2 : t.group.size ≤ maxLen) :
    Calls Try.prog 5 #[v, .int .i64 conn, .agg #[.string t.id, .string t.group, .string t.contract, .int .i64 t.kind, .int .i64 t.status, .int .i64 t.expiry], .int .i64 now] w fun e w' => e = .returned (.bool true) ∧ Below w.heap.size w w' := by
  obtain ⟨W0, hW0, hb0, hgl, hbx⟩ := box1 w #[.string t.id, .string t.group, .string t.contract, .int .i64 t.kind, .int .i64 t.status, .int .i64 t.expiry] 40
  cases hq : longLB l with
  | true =>
    go_enter Try.func5, Try.ntmps5
    go_wp2_with fail
    rw [← hW0]
    clear hW0
    refine (longOps_any l v _ (hv.below hb0) hs).mono ?_
    rintro e w1 ⟨rfl, hb⟩
    rw [hq]
    go_wp2_with fail
    refine (example_any _).mono ?_
    rintro e w2 ⟨rfl, hb2⟩
    go_wp2_with fail
    go_ret
    exact ⟨rfl, below_step hb0 (below_step hb hb2)⟩
  | false =>
    obtain ⟨hl, ho⟩ := longL_f hq
    cases hq2 : decide (4096 < t.id.size) || decide (4096 < t.group.size) with
    | true =>
      go_enter Try.func5, Try.ntmps5
      go_wp2_with fail
      rw [← hW0]
      clear hW0
      refine (longOps_any l v _ (hv.below hb0) hs).mono ?_
      rintro e w1 ⟨rfl, hb⟩
      rw [hq]
      obtain ⟨hc, hf⟩ := bcell hb
      have HQ := Lib.hid hq2
      clear hq2
      go_wp2_with fail
      refine (longToken_any t _ h1 h2).mono ?_
      rintro e w2 ⟨rfl, hb2⟩
      rw [HQ.out]
      go_wp2_with fail
      refine (example_any _).mono ?_
      rintro e w3 ⟨rfl, hb3⟩
      go_wp2_with fail
      go_ret
      exact ⟨rfl, below_step hb0 (below_step hb (below_step hb2 hb3))⟩
    | false =>
      have hps := play_short hl
      have HG := Lib.hid (Good.play ho).ok
      go_enter Try.func5, Try.ntmps5
      go_wp2_with fail
      rw [← hW0]
      clear hW0
      refine (longOps_any l v _ (hv.below hb0) hs).mono ?_
      rintro e w1 ⟨rfl, hb⟩
      rw [hq]
      obtain ⟨hc, hf⟩ := bcell hb
      have HQ := Lib.hid hq2
      clear hq2
      go_wp2_with fail
      refine (longToken_any t _ h1 h2).mono ?_
      rintro e w2 ⟨rfl, hb2⟩
      rw [HQ.out]
      go_wp2_with fail
      refine (play_any l v _ hl (hv.below (below_step hb0 (below_step hb hb2))) ho).mono ?_
      rintro e w3 ⟨u, rfl, hu, hb3⟩
      have hbw := below_step hb (below_step hb2 hb3)
      clear hc hf
      obtain ⟨hc, hf⟩ := bcell hbw
      have hz := hbw.size
      have hq1 : (mayL (playL l) conn t now == mayL (playL l) conn t now) = true := by simp
      have hbr := Below.refl w3.heap.size w3
      have hgl3 : w.heap.size < w3.heap.size := by omega
      have HU := Lib.hid hu
      go_wp2_with fail
      go_region_held3 (fun w' => (∀ b o, b < w3.heap.size → w'.cell? ⟨b, o, none⟩ = w3.cell? ⟨b, o, none⟩) ∧ Below w3.heap.size w3 w') (first | exact ⟨(bcell (W := w3) (by assumption)).1, by assumption⟩ | exact ⟨(bcell (W := w3) (Below.drew (by assumption))).1, Below.drew (by assumption)⟩) ((first | (go_at_call 22; refine (may_from w3 (playL l) u conn now t _ hps HU.out h1 h2 (by assumption)).mono ?_; rintro e w' ⟨rfl, hb⟩; have hbw' := below_step (w := w3) (And.right (by assumption)) hb; clear hb) | (go_at_call 23; refine (refMay_from w3 (playL l) u conn now t _ hps HU.out h1 h2 HG.out (by assumption)).mono ?_; rintro e w' ⟨rfl, hb⟩; have hbw' := below_step (w := w3) (And.right (by assumption)) hb; clear hb) | (go_at_call 9; refine (example_any _).mono ?_; rintro e w' ⟨rfl, hb⟩; have hbw' := below_step (w := w3) (And.right (by assumption)) hb; clear hb)))
      all_goals (rename_i hh; obtain ⟨hc', hbw'⟩ := hh)
      all_goals go_wp2
      all_goals go_ret
      all_goals exact ⟨rfl, below_step hb0 (below_step hbw hbw')⟩

end Go.Proofs.Ytpokacnbdojncaa
