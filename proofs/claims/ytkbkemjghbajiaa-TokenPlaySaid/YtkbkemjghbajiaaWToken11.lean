/-
  Walks: the laws TokenValid, TokenSame, TokenStays.
-/
import Derived.Test.YtkbkemjghbajiaaWToken10
namespace Go.Proofs.Ytkbkemjghbajiaa
open Go.RowKit Go.Lib Go.Joins
attribute [local go_sem] after_cell
set_option linter.unusedVariables false

theorem Tok.small_fits {t : Tok} (h : t.small) : t.fits := ⟨small_max h.1, small_max h.2.1, small_max h.2.2⟩

set_option maxRecDepth 100000 in
set_option maxHeartbeats 1600000 in
theorem lawTokValid (t : Tok) (now : Int) (w : World) (hf : t.fits) :
    Calls Try.prog 3 #[.agg #[.string t.id, .string t.group, .string t.contract, .int .i64 t.kind, .int .i64 t.status, .int .i64 t.expiry], .int .i64 now] w fun e w' => e = .returned (.bool true) ∧ Below w.heap.size w w' := by
  obtain ⟨W0, hW0, hb0, hgl, hbx⟩ := box1 w #[.string t.id, .string t.group, .string t.contract, .int .i64 t.kind, .int .i64 t.status, .int .i64 t.expiry] 23
  cases hq : longTB t with
  | true =>
    go_enter Try.func3, Try.ntmps3
    go_wp2_with fail
    rw [← hW0]
    clear hW0
    refine (longTok_any t _ hf).mono ?_
    rintro e w1 ⟨rfl, hb⟩
    rw [hq]
    go_wp2_with fail
    refine (tokExample_any _).mono ?_
    rintro e w9 ⟨rfl, hb9⟩
    go_wp2_with fail
    go_ret
    exact ⟨rfl, below_step hb0 (below_step hb hb9)⟩
  | false =>
    have hq1 : (validT t == validT t) = true := by simp
    have hq2 : (statusT t now == statusT t now) = true := by simp
    go_enter Try.func3, Try.ntmps3
    go_wp2_with fail
    rw [← hW0]
    clear hW0
    refine (longTok_any t _ hf).mono ?_
    rintro e w1 ⟨rfl, hb⟩
    rw [hq]
    obtain ⟨hc, hf2⟩ := bcell hb
    go_wp2_with fail
    (refine wp_region_kept W0 (by kernel_rfl) (by kernel_rfl) (by assumption) ?_; (repeat (go_big_quiet_step ((first | (go_at_call 10; exact kept_call (tvalid_any t _ hf)) | (go_at_call 11; exact kept_call (refTvalid_any t _ hf)) | (go_at_call 12; exact kept_call (status_any t now _)) | (go_at_call 13; exact kept_call (refStatus_any t now _)) | (go_at_call 9; exact kept_call (tokExample_any _)))))); refine wpQuiet_nil ?_; intro _ hw'; obtain ⟨x9, hw''⟩ := hw'; subst hw''; have hk9 := after_kept x9; generalize after x9 = w9 at *)
    go_wp2_with fail
    go_ret
    exact ⟨rfl, below_step hb0 hk9.2⟩

theorem sameT_refl (a : Tok) : sameT a a = true := by
  have : sameS a.id a.id = true := by unfold sameS; simp
  unfold sameT
  rw [this]; rfl

set_option maxRecDepth 100000 in
set_option maxHeartbeats 1600000 in
theorem lawTokSame (a b : Tok) (w : World) (hfa : a.fits) (hfb : b.fits) :
    Calls Try.prog 4 #[.agg #[.string a.id, .string a.group, .string a.contract, .int .i64 a.kind, .int .i64 a.status, .int .i64 a.expiry], .agg #[.string b.id, .string b.group, .string b.contract, .int .i64 b.kind, .int .i64 b.status, .int .i64 b.expiry]] w fun e w' => e = .returned (.bool true) ∧ Below w.heap.size w w' := by
  obtain ⟨W0, hW0, hb0, hgl1, hgl, hbx, hby⟩ := box2 w #[.string a.id, .string a.group, .string a.contract, .int .i64 a.kind, .int .i64 a.status, .int .i64 a.expiry] 23 #[.string b.id, .string b.group, .string b.contract, .int .i64 b.kind, .int .i64 b.status, .int .i64 b.expiry] 23
  cases hq : longTB a with
  | true =>
    go_enter Try.func4, Try.ntmps4
    go_wp2_with fail
    rw [← hW0]
    clear hW0
    refine (longTok_any a _ hfa).mono ?_
    rintro e w1 ⟨rfl, hb⟩
    rw [hq]
    go_wp2_with fail
    refine (tokExample_any _).mono ?_
    rintro e w9 ⟨rfl, hb9⟩
    go_wp2_with fail
    go_ret
    exact ⟨rfl, below_step hb0 (below_step hb hb9)⟩
  | false =>
    cases hq2 : longTB b with
    | true =>
      go_enter Try.func4, Try.ntmps4
      go_wp2_with fail
      rw [← hW0]
      clear hW0
      refine (longTok_any a _ hfa).mono ?_
      rintro e w1 ⟨rfl, hb⟩
      rw [hq]
      obtain ⟨hc, hf2⟩ := bcell hb
      have HQ := Lib.hid hq2
      clear hq2
      go_wp2_with fail
      refine (longTok_any b _ hfb).mono ?_
      rintro e w2 ⟨rfl, hb2⟩
      rw [HQ.out]
      go_wp2_with fail
      refine (tokExample_any _).mono ?_
      rintro e w9 ⟨rfl, hb9⟩
      go_wp2_with fail
      go_ret
      exact ⟨rfl, below_step hb0 (below_step hb (below_step hb2 hb9))⟩
    | false =>
      have HC := Lib.hid (sameT_comm a b)
      have hq1 : (sameT a b == sameT a b) = true := by simp
      go_enter Try.func4, Try.ntmps4
      go_wp2_with fail
      rw [← hW0]
      clear hW0
      refine (longTok_any a _ hfa).mono ?_
      rintro e w1 ⟨rfl, hb⟩
      rw [hq]
      obtain ⟨hc, hf2⟩ := bcell hb
      have HQ := Lib.hid hq2
      clear hq2
      go_wp2_with fail
      refine (longTok_any b _ hfb).mono ?_
      rintro e w2 ⟨rfl, hb2⟩
      rw [HQ.out]
      have hbw := hb.trans (hb2.mono hb.size)
      clear hc hf2 hb hb2
      obtain ⟨hc, hf2⟩ := bcell hbw
      go_wp2_with fail
      refine (refTokSame_any a b _ hfa.1 hfa.2.1 hfb.1 hfb.2.1).mono ?_
      rintro e w3 ⟨rfl, hb3⟩
      replace hbw := hbw.trans (hb3.mono hbw.size)
      clear hc hf2 hb3
      obtain ⟨hc, hf2⟩ := bcell hbw
      go_wp2_with fail
      refine (tokSame_any a b _ hfa.1 hfa.2.1).mono ?_
      rintro e w4 ⟨rfl, hb4⟩
      replace hbw := hbw.trans (hb4.mono hbw.size)
      clear hc hf2 hb4
      obtain ⟨hc, hf2⟩ := bcell hbw
      go_wp2_with fail
      refine (tokSame_any b a _ hfb.1 hfb.2.1).mono ?_
      rintro e w5 ⟨rfl, hb5⟩
      rw [HC.out]
      replace hbw := hbw.trans (hb5.mono hbw.size)
      clear hc hf2 hb5
      obtain ⟨hc, hf2⟩ := bcell hbw
      go_wp2_with fail
      refine (tokSame_any a a _ hfa.1 hfa.2.1).mono ?_
      rintro e w6 ⟨rfl, hb6⟩
      rw [sameT_refl]
      replace hbw := hbw.trans (hb6.mono hbw.size)
      go_wp2_with fail
      refine (tokExample_any _).mono ?_
      rintro e w9 ⟨rfl, hb9⟩
      go_wp2_with fail
      go_ret
      exact ⟨rfl, below_step hb0 (below_step hbw hb9)⟩

theorem stays {t : Tok} {now later : Int} (h : now ≤ later) (h1 : statusT t now ≠ 1) : statusT t later = statusT t now := by
  unfold statusT at *
  split at h1
  · rename_i h2
    rw [if_pos ⟨h2.1, h2.2.1, by omega⟩, if_pos h2]
  · rename_i h2
    rw [if_neg (fun h3 => h1 h3.1), if_neg h2]

set_option maxRecDepth 100000 in
set_option maxHeartbeats 1600000 in
theorem lawTokStays (t : Tok) (now later : Int) (w : World) (hf : t.fits) :
    Calls Try.prog 6 #[.agg #[.string t.id, .string t.group, .string t.contract, .int .i64 t.kind, .int .i64 t.status, .int .i64 t.expiry], .int .i64 now, .int .i64 later] w fun e w' => e = .returned (.bool true) ∧ Below w.heap.size w w' := by
  obtain ⟨W0, hW0, hb0, hgl, hbx⟩ := box1 w #[.string t.id, .string t.group, .string t.contract, .int .i64 t.kind, .int .i64 t.status, .int .i64 t.expiry] 23
  cases hq : longTB t with
  | true =>
    go_enter Try.func6, Try.ntmps6
    go_wp2_with fail
    rw [← hW0]
    clear hW0
    refine (longTok_any t _ hf).mono ?_
    rintro e w1 ⟨rfl, hb⟩
    rw [hq]
    go_wp2_with fail
    refine (tokExample_any _).mono ?_
    rintro e w9 ⟨rfl, hb9⟩
    go_wp2_with fail
    go_ret
    exact ⟨rfl, below_step hb0 (below_step hb hb9)⟩
  | false =>
    by_cases hn : later < now
    · skip
      go_enter Try.func6, Try.ntmps6
      go_wp2_with fail
      rw [← hW0]
      clear hW0
      refine (longTok_any t _ hf).mono ?_
      rintro e w1 ⟨rfl, hb⟩
      rw [hq]
      go_wp2_with fail
      refine (tokExample_any _).mono ?_
      rintro e w9 ⟨rfl, hb9⟩
      go_wp2_with fail
      go_ret
      exact ⟨rfl, below_step hb0 (below_step hb hb9)⟩
    · have hn' : now ≤ later := by omega
      clear hn
      by_cases hs : statusT t now = 1
      · have hs1 : (statusT t now == 1) = true := by simpa using hs
        have HS := Lib.hid hs
        clear hs
        go_enter Try.func6, Try.ntmps6
        go_wp2_with fail
        rw [← hW0]
        clear hW0
        refine (longTok_any t _ hf).mono ?_
        rintro e w1 ⟨rfl, hb⟩
        rw [hq]
        obtain ⟨hc, hf2⟩ := bcell hb
        go_wp2_with fail
        refine (status_any t now _).mono ?_
        rintro e w2 ⟨rfl, hb2⟩
        go_wp2_with fail
        refine (tokExample_any _).mono ?_
        rintro e w9 ⟨rfl, hb9⟩
        go_wp2_with fail
        go_ret
        exact ⟨rfl, below_step hb0 (below_step hb (below_step hb2 hb9))⟩
      · have hs1 : (statusT t now == 1) = false := by simpa using hs
        have HS := Lib.hid (stays hn' hs)
        have hq1 : (statusT t now == statusT t now) = true := by simp
        have HL : ∀ (n : Int) (w : World), statusT t n = statusT t now → Calls Try.prog 12 #[.agg #[.string t.id, .string t.group, .string t.contract, .int .i64 t.kind, .int .i64 t.status, .int .i64 t.expiry], .int .i64 n] w fun e w' => e = .returned (.int .i64 (statusT t now)) ∧ Below w.heap.size w w' := fun n w hn => hn ▸ status_any t n w
        clear hs
        go_enter Try.func6, Try.ntmps6
        go_wp2_with fail
        rw [← hW0]
        clear hW0
        refine (longTok_any t _ hf).mono ?_
        rintro e w1 ⟨rfl, hb⟩
        rw [hq]
        obtain ⟨hc, hf2⟩ := bcell hb
        go_wp2_with fail
        refine (status_any t now _).mono ?_
        rintro e w2 ⟨rfl, hb2⟩
        have hbw := hb.trans (hb2.mono hb.size)
        clear hc hf2 hb hb2
        go_wp2_with fail
        (refine wp_region_kept W0 (by kernel_rfl) (by kernel_rfl) (by assumption) ?_; (repeat (go_big_quiet_step ((first | (go_at_call 12; exact kept_call (HL _ _ (by first | rfl | exact HS.out))))))); refine wpQuiet_nil ?_; intro _ hw'; obtain ⟨x9, hw''⟩ := hw'; subst hw''; have hk9 := after_kept x9; generalize after x9 = w9 at *)
        go_wp2_with fail
        go_ret
        exact ⟨rfl, below_step hb0 hk9.2⟩

end Go.Proofs.Ytkbkemjghbajiaa
