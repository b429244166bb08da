/-
  Walks: the law ReserveHolder.
-/
import Derived.Test.YtpokacnbdojncaaDoorPHolder
import Derived.Test.YtpokacnbdojncaaDoorWReserve13
import Derived.Test.YtpokacnbdojncaaDoorKept
import Derived.Test.YtpokacnbdojncaaDoorCase
namespace Go.Proofs.YtpokacnbdojncaaDoor
open Go.RowKit Go.Lib Go.Joins
attribute [local go_sem] after_cell
set_option linter.unusedVariables false

theorem may_in (W : World) (l : List Resv) (v : Value) (conn now : Int) (t : Tok) (b : Bool) (w : World) (hb : mayL l conn t now = b) (hl : l.length ≤ 4096) (hv : Hid (IsSl W 5 v (l.map Resv.cells))) (h1 : t.id.size ≤ maxLen) (h2 : t.group.size ≤ maxLen) (hS : Kept W w) :
    Calls Tryd.prog 10 #[v, .int .i64 conn, .agg #[.string t.id, .string t.group, .string t.contract, .int .i64 t.kind, .int .i64 t.status, .int .i64 t.expiry], .int .i64 now] w
      fun e w' => e = .returned (.bool b) ∧ Below w.heap.size w w' := by
  obtain ⟨A, c, rfl, hlc, hcm, hsl⟩ := islen (hv.out.below hS.2)
  exact hb ▸ may_any l A c conn now t w (by unfold maxLen; omega) hsl h1 h2

theorem up_same {a b : ByteArray} (ha : asciiL a.data.toList = true) (hb : asciiL b.data.toList = true) (h : capL a.data.toList = capL b.data.toList) : upS a = upS b := by
  rw [upS_ascii ha, upS_ascii hb, upper_cap, upper_cap, h]

set_option maxRecDepth 100000 in
set_option maxHeartbeats 6400000 in
theorem lawHolder (l : List OpR) (v : Value) (r : Resv) (now later : Int) (t : Tok) (w : World) (hv : IsSl w 7 v (l.map OpR.cells)) (hs : ∀ o ∈ l, o.fits) (h1 : r.token.size ≤ maxLen) (h2 : r.group.size ≤ maxLen) (h3 : t.id.size ≤ maxLen) (h4 : t.group.size ≤ maxLen) (hV : Vars w) :
    Calls Tryd.prog 3 #[v, .agg #[.int .i64 r.id, .int .i64 r.conn, .string r.token, .string r.group, .int .i64 r.expiry], .int .i64 now, .int .i64 later, .agg #[.string t.id, .string t.group, .string t.contract, .int .i64 t.kind, .int .i64 t.status, .int .i64 t.expiry]] w fun e w' => e = .returned (.bool true) ∧ Below w.heap.size w w' := by
  obtain ⟨W0, hW0, hb0, hgl1, hgl, hbx, hby⟩ := box2 w #[.int .i64 r.id, .int .i64 r.conn, .string r.token, .string r.group, .int .i64 r.expiry] 24 #[.string t.id, .string t.group, .string t.contract, .int .i64 t.kind, .int .i64 t.status, .int .i64 t.expiry] 26
  cases hq : longLB l with
  | true =>
    go_enter Tryd.func3, Tryd.ntmps3
    go_wp2_with fail
    rw [← hW0]
    clear hW0
    refine (longOps_any l v _ (hv.below hb0) hs).mono ?_
    rintro e w1 ⟨rfl, hb⟩
    rw [hq]
    go_wp2_with fail
    refine (example_any _).mono ?_
    rintro e w9 ⟨rfl, hb9⟩
    go_wp2_with fail
    go_ret
    exact ⟨rfl, below_step hb0 (below_step hb hb9)⟩
  | false =>
  obtain ⟨hl, ho⟩ := longL_f hq
  cases hq2 : longB r with
  | true =>
    have HQ2 := Lib.hid hq2
    clear hq2
    go_enter Tryd.func3, Tryd.ntmps3
    go_wp2_with fail
    rw [← hW0]
    clear hW0
    refine (longOps_any l v _ (hv.below hb0) hs).mono ?_
    rintro e w1 ⟨rfl, hb⟩
    rw [hq]
    obtain ⟨hc, hf⟩ := bcell hb
    go_wp2_with fail
    refine (long_any r _ h1 h2).mono ?_
    rintro e w2 ⟨rfl, hb2⟩
    rw [HQ2.out]
    have hbw := hb.trans (hb2.mono hb.size)
    clear hc hf hb hb2
    obtain ⟨hc, hf⟩ := bcell hbw
    go_wp2_with fail
    refine (example_any _).mono ?_
    rintro e w9 ⟨rfl, hb9⟩
    go_wp2_with fail
    go_ret
    exact ⟨rfl, below_step hb0 (below_step hbw hb9)⟩
  | false =>
  have hr := (long_iff r).1 hq2
  have HQ2 := Lib.hid hq2
  clear hq2
  cases hq3 : decide (4096 < t.id.size) || decide (4096 < t.group.size) with
  | true =>
    have HQ3 := Lib.hid hq3
    clear hq3
    go_enter Tryd.func3, Tryd.ntmps3
    go_wp2_with fail
    rw [← hW0]
    clear hW0
    refine (longOps_any l v _ (hv.below hb0) hs).mono ?_
    rintro e w1 ⟨rfl, hb⟩
    rw [hq]
    obtain ⟨hc, hf⟩ := bcell hb
    go_wp2_with fail
    refine (long_any r _ h1 h2).mono ?_
    rintro e w2 ⟨rfl, hb2⟩
    rw [HQ2.out]
    have hbw := hb.trans (hb2.mono hb.size)
    clear hc hf hb hb2
    obtain ⟨hc, hf⟩ := bcell hbw
    go_wp2_with fail
    refine (longToken_any t _ h3 h4).mono ?_
    rintro e w3 ⟨rfl, hb3⟩
    rw [HQ3.out]
    replace hbw := hbw.trans (hb3.mono hbw.size)
    clear hc hf hb3
    obtain ⟨hc, hf⟩ := bcell hbw
    go_wp2_with fail
    refine (example_any _).mono ?_
    rintro e w9 ⟨rfl, hb9⟩
    go_wp2_with fail
    go_ret
    exact ⟨rfl, below_step hb0 (below_step hbw hb9)⟩
  | false =>
  have ht : t.id.size ≤ 4096 ∧ t.group.size ≤ 4096 := by simpa using hq3
  have HQ3 := Lib.hid hq3
  clear hq3
  by_cases hn : later < now
  · skip
    go_enter Tryd.func3, Tryd.ntmps3
    go_wp2_with fail
    rw [← hW0]
    clear hW0
    refine (longOps_any l v _ (hv.below hb0) hs).mono ?_
    rintro e w1 ⟨rfl, hb⟩
    rw [hq]
    obtain ⟨hc, hf⟩ := bcell hb
    go_wp2_with fail
    refine (long_any r _ h1 h2).mono ?_
    rintro e w2 ⟨rfl, hb2⟩
    rw [HQ2.out]
    have hbw := hb.trans (hb2.mono hb.size)
    clear hc hf hb hb2
    obtain ⟨hc, hf⟩ := bcell hbw
    go_wp2_with fail
    refine (longToken_any t _ h3 h4).mono ?_
    rintro e w3 ⟨rfl, hb3⟩
    rw [HQ3.out]
    replace hbw := hbw.trans (hb3.mono hbw.size)
    clear hc hf hb3
    obtain ⟨hc, hf⟩ := bcell hbw
    go_wp2_with fail
    refine (example_any _).mono ?_
    rintro e w9 ⟨rfl, hb9⟩
    go_wp2_with fail
    go_ret
    exact ⟨rfl, below_step hb0 (below_step hbw hb9)⟩
  have hn' : now ≤ later := by omega
  clear hn
  have hps := play_len l
  have hg := Good.play ho
  have hpl := putL_len (playL l) r now
  go_enter Tryd.func3, Tryd.ntmps3
  go_wp2_with fail
  rw [← hW0]
  clear hW0
  refine (longOps_any l v _ (hv.below hb0) hs).mono ?_
  rintro e w1 ⟨rfl, hb⟩
  rw [hq]
  obtain ⟨hc, hf⟩ := bcell hb
  go_wp2_with fail
  refine (long_any r _ h1 h2).mono ?_
  rintro e w2 ⟨rfl, hb2⟩
  rw [HQ2.out]
  have hbw := hb.trans (hb2.mono hb.size)
  clear hc hf hb hb2
  obtain ⟨hc, hf⟩ := bcell hbw
  go_wp2_with fail
  refine (longToken_any t _ h3 h4).mono ?_
  rintro e w3 ⟨rfl, hb3⟩
  rw [HQ3.out]
  replace hbw := hbw.trans (hb3.mono hbw.size)
  clear hc hf hb3
  obtain ⟨hc, hf⟩ := bcell hbw
  go_wp2_with fail
  have hbr := Below.refl w3.heap.size w3
  have hgx1 : w.heap.size < w3.heap.size := Nat.lt_of_lt_of_le hgl hbw.size
  have hgx2 : w.heap.size + 1 < w3.heap.size := Nat.lt_of_lt_of_le hgl1 hbw.size
  have HV3 := Lib.hid ((hv.below hb0).below hbw)
  go_region_held3 (fun w' => (∀ b o, b < w3.heap.size → w'.cell? ⟨b, o, none⟩ = w3.cell? ⟨b, o, none⟩) ∧ Below w3.heap.size w3 w') (first | exact ⟨(bcell (W := w3) (by assumption)).1, by assumption⟩ | exact ⟨(bcell (W := w3) (Below.drew (by assumption))).1, Below.drew (by assumption)⟩) ((first | (go_at_call 9; refine (play_any l v _ hl (HV3.out.below (And.right (by assumption))) ho).mono ?_; rintro e w4 ⟨u4, rfl, hu4, hb4⟩; have hb4' := below_step (w := w3) (And.right (by assumption)) hb4) | (go_at_call 8; refine (put_any (playL l) u4 r now _ (by omega) (by first | exact hu4 | exact hu4.below (Below.refl _ _)) hr).mono ?_; rintro e w5 ⟨u5, rfl, hu5, hb5⟩; have hb5' := below_step (w := w3) hb4' hb5)))
  have HG := Lib.hid hg
  have hb5 := below_step hbw hb5'
  have HU5 := Lib.hid hu5
  clear hg hu5 hb4 hb4' hbr hgx1 hgx2 HV3 hc hf hu4 hb5'
  obtain ⟨hc, hf⟩ := bcell hb5
  have hlen := Nat.le_trans hpl (Nat.succ_le_succ (Nat.le_trans hps hl))
  by_cases hpe : putE (playL l) r now = 0
  rotate_left 1
  · have hne : (putE (playL l) r now != 0) = true := by simpa using hpe
    go_wp2_with fail
    refine (example_any _).mono ?_
    rintro e w9 ⟨rfl, hb9⟩
    go_wp2_with fail
    go_ret
    exact ⟨rfl, below_step hb0 (below_step hb5 hb9)⟩
  · have hne : (putE (playL l) r now != 0) = false := by simpa using hpe
    obtain ⟨hval, hex⟩ := putE_parts hpe
    obtain ⟨v1, v2⟩ := valid_parts hval
    have hmem := mem_put hpe
    have hgp := HG.out.put hr now
    have hbr := Below.refl w5.heap.size w5
    have hM := fun T => may_own hgp hmem T later
    have hl1 := hM ⟨⟨(Lib.toLowerA r.token.data.toList).toArray⟩, ⟨#[]⟩, ⟨#[]⟩, 0, 0, 0⟩
    rw [same_lower r _ rfl, Bool.or_true] at hl1
    have HL1 := Lib.hid hl1
    have HVW := Lib.hid ((hV.below hb0).below hb5)
    clear hl1 hgp hmem
    go_wp2_with fail
    have hgx1 : w.heap.size < w5.heap.size := Nat.lt_of_lt_of_le hgl hb5.size
    have hgx2 : w.heap.size + 1 < w5.heap.size := Nat.lt_of_lt_of_le hgl1 hb5.size
    have hlow : (⟨(Lib.toLowerA r.token.data.toList).toArray⟩ : ByteArray).size ≤ maxLen := by
      show (Lib.toLowerA r.token.data.toList).toArray.size ≤ maxLen
      simpa [Lib.toLowerA] using h1
    have hemp : (⟨#[]⟩ : ByteArray).size ≤ maxLen := by unfold maxLen; decide
    (refine wp_region_kept w5 (by kernel_rfl) (by kernel_rfl) (by assumption) ?_; (repeat (go_big_quiet_step ((first | (go_at_call 11; exact kept_call (lower_from w5 r.token _ hr.1 (valid_ascii v1) (after_kept _))) | (go_at_call 10; exact kept_call (may_in w5 _ _ _ _ ⟨⟨(Lib.toLowerA r.token.data.toList).toArray⟩, ⟨#[]⟩, ⟨#[]⟩, 0, 0, 0⟩ true _ HL1.out (by omega) HU5 hlow hemp (after_kept _))))))); refine wpQuiet_nil ?_; intro _ hw'; obtain ⟨x9, hw''⟩ := hw'; subst hw''; have hk9 := after_kept x9; generalize after x9 = w9 at *)
    have hb9 := below_step hb5 hk9.2
    have HV9 := Lib.hid (HVW.out.below hk9.2)
    have HU9 := Lib.hid (HU5.out.below hk9.2)
    clear hc hf hgx1 hgx2
    obtain ⟨hc, hf⟩ := bcell hb9
    have hgx1 : w.heap.size < w9.heap.size := Nat.lt_of_lt_of_le hgl hb9.size
    have hgx2 : w.heap.size + 1 < w9.heap.size := Nat.lt_of_lt_of_le hgl1 hb9.size
    have hbr9 := Below.refl w9.heap.size w9
    cases e1 : ((upS t.id).toList == (upS r.token).toList) with
    | true =>
      have HE1 := Lib.hid e1
      go_wp2_with fail
      (refine wp_region_kept w9 (by kernel_rfl) (by kernel_rfl) (by assumption) ?_; (repeat (go_big_quiet_step ((first | (go_at_call 12; exact kept_call (upper_from w9 _ _ (by first | exact ht.1 | exact ht.2 | exact hr.1 | exact hr.2) HV9.out (after_kept _))))))); refine wpQuiet_nil ?_; intro _ hw'; obtain ⟨x9, hw''⟩ := hw'; subst hw''; have hk9 := after_kept x9; generalize after x9 = w9 at *)
      go_wp2_with fail
      refine (example_any _).mono ?_
      rintro e w10 ⟨rfl, hb10⟩
      go_wp2_with fail
      go_ret
      exact ⟨rfl, below_step hb0 (below_step hb9 (below_step hk9.2 hb10))⟩
    | false =>
      have HN1 : Hid (¬ (asciiL t.id.data.toList = true ∧ capL t.id.data.toList = capL r.token.data.toList)) := Lib.hid (fun ⟨a1, a2⟩ => by
        rw [up_same a1 (valid_ascii v1) a2] at e1
        simp at e1)
      by_cases hg0 : r.group.toList = []
      · have HN2 : Hid (r.group.toList = [] ∨ ¬ (asciiL t.group.data.toList = true ∧ capL t.group.data.toList = capL r.group.data.toList)) := Lib.hid (.inl hg0)
        have hg1 : r.group.toList.isEmpty = true := by simpa using hg0
        have hn := not_same hval HN1.out HN2.out
        have hl2 := hM t
        rw [hn, Bool.or_false] at hl2
        have HL2 := Lib.hid hl2
        clear hl2 hn
        go_wp2_with fail
        (refine wp_region_kept w9 (by kernel_rfl) (by kernel_rfl) (by assumption) ?_; (repeat (go_big_quiet_step ((first | (go_at_call 12; exact kept_call (upper_from w9 _ _ (by first | exact ht.1 | exact ht.2 | exact hr.1 | exact hr.2) HV9.out (after_kept _))))))); refine wpQuiet_nil ?_; intro _ hw'; obtain ⟨x9, hw''⟩ := hw'; subst hw''; have hk9 := after_kept x9; generalize after x9 = w9 at *)
        have hb11 := below_step hb9 hk9.2
        have HU11 := Lib.hid (HU9.out.below hk9.2)
        clear hc hf hgx1 hgx2
        obtain ⟨hc, hf⟩ := bcell hb11
        have hgx1 : w.heap.size < w9.heap.size := Nat.lt_of_lt_of_le hgl hb11.size
        have hgx2 : w.heap.size + 1 < w9.heap.size := Nat.lt_of_lt_of_le hgl1 hb11.size
        have hbr11 := Below.refl w9.heap.size w9
        go_wp2_with fail
        (refine wp_region_kept w9 (by kernel_rfl) (by kernel_rfl) (by assumption) ?_; (repeat (go_big_quiet_step ((first | (go_at_call 10; exact kept_call (may_in w9 _ _ _ _ t _ _ HL2.out (by omega) HU11 h3 h4 (after_kept _))))))); refine wpQuiet_nil ?_; intro _ hw'; obtain ⟨x9, hw''⟩ := hw'; subst hw''; have hk9 := after_kept x9; generalize after x9 = w9 at *)
        go_wp2_with fail
        go_ret
        exact ⟨by simp, below_step hb0 (below_step hb11 hk9.2)⟩
      · have hg1 : r.group.toList.isEmpty = false := by simpa using hg0
        cases e2 : ((upS t.group).toList == (upS r.group).toList) with
        | true =>
          go_wp2_with fail
          (refine wp_region_kept w9 (by kernel_rfl) (by kernel_rfl) (by assumption) ?_; (repeat (go_big_quiet_step ((first | (go_at_call 12; exact kept_call (upper_from w9 _ _ (by first | exact ht.1 | exact ht.2 | exact hr.1 | exact hr.2) HV9.out (after_kept _))))))); refine wpQuiet_nil ?_; intro _ hw'; obtain ⟨x9, hw''⟩ := hw'; subst hw''; have hk9 := after_kept x9; generalize after x9 = w9 at *)
          go_wp2_with fail
          refine (example_any _).mono ?_
          rintro e w10 ⟨rfl, hb10⟩
          go_wp2_with fail
          go_ret
          exact ⟨rfl, below_step hb0 (below_step hb9 (below_step hk9.2 hb10))⟩
        | false =>
          have HN2 : Hid (r.group.toList = [] ∨ ¬ (asciiL t.group.data.toList = true ∧ capL t.group.data.toList = capL r.group.data.toList)) := Lib.hid (.inr (fun ⟨a1, a2⟩ => by
            rw [up_same a1 (valid_ascii (v2.resolve_left hg0)) a2] at e2
            simp at e2))
          have hn := not_same hval HN1.out HN2.out
          have hl2 := hM t
          rw [hn, Bool.or_false] at hl2
          have HL2 := Lib.hid hl2
          clear hl2 hn
          go_wp2_with fail
          (refine wp_region_kept w9 (by kernel_rfl) (by kernel_rfl) (by assumption) ?_; (repeat (go_big_quiet_step ((first | (go_at_call 12; exact kept_call (upper_from w9 _ _ (by first | exact ht.1 | exact ht.2 | exact hr.1 | exact hr.2) HV9.out (after_kept _))))))); refine wpQuiet_nil ?_; intro _ hw'; obtain ⟨x9, hw''⟩ := hw'; subst hw''; have hk9 := after_kept x9; generalize after x9 = w9 at *)
          have hb11 := below_step hb9 hk9.2
          have HU11 := Lib.hid (HU9.out.below hk9.2)
          clear hc hf hgx1 hgx2
          obtain ⟨hc, hf⟩ := bcell hb11
          have hgx1 : w.heap.size < w9.heap.size := Nat.lt_of_lt_of_le hgl hb11.size
          have hgx2 : w.heap.size + 1 < w9.heap.size := Nat.lt_of_lt_of_le hgl1 hb11.size
          have hbr11 := Below.refl w9.heap.size w9
          go_wp2_with fail
          (refine wp_region_kept w9 (by kernel_rfl) (by kernel_rfl) (by assumption) ?_; (repeat (go_big_quiet_step ((first | (go_at_call 10; exact kept_call (may_in w9 _ _ _ _ t _ _ HL2.out (by omega) HU11 h3 h4 (after_kept _))))))); refine wpQuiet_nil ?_; intro _ hw'; obtain ⟨x9, hw''⟩ := hw'; subst hw''; have hk9 := after_kept x9; generalize after x9 = w9 at *)
          go_wp2_with fail
          go_ret
          exact ⟨by simp, below_step hb0 (below_step hb11 hk9.2)⟩

end Go.Proofs.YtpokacnbdojncaaDoor
