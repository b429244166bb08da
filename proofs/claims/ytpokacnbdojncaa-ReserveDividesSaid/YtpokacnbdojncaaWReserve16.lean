/-
  Walks: the laws ReserveOne and ReserveDivides.
-/
import Derived.Test.YtpokacnbdojncaaWReserve15
import Derived.Test.YtpokacnbdojncaaWReserve11
import Derived.Test.YtpokacnbdojncaaKept
namespace Go.Proofs.Ytpokacnbdojncaa
open Go.RowKit Go.Lib Go.Joins
attribute [local go_sem] after_cell
set_option linter.unusedVariables false

theorem apart_ids {l : List Resv} (h : Good l) {i k : Nat} (hi : i < l.length) (hk : k < l.length) (hki : k < i) : (l[i].id == l[k].id) = false ∧ (l[i].conn == l[k].conn) = false := by
  have h1 := h.ids
  have h2 := h.conns
  unfold List.Nodup at h1 h2
  rw [List.pairwise_iff_getElem] at h1 h2
  have e1 := h1 k i (by simpa using hk) (by simpa using hi) hki
  have e2 := h2 k i (by simpa using hk) (by simpa using hi) hki
  simp only [List.getElem_map] at e1 e2
  exact ⟨by simpa using e1.symm, by simpa using e2.symm⟩

set_option maxHeartbeats 3200000 in
theorem lawOne (l : List OpR) (v : Value) (w : World) (hv : IsSl w 7 v (l.map OpR.cells)) (hs : ∀ o ∈ l, o.fits) :
    Calls Try.prog 6 #[v] w fun e w' => e = .returned (.bool true) ∧ Below w.heap.size w w' := by
  cases hq : longLB l with
  | true =>
    go_enter Try.func6, Try.ntmps6
    go_wp2_with fail
    refine (longOps_any l v _ hv hs).mono ?_
    rintro e w1 ⟨rfl, hb⟩
    rw [hq]
    go_wp2_with fail
    refine (example_any _).mono ?_
    rintro e w2 ⟨rfl, hb2⟩
    go_wp2_with fail
    go_ret
    exact ⟨rfl, below_step hb hb2⟩
  | false =>
    obtain ⟨hl, ho⟩ := longL_f hq
    go_enter Try.func6, Try.ntmps6
    go_wp2_with fail
    refine (longOps_any l v _ hv hs).mono ?_
    rintro e w1 ⟨rfl, hb⟩
    rw [hq]
    go_wp2_with fail
    refine (play_any l v _ hl (hv.below hb) ho).mono ?_
    rintro e w2 ⟨u, rfl, hu, hb2⟩
    have hbw := below_step hb hb2
    have hps := play_short hl
    have HG := Lib.hid (Good.play ho)
    generalize playL l = L at *
    obtain ⟨A, c, rfl, hlc, hcm, hsl⟩ := islen hu
    clear hu hb hb2 hv
    go_wp2_with fail
    go_loopw [13] (fun i wr => ∃ k : Nat, k ≤ L.length ∧ i = .int .i64 k ∧ Below w2.heap.size w2 wr) (fun i _ => L.length - (intOf i).toNat)
    case atStart => exact ⟨0, by omega, rfl, Below.refl _ _⟩
    case round =>
      obtain ⟨i, hi, rfl, hb1⟩ := hrel
      by_cases hlt : i < L.length
      · obtain ⟨wo, rfl⟩ : ∃ wo : World, wo = wr := ⟨_, rfl⟩
        have hii : (i : Int) < (L.length : Int) := by omega
        obtain ⟨b, off, rfl, hbl, c0, c1, c2, c3, c4⟩ := resv_at (hsl.below hb1) hlt
        go_wp2_with fail
        go_loopw [17] (fun j wr => ∃ k : Nat, k ≤ i ∧ j = .int .i64 k ∧ Below wo.heap.size wo wr) (fun j _ => i - (intOf j).toNat)
        case atStart => exact ⟨0, by omega, rfl, Below.refl _ _⟩
        case round =>
          obtain ⟨k, hk, rfl, hb3⟩ := hrel
          by_cases hkt : k < i
          · have hkl : k < L.length := by omega
            have hki : (k : Int) < (L.length : Int) := by omega
            obtain ⟨e1, e2⟩ := apart_ids HG.out hlt hkl hkt
            have hb4 := hb1.trans (hb3.mono hb1.size)
            obtain ⟨b', off', hA, hbl', d0, d1, d2, d3, d4⟩ := resv_at (hsl.below hb4) hkl
            obtain ⟨rfl, rfl⟩ : b = b' ∧ off = off' := by injection hA with hA; injection hA with h1 h2; exact ⟨h1, h2⟩
            obtain ⟨b', off', hA', hbl', a0, a1, a2, a3, a4⟩ := resv_at (hsl.below hb4) hlt
            obtain ⟨rfl, rfl⟩ : b = b' ∧ off = off' := by injection hA' with hA'; injection hA' with h1 h2; exact ⟨h1, h2⟩
            clear hA hA' c0 c1 c2 c3 c4
            generalize L[i] = x at *
            generalize L[k] = y at *
            go_wp2_with fail
            go_quiet (fail)
            go_wp2_with fail
            go_roundw
            case measure => simp [intOf]; omega
            case rel => exact ⟨k + 1, by omega, by go_num, below_drewN hb3 _⟩
          · go_wp2_with fail
            go_roundw
            case measure => simp [intOf]; omega
            case rel => exact ⟨i + 1, by omega, by go_num, hb1.trans (hb3.mono hb1.size)⟩
      · go_wp2_with fail
        refine (example_any _).mono ?_
        rintro e w3 ⟨rfl, hb3⟩
        go_wp2_with fail
        go_ret
        exact ⟨rfl, below_step (hbw.trans (hb1.mono hbw.size)) hb3⟩

theorem contains_from (W : World) (a : List Resv) (r : Resv) (u : Value) (v : Bool) (w : World) (hu : Hid (IsSl W 5 u (a.map Resv.cells))) (hv : inL a r = v) (ha : a.length ≤ 1000000) (hS : Kept W w) :
    Calls Try.prog 24 #[u, .agg #[.int .i64 r.id, .int .i64 r.conn, .string r.token, .string r.group, .int .i64 r.expiry]] w
      fun e w' => e = .returned (.bool v) ∧ Below w.heap.size w w' := hv ▸ contains_any a r u w ha (hu.out.below hS.2)

theorem held_in {L : List Resv} {x : Resv} {now later : Int} (hx : x ∈ L) (hn : now ≤ later) (h : now < x.expiry) : inL (heldL L now) x = true ∧ inL (lostL L now) x = false := by
  refine ⟨inL_t ?_, inL_f ?_⟩
  · unfold heldL; rw [List.mem_filter]; exact ⟨hx, by simpa using h⟩
  · unfold lostL; rw [List.mem_filter]; intro h2; have := h2.2; simp at this; omega
theorem lost_in {L : List Resv} {x : Resv} {now later : Int} (hx : x ∈ L) (hn : now ≤ later) (h : ¬ now < x.expiry) : inL (heldL L now) x = false ∧ inL (lostL L now) x = true ∧ inL (heldL L later) x = false := by
  refine ⟨inL_f ?_, inL_t ?_, inL_f ?_⟩
  · unfold heldL; rw [List.mem_filter]; intro h2; have := h2.2; simp at this; omega
  · unfold lostL; rw [List.mem_filter]; exact ⟨hx, by simp; omega⟩
  · unfold heldL; rw [List.mem_filter]; intro h2; have := h2.2; simp at this; omega
set_option maxHeartbeats 3200000 in
theorem lawDivides (l : List OpR) (v : Value) (now later : Int) (w : World) (hv : IsSl w 7 v (l.map OpR.cells)) (hs : ∀ o ∈ l, o.fits) :
    Calls Try.prog 7 #[v, .int .i64 now, .int .i64 later] w fun e w' => e = .returned (.bool true) ∧ Below w.heap.size w w' := by
  cases hq : longLB l with
  | true =>
    go_enter Try.func7, Try.ntmps7
    go_wp2_with fail
    refine (longOps_any l v _ hv hs).mono ?_
    rintro e w1 ⟨rfl, hb⟩
    rw [hq]
    go_wp2_with fail
    refine (example_any _).mono ?_
    rintro e w2 ⟨rfl, hb2⟩
    go_wp2_with fail
    go_ret
    exact ⟨rfl, below_step hb hb2⟩
  | false =>
    obtain ⟨hl, ho⟩ := longL_f hq
    by_cases hn : later < now
    · go_enter Try.func7, Try.ntmps7
      go_wp2_with fail
      refine (longOps_any l v _ hv hs).mono ?_
      rintro e w1 ⟨rfl, hb⟩
      rw [hq]
      go_wp2_with fail
      refine (example_any _).mono ?_
      rintro e w2 ⟨rfl, hb2⟩
      go_wp2_with fail
      go_ret
      exact ⟨rfl, below_step hb hb2⟩
    have hn' : now ≤ later := by omega
    clear hn
    go_enter Try.func7, Try.ntmps7
    go_wp2_with fail
    refine (longOps_any l v _ hv hs).mono ?_
    rintro e w1 ⟨rfl, hb⟩
    rw [hq]
    go_wp2_with fail
    refine (play_any l v _ hl (hv.below hb) ho).mono ?_
    rintro e w2 ⟨u, rfl, hu, hb2⟩
    have hbw := below_step hb hb2
    have hps := play_short hl
    generalize playL l = L at *
    go_wp2_with fail
    refine (expire_any L u now _ hps hu).mono ?_
    rintro e w3 ⟨uh, ug, rfl, huh, hug, hb3⟩
    go_wp2_with fail
    refine (expire_any L u later _ hps (hu.below hb3)).mono ?_
    rintro e w4 ⟨us, ux, rfl, hus, hux, hb4⟩
    have hlen := held_len L now
    have HH := Lib.hid (fun x (hx : x ∈ L) (h : now < x.expiry) => held_in hx hn' h)
    have HL := Lib.hid (fun x (hx : x ∈ L) (h : ¬ now < x.expiry) => lost_in hx hn' h)
    have hl1 : (heldL L now).length ≤ 4096 := by omega
    have hl2 : (lostL L now).length ≤ 4096 := by omega
    have hl3 : (heldL L later).length ≤ 4096 := by have := held_len L later; omega
    have hne : ((((heldL L now).length : Int) + ((lostL L now).length : Int)) != (L.length : Int)) = false := by simp; omega
    clear hlen hux
    generalize heldL L now = P1 at *
    generalize lostL L now = P2 at *
    generalize heldL L later = P3 at *
    replace hu := (hu.below hb3).below hb4
    replace huh := huh.below hb4
    replace hug := hug.below hb4
    replace hbw := below_step hbw (below_step hb3 hb4)
    clear hb hb2 hb3 hb4 hv
    have HUH := Lib.hid huh
    have HUG := Lib.hid hug
    have HUS := Lib.hid hus
    obtain ⟨A1, c1, rfl, _, _, _⟩ := islen huh
    obtain ⟨A2, c2, rfl, _, _, _⟩ := islen hug
    obtain ⟨A, c, rfl, hlc, hcm, hsl⟩ := islen hu
    clear huh hug hus hu
    go_wp2_with fail
    go_loopw [45] (fun i wr => ∃ k : Nat, k ≤ L.length ∧ i = .int .i64 k ∧ Below w4.heap.size w4 wr) (fun i _ => L.length - (intOf i).toNat)
    case atStart => exact ⟨0, by omega, rfl, Below.refl _ _⟩
    case round =>
      obtain ⟨i, hi, rfl, hb1⟩ := hrel
      by_cases hlt : i < L.length
      · have hii : (i : Int) < (L.length : Int) := by omega
        obtain ⟨b, off, rfl, hbl, c0, c1, c2, c3, c4⟩ := resv_at (hsl.below hb1) hlt
        have hbr := Below.refl wr.heap.size wr
        have hmem := List.getElem_mem hlt
        generalize L[i] = x at *
        have HUH' := Lib.hid (HUH.out.below hb1)
        have HUG' := Lib.hid (HUG.out.below hb1)
        have HUS' := Lib.hid (HUS.out.below hb1)
        by_cases hx : now < x.expiry
        · obtain ⟨e1, e2⟩ := HH.out x hmem hx
          have HE := Lib.hid hx
          clear hx hmem
          go_wp2_with fail
          (refine wp_region_kept wr (by kernel_rfl) (by kernel_rfl) (by assumption) ?_; (repeat (go_big_quiet_step ((first | (go_at_call 24; exact kept_call (contains_from wr _ x _ _ _ HUH' e1 (by omega) (after_kept _))) | (go_at_call 24; exact kept_call (contains_from wr _ x _ _ _ HUG' e2 (by omega) (after_kept _))))))); refine wpQuiet_nil ?_; intro _ hw'; obtain ⟨x9, hw''⟩ := hw'; subst hw''; have hk9 := after_kept x9; generalize after x9 = w9 at *)
          go_wp2_with fail
          go_roundw
          case rel => exact ⟨i + 1, by omega, by go_num, hb1.trans (hk9.2.mono hb1.size)⟩
          case measure => simp [intOf]; omega
        · obtain ⟨e1, e2, e3⟩ := HL.out x hmem (by omega)
          have HE := Lib.hid hx
          clear hx hmem
          go_wp2_with fail
          (refine wp_region_kept wr (by kernel_rfl) (by kernel_rfl) (by assumption) ?_; (repeat (go_big_quiet_step ((first | (go_at_call 24; exact kept_call (contains_from wr _ x _ _ _ HUH' e1 (by omega) (after_kept _))) | (go_at_call 24; exact kept_call (contains_from wr _ x _ _ _ HUG' e2 (by omega) (after_kept _))) | (go_at_call 24; exact kept_call (contains_from wr _ x _ _ _ HUS' e3 (by omega) (after_kept _))))))); refine wpQuiet_nil ?_; intro _ hw'; obtain ⟨x9, hw''⟩ := hw'; subst hw''; have hk9 := after_kept x9; generalize after x9 = w9 at *)
          go_wp2_with fail
          go_roundw
          case rel => exact ⟨i + 1, by omega, by go_num, hb1.trans (hk9.2.mono hb1.size)⟩
          case measure => simp [intOf]; omega
      · go_wp2_with fail
        refine (example_any _).mono ?_
        rintro e w3 ⟨rfl, hb3⟩
        go_wp2_with fail
        go_ret
        exact ⟨rfl, below_step (hbw.trans (hb1.mono hbw.size)) hb3⟩

end Go.Proofs.Ytpokacnbdojncaa
