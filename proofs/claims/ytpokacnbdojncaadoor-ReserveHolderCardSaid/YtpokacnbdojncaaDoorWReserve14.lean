/-
  Walks: long calls; the play of a list of calls.
-/
import Derived.Test.YtpokacnbdojncaaDoorPReserve2
import Derived.Test.YtpokacnbdojncaaDoorWReserve12
namespace Go.Proofs.YtpokacnbdojncaaDoor
open Go.RowKit Go.Lib Go.Joins
set_option linter.unusedVariables false

/-- the seven cells of a call of a list -/
theorem op_at {w : World} {A : Option Addr} {l : List OpR} (h : SlAt w 7 A (l.map OpR.cells)) {k : Nat} (hk : k < l.length) :
    ∃ b off, A = some ⟨b, off, none⟩ ∧ b < w.heap.size ∧ w.cell? ⟨b, off + k * 7, none⟩ = some (.int .i64 l[k].kind) ∧ w.cell? ⟨b, off + k * 7 + 1, none⟩ = some (.int .i64 l[k].r.id) ∧ w.cell? ⟨b, off + k * 7 + 1 + 1, none⟩ = some (.int .i64 l[k].r.conn) ∧
      w.cell? ⟨b, off + k * 7 + 1 + 2, none⟩ = some (.string l[k].r.token) ∧ w.cell? ⟨b, off + k * 7 + 1 + 3, none⟩ = some (.string l[k].r.group) ∧ w.cell? ⟨b, off + k * 7 + 1 + 4, none⟩ = some (.int .i64 l[k].r.expiry) ∧ w.cell? ⟨b, off + k * 7 + 6, none⟩ = some (.int .i64 l[k].now) := by
  obtain ⟨b, off, e, hb, hc⟩ := h k l[k].cells (by rw [List.getElem?_map, List.getElem?_eq_getElem hk]; rfl)
  exact ⟨b, off, e, hb, hc 0 _ rfl, hc 1 _ rfl, hc 2 _ rfl, hc 3 _ rfl, hc 4 _ rfl, hc 5 _ rfl, hc 6 _ rfl⟩

def OpR.fits (o : OpR) : Prop := o.r.token.size ≤ maxLen ∧ o.r.group.size ≤ maxLen
def longLB (l : List OpR) : Bool := decide (100 < l.length) || l.any (fun o => longB o.r)
theorem longL_f {l : List OpR} (h : longLB l = false) : l.length ≤ 100 ∧ ∀ o ∈ l, o.r.ok := by
  unfold longLB at h
  rw [Bool.or_eq_false_iff] at h
  refine ⟨by have := h.1; simpa using this, fun o ho => ?_⟩
  have := List.any_eq_false.1 h.2 o ho
  exact (long_iff o.r).1 (by simpa using this)

set_option maxHeartbeats 1600000 in
theorem longOps_any (l : List OpR) (v : Value) (w : World) (hv : IsSl w 7 v (l.map OpR.cells)) (hs : ∀ o ∈ l, o.fits) :
    Calls Tryd.prog 4 #[v] w fun e w' => e = .returned (.bool (longLB l)) ∧ Below w.heap.size w w' := by
  obtain ⟨A, c, rfl, hlc, hcm, hsl⟩ := hv
  rw [List.length_map] at *
  have HS := Lib.hid hs
  clear hs
  unfold maxLen at hcm
  have hlen : l.length ≤ 9223372036854775807 := by omega
  by_cases hl : 100 < l.length
  · have HV : Hid (longLB l = true) := by unfold Hid longLB; simp [hl]
    go_enter Tryd.func4, Tryd.ntmps4
    go_wp2_with fail
    go_ret
    exact ⟨ret_bool HV.out.symm, Below.refl _ _⟩
  · have HL : Hid (longLB l = l.any (fun o => longB o.r)) := by unfold Hid longLB; simp [hl]
    have hl' : l.length ≤ 100 := by omega
    clear hl hlc hcm
    go_enter Tryd.func4, Tryd.ntmps4
    go_wp2_with fail
    go_loopw [9] (fun i wr => ∃ k : Nat, k ≤ l.length ∧ i = .int .i64 k ∧ Below w.heap.size w wr ∧ Hid ((l.take k).any (fun o => longB o.r) = false)) (fun i _ => l.length - (intOf i).toNat)
    case atStart => exact ⟨0, by omega, rfl, Below.refl _ _, rfl⟩
    case round =>
      obtain ⟨k, hk, rfl, hbw, HA⟩ := hrel
      by_cases hlt : k < l.length
      · have hta := any_take l (fun o => longB o.r) hlt
        rw [HA.out] at hta
        have HT := Lib.hid hta
        have HAT := Lib.hid (fun h => any_true l (fun o => longB o.r) hlt h)
        clear hta
        obtain ⟨f1, f2⟩ := HS.out _ (List.getElem_mem hlt)
        obtain ⟨b, off, rfl, hb, c0, c1, c2, c3, c4, c5, c6⟩ := op_at (hsl.below hbw) hlt
        generalize hx : l[k] = x at *
        clear hx
        cases hq : longB x.r with
        | true =>
          have HE := Lib.hid (HAT.out hq)
          go_wp2_with (go_at_call 5; refine (long_any x.r _ f1 f2).mono ?_; rintro e w' ⟨rfl, hb⟩; obtain ⟨hc, hf⟩ := bcell hb; have hz := hb.size; (try simp only [World.size_alloc, Nat.add_one_le_iff] at hz); (try (have hz0 : w.heap.size < w'.heap.size := by omega)); (try (have hz1 : w.heap.size + 1 < w'.heap.size := by omega)); (try (have hz2 : w.heap.size < w'.heap.size := by omega)); replace hbw := below_step (w := w) (by repeat (first | exact hbw | refine below_alloc ?_ _ | refine below_drew ?_ | refine below_drewN ?_ _ | (refine below_set ?_ ?_ _; rotate_left; (first | exact Nat.le_refl _ | (simp only [World.size_alloc]; omega) | omega)))) hb; clear hb; rw [hq])
          go_ret
          exact ⟨ret_bool (by rw [HL.out, HE.out]), hbw⟩
        | false =>
          rw [hq] at HT
          go_wp2_with (go_at_call 5; refine (long_any x.r _ f1 f2).mono ?_; rintro e w' ⟨rfl, hb⟩; obtain ⟨hc, hf⟩ := bcell hb; have hz := hb.size; (try simp only [World.size_alloc, Nat.add_one_le_iff] at hz); (try (have hz0 : w.heap.size < w'.heap.size := by omega)); (try (have hz1 : w.heap.size + 1 < w'.heap.size := by omega)); (try (have hz2 : w.heap.size < w'.heap.size := by omega)); replace hbw := below_step (w := w) (by repeat (first | exact hbw | refine below_alloc ?_ _ | refine below_drew ?_ | refine below_drewN ?_ _ | (refine below_set ?_ ?_ _; rotate_left; (first | exact Nat.le_refl _ | (simp only [World.size_alloc]; omega) | omega)))) hb; clear hb; rw [hq])
          go_roundw
          case measure => simp [intOf]; omega
          case rel => exact ⟨k + 1, by omega, by go_num, hbw, by show _ = _; rw [HT.out]; rfl⟩
      · have hall := HA.out
        rw [any_take_full l _ hlt] at hall
        have HE := Lib.hid hall
        go_wp2_with fail
        go_ret
        exact ⟨ret_bool (by rw [HL.out, HE.out]), hbw⟩

/-- the contracts of Put, Cancel and Expire, told from an older world -/
theorem put_from (W : World) (l : List Resv) (v : Value) (r : Resv) (now : Int) (w : World) (hl : l.length ≤ 4096) (hv : IsSl W 5 v (l.map Resv.cells)) (hr : r.ok) (hS : (∀ b o, b < W.heap.size → w.cell? ⟨b, o, none⟩ = W.cell? ⟨b, o, none⟩) ∧ Below W.heap.size W w) :
    Calls Tryd.prog 8 #[v, .agg #[.int .i64 r.id, .int .i64 r.conn, .string r.token, .string r.group, .int .i64 r.expiry], .int .i64 now] w
      fun e w' => ∃ u, e = .returned (.tuple #[u, .int .i64 (putE l r now)]) ∧ IsSl w' 5 u ((putL l r now).map Resv.cells) ∧ Below W.heap.size W w' :=
  (put_any l v r now w hl (hv.below hS.2) hr).mono fun e w' ⟨u, he, hu, hb⟩ => ⟨u, he, hu, below_step hS.2 hb⟩

set_option maxHeartbeats 3200000 in
theorem play_any (l : List OpR) (v : Value) (w : World) (hl : l.length ≤ 100) (hv : IsSl w 7 v (l.map OpR.cells)) (ho : ∀ o ∈ l, o.r.ok) :
    Calls Tryd.prog 9 #[v] w fun e w' => ∃ u, e = .returned u ∧ IsSl w' 5 u ((playL l).map Resv.cells) ∧ Below w.heap.size w w' := by
  obtain ⟨A, c, rfl, hlc, hcm, hsl⟩ := hv
  rw [List.length_map] at *
  have HO := Lib.hid ho
  clear ho hlc hcm
  go_enter Tryd.func9, Tryd.ntmps9
  go_wp2_with fail
  go_loopw [3, 7] (fun u i wr => ∃ k : Nat, k ≤ l.length ∧ i = .int .i64 k ∧ Below w.heap.size w wr ∧ Hid (IsSl wr 5 u ((playL (l.take k)).map Resv.cells))) (fun _ i _ => l.length - (intOf i).toNat)
  case atStart => exact ⟨0, by omega, rfl, Below.refl _ _, IsSl.nil _ _⟩
  case round =>
    obtain ⟨k, hk, rfl, hbw, HU⟩ := hrel
    by_cases hlt : k < l.length
    · have HT := Lib.hid (play_take hlt)
      have hpl : (playL (l.take k)).length ≤ 4096 := by
        have h1 := play_len (l.take k)
        have h2 : (l.take k).length ≤ k := List.length_take_le _ _
        omega
      obtain ⟨A', c', rfl, hlc', hcm', hsl'⟩ := islen HU.out
      have hr := HO.out _ (List.getElem_mem hlt)
      have hki : (k : Int) < (l.length : Int) := by omega
      obtain ⟨b, off, rfl, hb, c0, c1, c2, c3, c4, c5, c6⟩ := op_at (hsl.below hbw) hlt
      generalize hx : l[k] = x at *
      clear hx
      generalize playL (l.take k) = L at *
      by_cases h1 : x.kind = 1
      · have q1 : (x.kind == 1) = true := by simpa using h1
        have HP : Hid (stepL L x = putL L x.r x.now) := by unfold Hid stepL; rw [if_pos h1]
        clear h1
        have hbr := Below.refl wr.heap.size wr
        go_wp2_with fail
        go_region_held3 (fun w' => (∀ b o, b < wr.heap.size → w'.cell? ⟨b, o, none⟩ = wr.cell? ⟨b, o, none⟩) ∧ Below wr.heap.size wr w') (first | exact ⟨(bcell (W := wr) (by assumption)).1, by assumption⟩ | exact ⟨(bcell (W := wr) (Below.drew (by assumption))).1, Below.drew (by assumption)⟩) ((first | (go_at_call 8; refine (put_from wr L _ x.r x.now _ hpl HU.out hr (by assumption)).mono ?_; rintro e w' ⟨u, rfl, hu, hb'⟩)))
        go_wp2_with fail
        go_roundw
        case measure => simp [intOf]; omega
        case rel => exact ⟨k + 1, by omega, by go_num, below_step hbw hb', by show IsSl _ _ _ _; rw [HT.out, HP.out]; exact hu⟩
      · have q1 : (x.kind == 1) = false := by simpa using h1
        by_cases h2 : x.kind = 2
        · have q2 : (x.kind == 2) = true := by simpa using h2
          have HP : Hid (stepL L x = restL L x.r.id) := by unfold Hid stepL; rw [if_neg h1, if_pos h2]
          clear h1 h2
          go_wp2_with fail
          refine (cancel_any L _ x.r.id _ hpl HU.out).mono ?_
          rintro e w' ⟨u, rfl, hu, hb'⟩
          go_wp2_with fail
          go_roundw
          case measure => simp [intOf]; omega
          case rel => exact ⟨k + 1, by omega, by go_num, below_step hbw hb', by show IsSl _ _ _ _; rw [HT.out, HP.out]; exact hu⟩
        · have q2 : (x.kind == 2) = false := by simpa using h2
          by_cases h3 : x.kind = 3
          · have q3 : (x.kind == 3) = true := by simpa using h3
            have HP : Hid (stepL L x = heldL L x.now) := by unfold Hid stepL; rw [if_neg h1, if_neg h2, if_pos h3]
            clear h1 h2 h3
            go_wp2_with fail
            refine (expire_any L _ x.now _ hpl HU.out).mono ?_
            rintro e w' ⟨u, n, rfl, hu, hn, hb'⟩
            go_wp2_with fail
            go_roundw
            case measure => simp [intOf]; omega
            case rel => exact ⟨k + 1, by omega, by go_num, below_step hbw hb', by show IsSl _ _ _ _; rw [HT.out, HP.out]; exact hu⟩
          · have q3 : (x.kind == 3) = false := by simpa using h3
            have HP : Hid (stepL L x = L) := by unfold Hid stepL; rw [if_neg h1, if_neg h2, if_neg h3]
            clear h1 h2 h3
            go_wp2_with fail
            go_roundw
            case measure => simp [intOf]; omega
            case rel => exact ⟨k + 1, by omega, by go_num, hbw, by show IsSl _ _ _ _; rw [HT.out, HP.out]; exact HU.out⟩
    · have hu := HU.out
      rw [play_full hlt] at hu
      go_wp2_with fail
      go_ret
      exact ⟨_, rfl, hu, hbw⟩

end Go.Proofs.YtpokacnbdojncaaDoor
