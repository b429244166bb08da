/-
  Walks: who may use a connector, in the reference.
-/
import Derived.Test.YtpokacnbdojncaaWReserve3
import Derived.Test.YtpokacnbdojncaaWReserve4
namespace Go.Proofs.Ytpokacnbdojncaa
open Go.RowKit Go.Lib Go.Joins
set_option linter.unusedVariables false

set_option maxHeartbeats 1600000 in
theorem for_any (r : Resv) (t : Tok) (w : World) (h1 : r.token.size ≤ maxLen) (h2 : r.group.size ≤ maxLen) (h3 : t.id.size ≤ maxLen) (h4 : t.group.size ≤ maxLen) :
    Calls Try.prog 31 #[.agg #[.int .i64 r.id, .int .i64 r.conn, .string r.token, .string r.group, .int .i64 r.expiry], .agg #[.string t.id, .string t.group, .string t.contract, .int .i64 t.kind, .int .i64 t.status, .int .i64 t.expiry]] w
      fun e w' => e = .returned (.bool (sameT t ⟨r.token, r.group, ⟨#[]⟩, 0, 0, 0⟩)) ∧ Below w.heap.size w w' := by
  have hbw := Below.refl w.heap.size w
  go_enter Try.func31, Try.ntmps31
  go_wp2_with (go_at_call 36; refine (refTokSame_any ⟨r.token, r.group, ⟨#[]⟩, 0, 0, 0⟩ t _ h1 h2 h3 h4).mono ?_; rintro e w' ⟨rfl, hb⟩; obtain ⟨hc, hf⟩ := bcell hb; have hz := hb.size; (try simp only [World.size_alloc, Nat.add_one_le_iff] at hz); (try (have hz0 : w.heap.size < w'.heap.size := by omega)); (try (have hz1 : w.heap.size + 1 < w'.heap.size := by omega)); (try (have hz2 : w.heap.size < w'.heap.size := by omega)); replace hbw := below_step (w := w) (by repeat (first | exact hbw | refine below_alloc ?_ _ | refine below_drew ?_ | refine below_drewN ?_ _ | (refine below_set ?_ ?_ _; rotate_left; (first | exact Nat.le_refl _ | (simp only [World.size_alloc]; omega) | omega)))) hb; clear hb)
  go_ret
  exact ⟨ret_bool (sameT_comm _ _), hbw⟩

set_option maxHeartbeats 1600000 in
theorem refMay_any (l : List Resv) (A : Option Addr) (c : Nat) (conn now : Int) (t : Tok) (w : World) (hl : l.length ≤ maxLen) (hsl : SlAt w 5 A (l.map Resv.cells)) (h1 : t.id.size ≤ maxLen) (h2 : t.group.size ≤ maxLen) (hok : ∀ r ∈ l, r.ok) :
    Calls Try.prog 23 #[.slice A l.length c, .int .i64 conn, .agg #[.string t.id, .string t.group, .string t.contract, .int .i64 t.kind, .int .i64 t.status, .int .i64 t.expiry], .int .i64 now] w
      fun e w' => e = .returned (.bool (mayL l conn t now)) ∧ Below w.heap.size w w' := by
  unfold maxLen at hl
  have HOK := Lib.hid hok
  clear hok
  go_enter Try.func23, Try.ntmps23
  go_wp2_with fail
  generalize hW0 : w.alloc (.cells #[.string t.id, .string t.group, .string t.contract, .int .i64 t.kind, .int .i64 t.status, .int .i64 t.expiry] 40) = W0
  have hb0 : Below w.heap.size w W0 := by rw [← hW0]; exact below_alloc (Below.refl _ _) _
  have hgl : w.heap.size < W0.heap.size := by rw [← hW0]; simp
  have hbx : ∀ j, W0.cell? ⟨w.heap.size, j, none⟩ = (#[.string t.id, .string t.group, .string t.contract, .int .i64 t.kind, .int .i64 t.status, .int .i64 t.expiry] : Array Value)[j]? := by intro j; rw [← hW0]; exact World.cell?_alloc_mark w _ _ (0, 0) j
  clear hW0
  have hbw := Below.refl W0.heap.size W0
  have hsl0 := hsl.below hb0
  go_loopw [9] (fun i wr => ∃ k : Nat, k ≤ l.length ∧ i = .int .i64 k ∧ Below W0.heap.size W0 wr ∧ Hid ((l.take k).all (mayB conn t now) = true)) (fun i _ => l.length - (intOf i).toNat)
  case atStart => exact ⟨0, by omega, rfl, Below.refl _ _, rfl⟩
  case round =>
    clear hbw
    obtain ⟨k, hk, rfl, hbw, H⟩ := hrel
    obtain ⟨hc, hf⟩ := bcell hbw
    have hz0 : w.heap.size < wr.heap.size := Nat.lt_of_lt_of_le hgl hbw.size
    by_cases hlt : k < l.length
    · have hr : l[k].ok := HOK.out _ (List.getElem_mem hlt)
      obtain ⟨y1, y2⟩ := hr
      have y1 := small_max y1
      have y2 := small_max y2
      obtain ⟨b, off, rfl, hb, c0, c1, c2, c3, c4⟩ := resv_at (hsl0.below hbw) hlt
      have hki : (k : Int) < (l.length : Int) := by omega
      cases hq : (l[k].conn == conn) with
      | false =>
        have hm : Hid (mayB conn t now l[k] = true) := may_t1 (by simpa using hq)
        go_wp2_with fail
        go_quiet (fail)
        go_wp2
        go_roundw
        case rel => exact ⟨k + 1, by omega, by go_num, (by repeat (first | exact hbw | refine below_alloc ?_ _ | refine below_drew ?_ | refine below_drewN ?_ _)), by show _ = true; rw [all_take l _ hlt, H.out, hm.out]; rfl⟩
        case measure => simp [intOf]; omega
      | true =>
        cases he : decide (now < l[k].expiry) with
        | false =>
          have hm : Hid (mayB conn t now l[k] = true) := may_t2 (by simpa using he)
          go_wp2_with fail
          go_quiet (fail)
          go_wp2
          go_roundw
          case rel => exact ⟨k + 1, by omega, by go_num, (by repeat (first | exact hbw | refine below_alloc ?_ _ | refine below_drew ?_ | refine below_drewN ?_ _)), by show _ = true; rw [all_take l _ hlt, H.out, hm.out]; rfl⟩
          case measure => simp [intOf]; omega
        | true =>
          have HM : Hid (mayB conn t now l[k] = sameT t ⟨l[k].token, l[k].group, ⟨#[]⟩, 0, 0, 0⟩) := by
            unfold Hid mayB
            simp only [beq_iff_eq] at hq
            simp only [decide_eq_true_eq] at he
            simp [hq]; omega
          have hbr := Below.refl wr.heap.size wr
          go_wp2_with fail
          go_region_held3 (fun w' => (∀ b o, b < wr.heap.size → w'.cell? ⟨b, o, none⟩ = wr.cell? ⟨b, o, none⟩) ∧ Below wr.heap.size wr w') (first | exact ⟨(bcell (W := wr) (by assumption)).1, by assumption⟩ | exact ⟨(bcell (W := wr) (Below.drew (by assumption))).1, Below.drew (by assumption)⟩) ((first | (go_at_call 31; refine (for_any l[k] t _ y1 y2 h1 h2).mono ?_; rintro e w' ⟨rfl, hb⟩; have hbw' := below_step (w := wr) (And.right (by assumption)) hb; clear hb)))
          rename_i hh
          obtain ⟨hc', hbw'⟩ := hh
          go_wp2
          · have hm : mayB conn t now l[k] = false := by rw [HM.out]; simpa using ‹(!sameT t ⟨l[k].token, l[k].group, ⟨#[]⟩, 0, 0, 0⟩) = true›
            go_ret
            exact ⟨ret_bool (all_false l _ hlt hm).symm, below_step hb0 (below_step hbw hbw')⟩
          · have hm : mayB conn t now l[k] = true := by rw [HM.out]; simpa using ‹(!sameT t ⟨l[k].token, l[k].group, ⟨#[]⟩, 0, 0, 0⟩) = false›
            go_roundw
            case rel => exact ⟨k + 1, by omega, by go_num, below_step hbw hbw', by show _ = true; rw [all_take l _ hlt, H.out, hm]; rfl⟩
            case measure => simp [intOf]; omega
    · have hall := H.out
      rw [all_take_full l _ hlt] at hall
      have HA := Lib.hid hall
      clear hall
      go_wp2
      go_ret
      exact ⟨ret_bool HA.out.symm, below_step hb0 hbw⟩

end Go.Proofs.Ytpokacnbdojncaa
