/-
  Walks: who may use a connector.
-/
import Derived.Test.YtpokacnbdojncaaDoorWReserve2
namespace Go.Proofs.YtpokacnbdojncaaDoor
open Go.RowKit Go.Lib Go.Joins
set_option linter.unusedVariables false

/-- who may use a connector -/
def mayB (conn : Int) (t : Tok) (now : Int) (r : Resv) : Bool := r.conn != conn || decide (r.expiry ≤ now) || sameT t ⟨r.token, r.group, ⟨#[]⟩, 0, 0, 0⟩
def mayL (l : List Resv) (conn : Int) (t : Tok) (now : Int) : Bool := l.all (mayB conn t now)

/-- the five cells of a reservation of a list -/
theorem resv_at {w : World} {A : Option Addr} {l : List Resv} (h : SlAt w 5 A (l.map Resv.cells)) {k : Nat} (hk : k < l.length) :
    ∃ b off, A = some ⟨b, off, none⟩ ∧ b < w.heap.size ∧ w.cell? ⟨b, off + k * 5, none⟩ = some (.int .i64 l[k].id) ∧ w.cell? ⟨b, off + k * 5 + 1, none⟩ = some (.int .i64 l[k].conn) ∧
      w.cell? ⟨b, off + k * 5 + 2, none⟩ = some (.string l[k].token) ∧ w.cell? ⟨b, off + k * 5 + 3, none⟩ = some (.string l[k].group) ∧ w.cell? ⟨b, off + k * 5 + 4, none⟩ = some (.int .i64 l[k].expiry) := by
  obtain ⟨b, off, e, hb, hc⟩ := h k l[k].cells (by rw [List.getElem?_map, List.getElem?_eq_getElem hk]; rfl)
  exact ⟨b, off, e, hb, hc 0 _ rfl, hc 1 _ rfl, hc 2 _ rfl, hc 3 _ rfl, hc 4 _ rfl⟩

theorem all_take {α : Type} (l : List α) (p : α → Bool) {k : Nat} (h : k < l.length) : (l.take (k + 1)).all p = ((l.take k).all p && p l[k]) := by
  rw [List.take_succ_eq_append_getElem h, List.all_append]; simp
theorem all_take_full {α : Type} (l : List α) (p : α → Bool) {k : Nat} (h : ¬ k < l.length) : (l.take k).all p = l.all p := by
  rw [List.take_of_length_le (by omega)]
theorem all_false {α : Type} (l : List α) (p : α → Bool) {k : Nat} (h : k < l.length) (hp : p l[k] = false) : l.all p = false := by
  rw [List.all_eq_false]; exact ⟨l[k], List.getElem_mem h, by simp [hp]⟩

theorem may_t1 {conn now : Int} {t : Tok} {r : Resv} (h : ¬ r.conn = conn) : mayB conn t now r = true := by simp [mayB, h]
theorem may_t2 {conn now : Int} {t : Tok} {r : Resv} (h : r.expiry ≤ now) : mayB conn t now r = true := by simp [mayB, h]
theorem may_t3 {conn now : Int} {t : Tok} {r : Resv} (h : (!sameT t ⟨r.token, r.group, ⟨#[]⟩, 0, 0, 0⟩) = false) : mayB conn t now r = true := by
  have h' : sameT t ⟨r.token, r.group, ⟨#[]⟩, 0, 0, 0⟩ = true := by simpa using h
  simp [mayB, h']
theorem may_f {conn now : Int} {t : Tok} {r : Resv} (h1 : r.conn = conn) (h2 : now < r.expiry) (h : (!sameT t ⟨r.token, r.group, ⟨#[]⟩, 0, 0, 0⟩) = true) : mayB conn t now r = false := by
  have h' : sameT t ⟨r.token, r.group, ⟨#[]⟩, 0, 0, 0⟩ = false := by simpa using h
  simp [mayB, h', h1]; omega

set_option maxHeartbeats 1600000 in
theorem may_any (l : List Resv) (A : Option Addr) (c : Nat) (conn now : Int) (t : Tok) (w : World) (hl : l.length ≤ maxLen) (hsl : SlAt w 5 A (l.map Resv.cells)) (h1 : t.id.size ≤ maxLen) (h2 : t.group.size ≤ maxLen) :
    Calls Tryd.prog 10 #[.slice A l.length c, .int .i64 conn, .agg #[.string t.id, .string t.group, .string t.contract, .int .i64 t.kind, .int .i64 t.status, .int .i64 t.expiry], .int .i64 now] w
      fun e w' => e = .returned (.bool (mayL l conn t now)) ∧ Below w.heap.size w w' := by
  unfold maxLen at hl
  go_enter Tryd.func10, Tryd.ntmps10
  go_wp2_with fail
  generalize hW0 : w.alloc (.cells #[.string t.id, .string t.group, .string t.contract, .int .i64 t.kind, .int .i64 t.status, .int .i64 t.expiry] 26) = W0
  have hb0 : Below w.heap.size w W0 := by rw [← hW0]; exact below_alloc (Below.refl _ _) _
  have hgl : w.heap.size < W0.heap.size := by rw [← hW0]; simp
  have hbx : ∀ j, W0.cell? ⟨w.heap.size, j, none⟩ = (#[.string t.id, .string t.group, .string t.contract, .int .i64 t.kind, .int .i64 t.status, .int .i64 t.expiry] : Array Value)[j]? := by intro j; rw [← hW0]; exact World.cell?_alloc_mark w _ _ (0, 0) j
  clear hW0
  have hbw := Below.refl W0.heap.size W0
  have hsl0 := hsl.below hb0
  go_loopw [13] (fun i wr => ∃ k : Nat, k ≤ l.length ∧ i = .int .i64 k ∧ Below W0.heap.size W0 wr ∧ Hid ((l.take k).all (mayB conn t now) = true)) (fun i _ => l.length - (intOf i).toNat)
  case atStart => exact ⟨0, by omega, rfl, Below.refl _ _, rfl⟩
  case round =>
    clear hbw
    obtain ⟨k, hk, rfl, hbw, H⟩ := hrel
    obtain ⟨hc, hf⟩ := bcell hbw
    have hz0 : w.heap.size < wr.heap.size := Nat.lt_of_lt_of_le hgl hbw.size
    by_cases hlt : k < l.length
    · obtain ⟨b, off, rfl, hb, c0, c1, c2, c3, c4⟩ := resv_at (hsl0.below hbw) hlt
      go_wp2_with (go_at_call 17; refine (tokSame_any _ ⟨_, _, _, _, _, _⟩ _ h1 h2).mono ?_; rintro e w' ⟨rfl, hb⟩; obtain ⟨hc, hf⟩ := bcell hb; have hz := hb.size; (try simp only [World.size_alloc, Nat.add_one_le_iff] at hz); (try (have hz0 : W0.heap.size < w'.heap.size := by omega)); (try (have hz1 : W0.heap.size + 1 < w'.heap.size := by omega)); (try (have hz2 : w.heap.size < w'.heap.size := by omega)); replace hbw := below_step (w := W0) (by repeat (first | exact hbw | refine below_alloc ?_ _ | refine below_drew ?_ | refine below_drewN ?_ _ | (refine below_set ?_ ?_ _; rotate_left; (first | exact Nat.le_refl _ | (simp only [World.size_alloc]; omega) | omega)))) hb; clear hb)
      all_goals try (
        have hm : mayB conn t now l[k] = true := by first | exact may_t1 ‹_› | exact may_t2 ‹_› | exact may_t3 ‹_›
        go_roundw
        case rel => exact ⟨k + 1, by omega, by go_num, (by repeat (first | exact hbw | refine below_alloc ?_ _ | refine below_drew ?_ | refine below_drewN ?_ _)), by show _ = true; rw [all_take l _ hlt, H.out, hm]; rfl⟩
        case measure => simp [intOf]; omega)
      have hm : mayB conn t now l[k] = false := may_f ‹_› ‹_› ‹_›
      go_ret
      exact ⟨ret_bool (all_false l _ hlt hm).symm, below_step hb0 hbw⟩
    · have hall := H.out
      rw [all_take_full l _ hlt] at hall
      have HA := Lib.hid hall
      clear hall
      go_wp2
      go_ret
      exact ⟨ret_bool HA.out.symm, below_step hb0 hbw⟩

end Go.Proofs.YtpokacnbdojncaaDoor
