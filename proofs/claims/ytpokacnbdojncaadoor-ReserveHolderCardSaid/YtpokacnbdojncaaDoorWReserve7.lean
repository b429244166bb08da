/-
  Walks: Cancel and Expire, in package reserve and in its reference.
-/
import Derived.Test.YtpokacnbdojncaaDoorWReserve6
namespace Go.Proofs.YtpokacnbdojncaaDoor
open Go.RowKit Go.Lib Go.Joins
set_option linter.unusedVariables false

def restL (l : List Resv) (id : Int) : List Resv := l.filter (fun r => (r.id != id))
def goneB (l : List Resv) (id : Int) : List Resv := l.filter (fun r => !(r.id != id))
def cancE (l : List Resv) (id : Int) : Int := if (goneB l id).length = 0 then 8 else 0
def heldL (l : List Resv) (now : Int) : List Resv := l.filter (fun r => decide (now < r.expiry))
def lostL (l : List Resv) (now : Int) : List Resv := l.filter (fun r => !decide (now < r.expiry))

theorem rest_all {l : List Resv} {id : Int} (h : (goneB l id).length = 0) : restL l id = l := by
  unfold restL goneB at *
  have h0 := List.eq_nil_of_length_eq_zero h
  rw [List.filter_eq_nil_iff] at h0
  rw [List.filter_eq_self]
  intro r hr
  have := h0 r hr
  simpa using this
theorem rest_len (l : List Resv) (id : Int) : (restL l id).length + (goneB l id).length = l.length := by
  unfold restL goneB
  induction l with
  | nil => rfl
  | cons r l ih => cases h : (r.id != id) <;> simp [h] <;> omega

theorem islen {w : World} {v : Value} {l : List Resv} (h : IsSl w 5 v (l.map Resv.cells)) : ∃ A c, v = .slice A l.length c ∧ l.length ≤ c ∧ c ≤ maxLen ∧ SlAt w 5 A (l.map Resv.cells) := by
  obtain ⟨A, c, e, h1, h2, h3⟩ := h
  rw [List.length_map] at e h1
  exact ⟨A, c, e, h1, h2, h3⟩

set_option maxHeartbeats 1600000 in
theorem cancel_any (l : List Resv) (v : Value) (id : Int) (w : World) (hl : l.length ≤ 4096) (hv : IsSl w 5 v (l.map Resv.cells)) :
    Calls Tryd.prog 13 #[v, .int .i64 id] w
      fun e w' => ∃ u, e = .returned (.tuple #[u, .int .i64 (cancE l id)]) ∧ IsSl w' 5 u ((restL l id).map Resv.cells) ∧ Below w.heap.size w w' := by
  have hv0 := hv
  obtain ⟨A, c, rfl, hlc, hcm, hsl⟩ := islen hv
  have hmf : ∀ (fn : Fn) (first cap : Array Value) (w : World), (Instr.makeFunc fn first cap).run Tryd.prog w = .ok (.func fn first cap) w := fun _ _ _ _ => rfl
  have hgl := rest_len l id
  obtain ⟨W0, hW0, hb0, hg0, hbx⟩ := box1 w #[.int .i64 id] 3
  go_enter Tryd.func13, Tryd.ntmps13
  go_wp2_with fail
  rw [← hW0]
  clear hW0
  refine (cancel_divide l A c w.heap.size id W0 hl (hsl.below hb0) hg0 (hbx 0)).mono ?_
  rintro e w1 ⟨y, n, rfl, hy, hn, hb1⟩
  have hbw := below_step hb0 hb1
  obtain ⟨B, d, rfl, hle, hdm, hsn⟩ := islen hn
  have hg : (goneB l id).length = (List.filter (fun r => !r.id != id) l).length := rfl
  rw [← hg]
  clear hg hbx hb1 hg0
  by_cases hz : (goneB l id).length = 0
  · have hq : (((goneB l id).length : Int) == 0) = true := by rw [beq_iff_eq]; omega
    have HE : Hid (cancE l id = 8) := by unfold Hid cancE; rw [if_pos hz]
    have HR := Lib.hid (rest_all hz)
    clear hz hgl
    go_wp2
    go_ret2
    exact ⟨_, by rw [HE.out]; rfl, by rw [HR.out]; exact hv0.below hbw, hbw⟩
  · have hq : (((goneB l id).length : Int) == 0) = false := by rw [beq_eq_false_iff_ne]; omega
    have HE : Hid (cancE l id = 0) := by unfold Hid cancE; rw [if_neg hz]
    clear hz hgl
    go_wp2
    go_ret2
    exact ⟨_, by rw [HE.out]; rfl, hy, hbw⟩

set_option maxHeartbeats 1600000 in
theorem expire_any (l : List Resv) (v : Value) (now : Int) (w : World) (hl : l.length ≤ 4096) (hv : IsSl w 5 v (l.map Resv.cells)) :
    Calls Tryd.prog 14 #[v, .int .i64 now] w
      fun e w' => ∃ y n, e = .returned (.tuple #[y, n]) ∧ IsSl w' 5 y ((heldL l now).map Resv.cells) ∧ IsSl w' 5 n ((lostL l now).map Resv.cells) ∧ Below w.heap.size w w' := by
  obtain ⟨A, c, rfl, hlc, hcm, hsl⟩ := islen hv
  have hmf : ∀ (fn : Fn) (first cap : Array Value) (w : World), (Instr.makeFunc fn first cap).run Tryd.prog w = .ok (.func fn first cap) w := fun _ _ _ _ => rfl
  obtain ⟨W0, hW0, hb0, hg0, hbx⟩ := box1 w #[.int .i64 now] 3
  go_enter Tryd.func14, Tryd.ntmps14
  go_wp2_with fail
  rw [← hW0]
  clear hW0
  refine (expire_divide l A c w.heap.size now W0 hl (hsl.below hb0) hg0 (hbx 0)).mono ?_
  rintro e w1 ⟨y, n, rfl, hy, hn, hb1⟩
  have hbw := below_step hb0 hb1
  clear hb1 hbx hg0
  go_wp2
  go_ret2
  exact ⟨_, _, rfl, hy, hn, hbw⟩

end Go.Proofs.YtpokacnbdojncaaDoor
