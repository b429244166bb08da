/-
  Walks: the place of a token in a list; what is found.
-/
import Derived.Test.YtcaicdjlfgpbfaaWToken1
import Derived.Test.YtcaicdjlfgpbfaaSub
import Derived.Test.YtcaicdjlfgpbfaaWReserve4
namespace Go.Proofs.Ytcaicdjlfgpbfaa
open Go.RowKit Go.Lib Go.Joins
attribute [local go_sem] after_cell
set_option linter.unusedVariables false

/-- the six cells of a token of a list -/
theorem tok_at {w : World} {A : Option Addr} {l : List Tok} (h : SlAt w 6 A (l.map Tok.cells)) {k : Nat} (hk : k < l.length) :
    ∃ b off, A = some ⟨b, off, none⟩ ∧ b < w.heap.size ∧ w.cell? ⟨b, off + k * 6, none⟩ = some (.string l[k].id) ∧ w.cell? ⟨b, off + k * 6 + 1, none⟩ = some (.string l[k].group) ∧
      w.cell? ⟨b, off + k * 6 + 2, none⟩ = some (.string l[k].contract) ∧ w.cell? ⟨b, off + k * 6 + 3, none⟩ = some (.int .i64 l[k].kind) ∧ w.cell? ⟨b, off + k * 6 + 4, none⟩ = some (.int .i64 l[k].status) ∧ w.cell? ⟨b, off + k * 6 + 5, none⟩ = some (.int .i64 l[k].expiry) := by
  obtain ⟨b, off, e, hb, hc⟩ := h k l[k].cells (by rw [List.getElem?_map, List.getElem?_eq_getElem hk]; rfl)
  exact ⟨b, off, e, hb, hc 0 _ rfl, hc 1 _ rfl, hc 2 _ rfl, hc 3 _ rfl, hc 4 _ rfl, hc 5 _ rfl⟩

theorem idx_hit {l : List Tok} {id : ByteArray} {k : Nat} (hk : k < l.length) (h : (l.take k).all (fun x => !sameS x.id id) = true) (he : sameS l[k].id id = true) : idxT l id = some k := by
  unfold idxT
  rw [List.findIdx?_eq_some_iff_getElem]
  refine ⟨hk, he, fun j hj => ?_⟩
  have hm : l[j] ∈ l.take k := by rw [List.mem_take_iff_getElem]; exact ⟨j, by omega, rfl⟩
  have := (List.all_eq_true.1 h) _ hm
  intro hc
  rw [show sameStr l[j].id id = sameS l[j].id id from rfl] at hc
  simp [hc] at this
theorem idx_miss {l : List Tok} {id : ByteArray} (h : l.all (fun x => !sameS x.id id) = true) : idxT l id = none := by
  unfold idxT
  rw [List.findIdx?_eq_none_iff]
  intro x hx
  have := (List.all_eq_true.1 h) _ hx
  show sameS x.id id = false
  simpa using this
theorem idxI_some {l : List Tok} {id : ByteArray} {k : Nat} (h : idxT l id = some k) : idxI l id = k := by unfold idxI; rw [h]
theorem idxI_none {l : List Tok} {id : ByteArray} (h : idxT l id = none) : idxI l id = -1 := by unfold idxI; rw [h]

set_option maxHeartbeats 1600000 in
theorem index_any (l : List Tok) (v : Value) (id : ByteArray) (w : World) (hl : l.length ≤ 1000000) (hv : IsSl w 6 v (l.map Tok.cells)) (hf : ∀ x ∈ l, x.fits) :
    Calls Try.prog 11 #[v, .string id] w fun e w' => e = .returned (.int .i64 (idxI l id)) ∧ Below w.heap.size w w' := by
  obtain ⟨A, c, rfl, hlc, hcm, hsl⟩ := islen' hv
  have HF := Lib.hid hf
  clear hv hlc hcm hf
  go_enter Try.func11, Try.ntmps11
  go_wp2_with fail
  go_loopw [9] (fun i wr => ∃ k : Nat, k ≤ l.length ∧ i = .int .i64 k ∧ Below w.heap.size w wr ∧ Hid ((l.take k).all (fun x => !sameS x.id id) = true)) (fun i _ => l.length - (intOf i).toNat)
  case atStart => exact ⟨0, by omega, rfl, Below.refl _ _, rfl⟩
  case round =>
    obtain ⟨k, hk, rfl, hbw, HA⟩ := hrel
    by_cases hlt : k < l.length
    · have hki : (k : Int) < (l.length : Int) := by omega
      have HT := Lib.hid (all_take' l (fun x => !sameS x.id id) hlt)
      have HH := Lib.hid (idx_hit hlt HA.out)
      have h1 := (HF.out _ (List.getElem_mem hlt)).1
      obtain ⟨b, off, rfl, hb, c0, c1, c2, c3, c4, c5⟩ := tok_at (hsl.below hbw) hlt
      generalize hx : l[k] = x at *
      clear hx
      cases hq : sameS x.id id with
      | true =>
        have HE := Lib.hid (idxI_some (HH.out hq))
        go_wp2_with fail
        refine (same_any x.id id _ h1).mono ?_
        rintro e w' ⟨rfl, hb'⟩
        replace hb' := drewN_below hb'
        rw [hq]
        go_wp2_with fail
        go_ret
        exact ⟨ret_int (by rw [HE.out]), below_step (below_alloc hbw _) hb'⟩
      | false =>
        go_wp2_with fail
        refine (same_any x.id id _ h1).mono ?_
        rintro e w' ⟨rfl, hb'⟩
        replace hb' := drewN_below hb'
        have HQ := Lib.hid hq
        rw [hq]
        go_wp2_with fail
        go_roundw
        case measure => simp [intOf]; omega
        case rel => exact ⟨k + 1, by omega, by go_num, below_step (below_alloc hbw _) hb', by show _ = _; rw [HT.out, HA.out, HQ.out]; rfl⟩
    · have hall := HA.out
      rw [all_full' l _ hlt] at hall
      have HE := Lib.hid (idxI_none (idx_miss hall))
      go_wp2_with fail
      go_ret
      exact ⟨ret_int (by rw [HE.out]), hbw⟩

theorem cap_eq (a b : ByteArray) : ((capS a).toList == (capS b).toList) = sameS a b := by rw [str_eq_cap]

end Go.Proofs.Ytcaicdjlfgpbfaa
