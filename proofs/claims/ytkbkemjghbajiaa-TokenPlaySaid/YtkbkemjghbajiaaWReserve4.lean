/-
  Walks: tokens that belong together, in the reference.
-/
import Derived.Test.YtkbkemjghbajiaaWReserve2
import Derived.Test.YtkbkemjghbajiaaBox
namespace Go.Proofs.Ytkbkemjghbajiaa
open Go.RowKit Go.Lib Go.Joins
set_option linter.unusedVariables false

set_option maxHeartbeats 1600000 in
theorem refTokSame_any (a b : Tok) (w : World) (h1 : a.id.size ≤ maxLen) (h2 : a.group.size ≤ maxLen) (h3 : b.id.size ≤ maxLen) (h4 : b.group.size ≤ maxLen) :
    Calls Try.prog 14 #[.agg #[.string a.id, .string a.group, .string a.contract, .int .i64 a.kind, .int .i64 a.status, .int .i64 a.expiry], .agg #[.string b.id, .string b.group, .string b.contract, .int .i64 b.kind, .int .i64 b.status, .int .i64 b.expiry]] w fun e w' => e = .returned (.bool (sameT a b)) ∧ Below w.heap.size w w' := by
  have e1 := str_eq_cap a.id b.id
  have e2 := str_eq_cap a.group b.group
  cases hs : sameS a.id b.id with
  | true =>
    have HV : Hid (sameT a b = true) := by unfold Hid sameT; rw [hs]; rfl
    rw [hs] at e1
    clear hs
    go_enter Try.func14, Try.ntmps14
    go_wp2_with fail
    obtain ⟨W0, hW0, hb0, hgl, hgl0, hbx, hby⟩ := box2 w #[.string a.id, .string a.group, .string a.contract, .int .i64 a.kind, .int .i64 a.status, .int .i64 a.expiry] 23 #[.string b.id, .string b.group, .string b.contract, .int .i64 b.kind, .int .i64 b.status, .int .i64 b.expiry] 23
    rw [← hW0]
    clear hW0
    have hbw := Below.refl W0.heap.size W0
    go_region_held3 (fun w' => (∀ b o, b < W0.heap.size → w'.cell? ⟨b, o, none⟩ = W0.cell? ⟨b, o, none⟩) ∧ Below W0.heap.size W0 w') (first | exact ⟨(bcell (W := W0) (by assumption)).1, by assumption⟩ | exact ⟨(bcell (W := W0) (Below.drew (by assumption))).1, Below.drew (by assumption)⟩) ((first | (go_at_call 30; refine (refCapitals_any _ _ (by assumption)).mono ?_; rintro e w' ⟨rfl, hb⟩; have hbw' := below_step (w := W0) (And.right (by assumption)) hb; clear hb)))
    rename_i hh
    obtain ⟨hc, hbw'⟩ := hh
    go_wp2
    go_ret
    exact ⟨ret_bool HV.out.symm, below_step hb0 hbw'⟩
  | false =>
  rw [hs] at e1
  cases hg : a.group.toList.isEmpty with
  | true =>
    have HV : Hid (sameT a b = false) := by unfold Hid sameT; rw [hs, hg]; rfl
    clear hs
    go_enter Try.func14, Try.ntmps14
    go_wp2_with fail
    obtain ⟨W0, hW0, hb0, hgl, hgl0, hbx, hby⟩ := box2 w #[.string a.id, .string a.group, .string a.contract, .int .i64 a.kind, .int .i64 a.status, .int .i64 a.expiry] 23 #[.string b.id, .string b.group, .string b.contract, .int .i64 b.kind, .int .i64 b.status, .int .i64 b.expiry] 23
    rw [← hW0]
    clear hW0
    have hbw := Below.refl W0.heap.size W0
    go_region_held3 (fun w' => (∀ b o, b < W0.heap.size → w'.cell? ⟨b, o, none⟩ = W0.cell? ⟨b, o, none⟩) ∧ Below W0.heap.size W0 w') (first | exact ⟨(bcell (W := W0) (by assumption)).1, by assumption⟩ | exact ⟨(bcell (W := W0) (Below.drew (by assumption))).1, Below.drew (by assumption)⟩) ((first | (go_at_call 30; refine (refCapitals_any _ _ (by assumption)).mono ?_; rintro e w' ⟨rfl, hb⟩; have hbw' := below_step (w := W0) (And.right (by assumption)) hb; clear hb)))
    rename_i hh
    obtain ⟨hc, hbw'⟩ := hh
    go_wp2_with fail
    go_quiet (fail)
    go_wp2
    go_ret
    exact ⟨ret_bool HV.out.symm, below_step hb0 (below_drewN hbw' _)⟩
  | false =>
    have HV : Hid (sameT a b = sameS a.group b.group) := by unfold Hid sameT; rw [hs, hg]; simp
    clear hs
    go_enter Try.func14, Try.ntmps14
    go_wp2_with fail
    obtain ⟨W0, hW0, hb0, hgl, hgl0, hbx, hby⟩ := box2 w #[.string a.id, .string a.group, .string a.contract, .int .i64 a.kind, .int .i64 a.status, .int .i64 a.expiry] 23 #[.string b.id, .string b.group, .string b.contract, .int .i64 b.kind, .int .i64 b.status, .int .i64 b.expiry] 23
    rw [← hW0]
    clear hW0
    have hbw := Below.refl W0.heap.size W0
    go_region_held3 (fun w' => (∀ b o, b < W0.heap.size → w'.cell? ⟨b, o, none⟩ = W0.cell? ⟨b, o, none⟩) ∧ Below W0.heap.size W0 w') (first | exact ⟨(bcell (W := W0) (by assumption)).1, by assumption⟩ | exact ⟨(bcell (W := W0) (Below.drew (by assumption))).1, Below.drew (by assumption)⟩) ((first | (go_at_call 30; refine (refCapitals_any _ _ (by assumption)).mono ?_; rintro e w' ⟨rfl, hb⟩; have hbw' := below_step (w := W0) (And.right (by assumption)) hb; clear hb)))
    rename_i hh
    obtain ⟨hc, hbw'⟩ := hh
    go_wp2_with fail
    go_region_held3 (fun w' => (∀ b o, b < W0.heap.size → w'.cell? ⟨b, o, none⟩ = W0.cell? ⟨b, o, none⟩) ∧ Below W0.heap.size W0 w') (first | exact ⟨(bcell (W := W0) (by assumption)).1, by assumption⟩ | exact ⟨(bcell (W := W0) (Below.drew (by assumption))).1, Below.drew (by assumption)⟩) ((first | (go_at_call 30; refine (refCapitals_any _ _ (by assumption)).mono ?_; rintro e w' ⟨rfl, hb⟩; have hbw' := below_step (w := W0) (And.right (by assumption)) hb; clear hb)))
    rename_i hh
    obtain ⟨hc, hbw'⟩ := hh
    go_wp2
    go_ret
    exact ⟨ret_bool HV.out.symm, below_step hb0 hbw'⟩

end Go.Proofs.Ytkbkemjghbajiaa
