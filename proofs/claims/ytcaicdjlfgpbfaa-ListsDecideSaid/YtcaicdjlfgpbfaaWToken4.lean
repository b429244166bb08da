/-
  Walks: Find, in package token and in its reference.
-/
import Derived.Test.YtcaicdjlfgpbfaaWToken3
namespace Go.Proofs.Ytcaicdjlfgpbfaa
open Go.RowKit Go.Lib Go.Joins
attribute [local go_sem] after_cell
set_option linter.unusedVariables false

theorem idx_cases (l : List Tok) (id : ByteArray) : (idxT l id = none ∧ idxI l id = -1) ∨ ∃ k, idxT l id = some k ∧ k < l.length ∧ idxI l id = (k : Int) := by
  cases h : idxT l id with
  | none => exact .inl ⟨rfl, idxI_none h⟩
  | some k => exact .inr ⟨k, rfl, (idx_some h).1, idxI_some h⟩

/-- a new row of six cells, stored anew in a later world -/
theorem row6 {w0 W0 w1 : World} (hb : Below W0.heap.size W0 w1) (hgl : w0.heap.size < W0.heap.size) {cs : Array Value} (hbx : ∀ j, W0.cell? ⟨w0.heap.size, j, none⟩ = cs[j]?) (hs : cs.size = 6) (vs : List Value) (hv : vs.length = 6) :
    ∃ w2, w2 = storeRow w1 w0.heap.size 0 vs ∧ (∀ j, j < 6 → w2.cell? ⟨w0.heap.size, j, none⟩ = vs[j]?) ∧ (∀ W, Below w0.heap.size W w1 → Below w0.heap.size W w2) := by
  refine ⟨_, rfl, fun j hj => ?_, fun W hW => storeRow_below (Nat.le_refl _) vs w1 0 hW⟩
  have := storeRow_cell (g := w0.heap.size) vs w1 0 (fun i hi => by
    rw [(bcell hb).1 _ _ hgl, Nat.zero_add, hbx i]
    exact ⟨cs[i]'(by omega), by rw [Array.getElem?_eq_getElem]⟩) j (by omega)
  rwa [Nat.zero_add] at this

set_option maxHeartbeats 1600000 in
theorem find_any (l : List Tok) (v : Value) (id : ByteArray) (w : World) (hl : l.length ≤ 1000000) (hv : IsSl w 6 v (l.map Tok.cells)) (hf : ∀ x ∈ l, x.fits) :
    Calls Try.prog 46 #[v, .string id] w fun e w' => e = .returned (.tuple #[.agg #[.string (findT l id).id, .string (findT l id).group, .string (findT l id).contract, .int .i64 (findT l id).kind, .int .i64 (findT l id).status, .int .i64 (findT l id).expiry], .bool (foundT l id)]) ∧ Below w.heap.size w w' := by
  obtain ⟨W0, hW0, hb0, hgl, hbx, hbf⟩ := box1f w #[.string ⟨#[]⟩, .string ⟨#[]⟩, .string ⟨#[]⟩, .int .i64 0, .int .i64 0, .int .i64 0] 24
  have hv0 := hv.below hb0
  obtain ⟨A, c, rfl, hlc, hcm, hsl⟩ := islen' hv
  clear hv hlc hcm
  rcases idx_cases l id with ⟨hi, hii⟩ | ⟨k, hi, hk, hii⟩
  · obtain ⟨hF, hG⟩ := find_none hi
    have HF := Lib.hid hF
    have HG := Lib.hid hG
    have HI := Lib.hid hii
    clear hF hG hi hii
    go_enter Try.func46, Try.ntmps46
    go_wp2_with fail
    rw [← hW0]
    clear hW0
    refine (index_any l _ id _ hl hv0 hf).mono ?_
    rintro e w1 ⟨rfl, hb⟩
    obtain ⟨hc, hfz⟩ := bcell hb
    have hz := hb.size
    have hgl1 : w.heap.size < w1.heap.size := by omega
    rw [HI.out]
    go_wp2_with fail
    obtain ⟨w2, hw2, hx2, hb2⟩ := row6 hb hgl hbx rfl [.string ⟨#[]⟩, .string ⟨#[]⟩, .string ⟨#[]⟩, .int .i64 0, .int .i64 0, .int .i64 0] rfl
    rw [show ((((((w1).setCell ⟨w.heap.size, 0, none⟩ (.string ⟨#[]⟩)).setCell ⟨w.heap.size, 1, none⟩ (.string ⟨#[]⟩)).setCell ⟨w.heap.size, 2, none⟩ (.string ⟨#[]⟩)).setCell ⟨w.heap.size, 3, none⟩ (.int .i64 0)).setCell ⟨w.heap.size, 4, none⟩ (.int .i64 0)).setCell ⟨w.heap.size, 5, none⟩ (.int .i64 0) = w2 from hw2.symm]
    have d0 := hx2 0 (by omega)
    have d1 := hx2 1 (by omega)
    have d2 := hx2 2 (by omega)
    have d3 := hx2 3 (by omega)
    have d4 := hx2 4 (by omega)
    have d5 := hx2 5 (by omega)
    exact bodyPost_ret (v := .tuple #[.agg #[.string ⟨#[]⟩, .string ⟨#[]⟩, .string ⟨#[]⟩, .int .i64 0, .int .i64 0, .int .i64 0], .bool false]) (by simp [results, Try.results46, go_sem, d0, d1, d2, d3, d4, d5]) rfl ⟨by rw [HF.out, HG.out]; rfl, hb2 _ (below_step hb0 hb)⟩
  · obtain ⟨hF, hG⟩ := find_some hi hk
    have HF := Lib.hid hF
    have HG := Lib.hid hG
    have HI := Lib.hid hii
    clear hF hG hi hii
    have hki : (k : Int) < (l.length : Int) := by omega
    go_enter Try.func46, Try.ntmps46
    go_wp2_with fail
    rw [← hW0]
    clear hW0
    refine (index_any l _ id _ hl hv0 hf).mono ?_
    rintro e w1 ⟨rfl, hb⟩
    obtain ⟨hc, hfz⟩ := bcell hb
    have hz := hb.size
    have hgl1 : w.heap.size < w1.heap.size := by omega
    rw [HI.out]
    obtain ⟨b, off, rfl, hbb, c0, c1, c2, c3, c4, c5⟩ := tok_at ((hsl.below hb0).below hb) hk
    generalize l[k] = x at *
    go_wp2_with fail
    obtain ⟨w2, hw2, hx2, hb2⟩ := row6 hb hgl hbx rfl [.string x.id, .string x.group, .string x.contract, .int .i64 x.kind, .int .i64 x.status, .int .i64 x.expiry] rfl
    rw [show ((((((w1).setCell ⟨w.heap.size, 0, none⟩ (.string x.id)).setCell ⟨w.heap.size, 1, none⟩ (.string x.group)).setCell ⟨w.heap.size, 2, none⟩ (.string x.contract)).setCell ⟨w.heap.size, 3, none⟩ (.int .i64 x.kind)).setCell ⟨w.heap.size, 4, none⟩ (.int .i64 x.status)).setCell ⟨w.heap.size, 5, none⟩ (.int .i64 x.expiry) = w2 from hw2.symm]
    have d0 := hx2 0 (by omega)
    have d1 := hx2 1 (by omega)
    have d2 := hx2 2 (by omega)
    have d3 := hx2 3 (by omega)
    have d4 := hx2 4 (by omega)
    have d5 := hx2 5 (by omega)
    exact bodyPost_ret (v := .tuple #[.agg #[.string x.id, .string x.group, .string x.contract, .int .i64 x.kind, .int .i64 x.status, .int .i64 x.expiry], .bool true]) (by simp [results, Try.results46, go_sem, d0, d1, d2, d3, d4, d5]) rfl ⟨by rw [HF.out, HG.out], hb2 _ (below_step hb0 hb)⟩

end Go.Proofs.Ytcaicdjlfgpbfaa
