/-
  Walks: Put, in the reference.
-/
import Derived.Test.YtpokacnbdojncaaDoorWReserve8
import Derived.Test.YtpokacnbdojncaaDoorAp2
namespace Go.Proofs.YtpokacnbdojncaaDoor
open Go.RowKit Go.Lib Go.Joins
set_option linter.unusedVariables false

theorem Resv.one (r : Resv) : ∀ u ∈ r.cells, u.oneCell' = true := by
  intro u hu; simp [Resv.cells] at hu; rcases hu with rfl | rfl | rfl | rfl | rfl <;> rfl

def DistinctIds (l : List Resv) : Prop := (l.map (·.id)).Nodup

theorem place_none {l : List Resv} (hd : DistinctIds l) {k : Nat} (h : k < l.length) {id : Int} (hid : l[k].id = id) : placeI (l.take k) id < 0 := by
  unfold placeI placeO
  have hn : (l.take k).findIdx? (fun x => x.id == id) = none := by
    rw [List.findIdx?_eq_none_iff]
    intro x hx
    rw [List.mem_take_iff_getElem] at hx
    obtain ⟨i, hi, rfl⟩ := hx
    have hi' : i < k := by omega
    unfold DistinctIds List.Nodup at hd
    rw [List.pairwise_iff_getElem] at hd
    have := hd i k (by simp; omega) (by simpa using h) hi'
    simp only [List.getElem_map] at this
    rw [hid] at this
    simpa using this
  simp only [hn]
  omega

theorem hat5 {l : List Resv} {W : World} {base g cap n : Nat} {T : TypeId} (h : W.ownsRow base T 5 (.slice (some ⟨g, 0, none⟩) n cap) n (l.flatMap Resv.cells)) (hn : l.length = n) {k : Nat} (hk : k < l.length) :
    W.cell? ⟨g, k * 5, none⟩ = some (.int .i64 l[k].id) ∧ W.cell? ⟨g, k * 5 + 1, none⟩ = some (.int .i64 l[k].conn) := by
  have hat : ∀ i u, (l[k]).cells[i]? = some u → W.cell? ⟨g, k * 5 + i, none⟩ = some u := fun i u hu => by
    have hi5 : i < 5 := by have := (List.getElem?_eq_some_iff.1 hu).1; simpa [Resv.cells] using this
    rw [h.cellAt (k * 5 + i) (by omega)]
    exact flat_at Resv.cells 5 Resv.cells_len l k l[k] (List.getElem?_eq_getElem hk) i u hu
  exact ⟨hat 0 _ rfl, hat 1 _ rfl⟩

theorem app_set (l : List Resv) (r : Resv) : (l.flatMap Resv.cells) ++ [.int .i64 r.id, .int .i64 r.conn, .string r.token, .string r.group, .int .i64 r.expiry] = (l ++ [r]).flatMap Resv.cells := by
  rw [List.flatMap_append]; simp [Resv.cells]

def Stop (p : Prop) : Prop := p
theorem stopper {p : Prop} (h : Stop p) : p := h

end Go.Proofs.YtpokacnbdojncaaDoor
