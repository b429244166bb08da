/-
  Walks: the law TokenPlay.
-/
import Derived.Test.YtcaicdjlfgpbfaaDoorWToken11
namespace Go.Proofs.YtcaicdjlfgpbfaaDoor
open Go.RowKit Go.Lib Go.Joins
attribute [local go_sem] after_cell
set_option linter.unusedVariables false

structure OpT where
  drop : Bool
  tok : Tok
def OpT.cells (o : OpT) : List Value := [.bool o.drop, .string o.tok.id, .string o.tok.group, .string o.tok.contract, .int .i64 o.tok.kind, .int .i64 o.tok.status, .int .i64 o.tok.expiry]
theorem OpT.cells_len (o : OpT) : o.cells.length = 7 := rfl
def stepT (l : List Tok) (o : OpT) : List Tok := if o.drop then dropTL l o.tok.id else putTL l o.tok
def playT (l : List OpT) : List Tok := l.foldl stepT []
theorem playT_take {l : List OpT} {k : Nat} (h : k < l.length) : playT (l.take (k + 1)) = stepT (playT (l.take k)) l[k] := by
  unfold playT
  rw [List.take_succ_eq_append_getElem h, List.foldl_append]; rfl
theorem playT_full {l : List OpT} {k : Nat} (h : ¬ k < l.length) : playT (l.take k) = playT l := by rw [List.take_of_length_le (by omega)]

/-- what every list of the play keeps -/
structure GoodT (l : List Tok) : Prop where
  sorted : SortedT l
  len : l.length ≤ 128
  fits : ∀ x ∈ l, x.fits
theorem GoodT.nil : GoodT [] := ⟨SortedT.nil, by simp, by simp⟩
theorem GoodT.put {l : List Tok} (h : GoodT l) {t : Tok} (ht : t.fits) : GoodT (putTL l t) :=
  ⟨h.sorted.put t, putTL_len l t h.len, fun x hx => by rcases mem_putTL hx with rfl | hx; exact ht; exact h.fits x hx⟩
theorem GoodT.drop {l : List Tok} (h : GoodT l) (id : ByteArray) : GoodT (dropTL l id) :=
  ⟨h.sorted.drop id, Nat.le_trans (dropTL_len l id) h.len, fun x hx => by
    unfold dropTL at hx
    split at hx
    · exact h.fits x ((List.eraseIdx_sublist _ _).mem hx)
    · exact h.fits x hx⟩
theorem GoodT.step {l : List Tok} (h : GoodT l) {o : OpT} (ho : o.tok.fits) : GoodT (stepT l o) := by
  unfold stepT
  split
  · exact h.drop _
  · exact h.put ho
theorem GoodT.play {l : List OpT} (ho : ∀ o ∈ l, o.tok.fits) : GoodT (playT l) := by
  have h : ∀ (l : List OpT) (a : List Tok), GoodT a → (∀ o ∈ l, o.tok.fits) → GoodT (l.foldl stepT a) := by
    intro l
    induction l with
    | nil => intro a ha _; exact ha
    | cons o l ih => intro a ha hl; rw [List.foldl_cons]; exact ih _ (ha.step (hl o (by simp))) (fun o' ho' => hl o' (by simp [ho']))
  exact h l [] GoodT.nil ho

/-- the seven cells of a call of a list -/
theorem opt_at {w : World} {A : Option Addr} {l : List OpT} (h : SlAt w 7 A (l.map OpT.cells)) {k : Nat} (hk : k < l.length) :
    ∃ b off, A = some ⟨b, off, none⟩ ∧ b < w.heap.size ∧ w.cell? ⟨b, off + k * 7, none⟩ = some (.bool l[k].drop) ∧ w.cell? ⟨b, off + k * 7 + 1, none⟩ = some (.string l[k].tok.id) ∧ w.cell? ⟨b, off + k * 7 + 1 + 1, none⟩ = some (.string l[k].tok.group) ∧
      w.cell? ⟨b, off + k * 7 + 1 + 2, none⟩ = some (.string l[k].tok.contract) ∧ w.cell? ⟨b, off + k * 7 + 1 + 3, none⟩ = some (.int .i64 l[k].tok.kind) ∧ w.cell? ⟨b, off + k * 7 + 1 + 4, none⟩ = some (.int .i64 l[k].tok.status) ∧ w.cell? ⟨b, off + k * 7 + 1 + 5, none⟩ = some (.int .i64 l[k].tok.expiry) := by
  obtain ⟨b, off, e, hb, hc⟩ := h k l[k].cells (by rw [List.getElem?_map, List.getElem?_eq_getElem hk]; rfl)
  exact ⟨b, off, e, hb, hc 0 _ rfl, hc 1 _ rfl, hc 2 _ rfl, hc 3 _ rfl, hc 4 _ rfl, hc 5 _ rfl, hc 6 _ rfl⟩

end Go.Proofs.YtcaicdjlfgpbfaaDoor
