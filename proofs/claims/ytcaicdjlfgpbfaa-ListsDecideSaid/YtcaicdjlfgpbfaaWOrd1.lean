/-
  Walks: slices.Clone of tokens; a copy of the call's own, as it is turned.
-/
import Derived.Test.YtcaicdjlfgpbfaaWToken7
import Derived.Test.YtcaicdjlfgpbfaaAp2
import Derived.Test.YtcaicdjlfgpbfaaBlk
import Derived.Test.YtcaicdjlfgpbfaaOwnI
import Derived.Lib.SliceRun
namespace Go.Proofs.Ytcaicdjlfgpbfaa
open Go.RowKit Go.Lib
attribute [local go_sem] after_cell
set_option linter.unusedVariables false

/-- a list of tokens in a slice that the call made -/
structure MutT (w : World) (B : Nat) (A : Option Addr) (n c : Nat) (M : List Tok) : Prop where
  len : M.length = n
  sl : IsSl w 6 (.slice A n c) (M.map Tok.cells)
  own : 0 < n → ∃ g, A = some ⟨g, 0, none⟩ ∧ B ≤ g ∧ g < w.heap.size ∧ w.ownsRow B 24 6 (.slice A n c) n (M.flatMap Tok.cells)
theorem MutT.below {w w' : World} {B : Nat} {A : Option Addr} {n c : Nat} {M : List Tok} (h : MutT w B A n c M) (hb : Below w.heap.size w w') : MutT w' B A n c M :=
  ⟨h.len, h.sl.below hb, fun hn => by
    obtain ⟨g, h1, h2, h3, h4⟩ := h.own hn
    exact ⟨g, h1, h2, Nat.lt_of_lt_of_le h3 hb.size, own_below h4 hb⟩⟩
theorem MutT.of_own {w : World} {B n : Nat} {v : Value} {M : List Tok} (hM : M.length = n) (h : w.ownsRow B 24 6 v n (M.flatMap Tok.cells)) : ∃ A c, v = .slice A n c ∧ MutT w B A n c M := by
  obtain ⟨A, c, rfl⟩ := own_shape h
  refine ⟨A, c, rfl, hM, IsSl.of_own Tok.cells_len h hM, fun hn => ?_⟩
  obtain ⟨g, cap, e, h1, h2, _⟩ := own_split h hn
  injection e with e1 _ _
  exact ⟨g, e1, h1, h2, h⟩

set_option maxRecDepth 100000 in
set_option maxHeartbeats 6400000 in
theorem cloneTok_any (l : List Tok) (v : Value) (w : World) (hv : IsSl w 6 v (l.map Tok.cells)) (hl : l.length ≤ 128) :
    Calls Try.prog 15 #[v] w fun e w' => ∃ A c, e = .returned (.slice A l.length c) ∧ MutT w' w.heap.size A l.length c l ∧ Below w.heap.size w w' := by
  obtain ⟨A, c, rfl, hlc, hcm, hsl⟩ := islen' hv
  obtain ⟨i0, hi0, hz0, hz1, hz2⟩ := info_parts tokInfo
  have q22 : ∀ (w : World) (a : Option Addr) (n c n' c' : Nat), Sem.run Try.prog (binOp .eql 22 (.slice a n c) (.slice none n' c')) w = .ok (.bool a.isNone) w := fun w a n c n' c' => Lib.run_eql_slice_nil w _ _ a n c n' c' Try.underlying22
  cases A with
  | none =>
    have h0 : l = [] := by
      cases l with
      | nil => rfl
      | cons x l =>
        obtain ⟨b, off, e, _⟩ := hsl 0 _ rfl
        cases e
    subst h0
    go_enter Try.func15, Try.ntmps15
    go_wp2_with fail
    go_ret
    exact ⟨none, 0, rfl, ⟨rfl, IsSl.nil _ _, fun h => absurd h (by simp)⟩, Below.refl _ _⟩
  | some A =>
    go_enter Try.func15, Try.ntmps15
    go_wp2_with (at_builtin; refine wpList_append_list _ rfl (.tmp 5) (.tmp 6) _ rfl w.heap.size 24 i0 _ 6 72 Try.underlying22 hi0 hz0 hz1 hz2 rfl (by decide) Tok.cells_len Tok.one (.slice (some ⟨w.heap.size, 0, none⟩) 0 0) 0 [] rfl (World.ownsRow_lit _ #[] 0 (Nat.le_refl _) (by decide) rfl) (some A) c l rfl (hsl.below ((Below.refl _ _).alloc (Nat.le_refl _) _)) (by unfold maxLen; omega) (by omega) (by simp) ?_; intro v3 w3 hown3 hgrow3 hnil3 hblk3; rw [Nat.zero_add, List.nil_append] at hown3)
    have hb3 : Below w.heap.size w w3 := below_grown ((Below.refl _ _).alloc (Nat.le_refl _) _) (World.ownsRow_lit (size := 6) w #[] 0 (Nat.le_refl _) (by decide) rfl) (Nat.le_refl _) hgrow3
    obtain ⟨A', c', rfl, hM⟩ := MutT.of_own rfl hown3
    go_ret
    exact ⟨A', c', rfl, hM, hb3⟩

end Go.Proofs.Ytcaicdjlfgpbfaa
