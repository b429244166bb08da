/-
  Rows of integers that the call owns. No function of the program is named here.
-/
import Derived.Test.YtcaicdjlfgpbfaaProg
import Derived.Test.YtcaicdjlfgpbfaaAp
namespace Go.Proofs.Ytcaicdjlfgpbfaa
open Go.RowKit Go.Lib Go.Maps
set_option linter.unusedVariables false

theorem intInfo : (Try.prog.info? 3).map (fun i => (i.zero, i.size, i.bytes)) = some (some (.int .i64 0), 1, 8) := by kernel_rfl

def encN (k : Nat) : List Value := [.int .i64 (k : Int)]
def encZ (z : Int) : List Value := [.int .i64 z]
theorem encN_len (k : Nat) : (encN k).length = 1 := rfl
theorem encZ_len (z : Int) : (encZ z).length = 1 := rfl
def sliceLen : Value → Nat
  | .slice _ n _ => n
  | _ => 0

section
variable {w : World} {base n size : Nat} {e : TypeId} {v : Value} {xs : List Value}
theorem own_shape (h : w.ownsRow base e size v n xs) : ∃ A cap, v = .slice A n cap := by
  rcases h.2 with ⟨rfl, hx⟩ | ⟨g, cap, cur, rfl, _⟩
  · exact ⟨none, 0, by rw [hx]⟩
  · exact ⟨_, _, rfl⟩
theorem own_len (h : w.ownsRow base e size v n xs) : sliceLen v = n := by
  obtain ⟨A, cap, rfl⟩ := own_shape h; rfl
theorem own_split (h : w.ownsRow base e size v n xs) (hn : 0 < n) : ∃ g cap, v = .slice (some ⟨g, 0, none⟩) n cap ∧ base ≤ g ∧ g < w.heap.size ∧ n ≤ cap ∧ cap ≤ maxLen ∧ ∀ j u, xs[j]? = some u → w.cell? ⟨g, j, none⟩ = some u := by
  have h0 := h
  rcases h.2 with ⟨rfl, hx⟩ | ⟨g, cap, cur, rfl, hg, hh, hnc, hcm, hsz, htake⟩
  · omega
  · refine ⟨g, cap, rfl, hg, (Array.getElem?_eq_some_iff.1 hh).1, hnc, hcm, fun j u hj => ?_⟩
    have hx := h0.cells (g := g) rfl j u hj
    have ea : ((⟨g, 0, none⟩ : Addr).add j) = ⟨g, j, none⟩ := by
      unfold Addr.add
      split
      · first | (simp; done) | (simp; omega)
      · simp
    rw [ea] at hx
    exact hx
end

/-- v lies in no memory of w -/
def Fresh (w : World) (v : Value) : Prop := ∀ b off n c, v = .slice (some ⟨b, off, none⟩) n c → w.heap.size ≤ b
theorem fresh_own {w wr : World} {base n size : Nat} {e : TypeId} {v : Value} {xs : List Value} (h : wr.ownsRow base e size v n xs) (hb : w.heap.size ≤ base) : Fresh w v := by
  intro b off m c hv
  rcases h.2 with ⟨rfl, hx⟩ | ⟨g, cap, cur, rfl, hg, _⟩
  · cases hv
  · injection hv with h1 _ _
    injection h1 with h1
    injection h1 with h1 _ _
    omega

theorem int_at {w : World} {A : Option Addr} {l : List Int} (h : SlAt w 1 A (l.map encZ)) {k : Nat} (hk : k < l.length) :
    ∃ b off, A = some ⟨b, off, none⟩ ∧ b < w.heap.size ∧ w.cell? ⟨b, off + k, none⟩ = some (.int .i64 l[k]) := by
  obtain ⟨b, off, e, hb, hc⟩ := h k (encZ l[k]) (by rw [List.getElem?_map, List.getElem?_eq_getElem hk]; rfl)
  refine ⟨b, off, e, hb, ?_⟩
  have := hc 0 _ rfl
  simpa using this


end Go.Proofs.Ytcaicdjlfgpbfaa
