/-
  Walks: Valid of package curtail and of its reference.
-/
import Derived.Test.YtlpjniejbblcnaaDoorWCur1
import Derived.Test.YtlpjniejbblcnaaDoorM1
import Derived.Test.YtlpjniejbblcnaaDoorM3
import Derived.Test.YtlpjniejbblcnaaDoorPLmt4
namespace Go.Proofs.YtlpjniejbblcnaaDoor
open Go.RowKit Go.Lib Go.Maps
attribute [local go_sem] after_cell
set_option linter.unusedVariables false

theorem drewN_belowU {w w' : World} (h : ∃ n, w' = w.drewN n) : Below w.heap.size w w' := by
  obtain ⟨n, rfl⟩ := h
  exact below_drewN (Below.refl _ _) n

set_option maxRecDepth 100000 in
theorem curValid_any (x : CurR) (s : ByteArray) (A B : Option Addr) (n c m d : Nat) (w : World) (hn : x.nm.size ≤ maxLen) (hm : n ≤ maxLen) :
    Calls Tryd.prog 38 #[.agg #[.string x.nm, .int .i64 x.ver, .int .i64 x.fd, .int .i64 x.fr, .int .i64 x.to, .int .i64 x.tot, .bool x.off], .agg #[.string s, .slice A n c, .slice B m d]] w
      fun e w' => e = .returned (.int .i64 (curE x n)) ∧ Below w.heap.size w w' := by
  obtain ⟨W0, hW0, hb0, hg1, hg0, hx0, hy0⟩ := box2 w #[.string x.nm, .int .i64 x.ver, .int .i64 x.fd, .int .i64 x.fr, .int .i64 x.to, .int .i64 x.tot, .bool x.off] 90 #[.string s, .slice A n c, .slice B m d] 30
  unfold maxLen at hm
  have HN := Lib.hid hn
  clear hn
  go_enter Tryd.func38, Tryd.ntmps38
  go_wp2_with fail
  rw [← hW0]
  clear hW0
  go_wp2_with fail
  refine (curCheck_any x n _ HN.out).mono ?_
  rintro e w1 ⟨rfl, hb1⟩
  go_wp2_with fail
  go_ret
  exact ⟨rfl, below_step hb0 hb1⟩

end Go.Proofs.YtlpjniejbblcnaaDoor
