/-
  Regions that draw their order beside calls that make memory: one walk, in the order of the text, in any world in which the old memory reads as it did. No program is named here.
-/
import Derived.Test.YtcaicdjlfgpbfaaBase
import Derived.Deep.RegionWith
import Derived.Deep.DrawnRows
namespace Go.Proofs.Ytcaicdjlfgpbfaa
open Go.RowKit
set_option linter.unusedVariables false

/-- old memory reads as it did in W -/
def Kept (W w : World) : Prop := (∀ b o, b < W.heap.size → w.cell? ⟨b, o, none⟩ = W.cell? ⟨b, o, none⟩) ∧ Below W.heap.size W w
theorem Kept.of {W w : World} (h : Below W.heap.size W w) : Kept W w := ⟨(bcell h).1, h⟩
theorem Kept.refl (W : World) : Kept W W := .of (Below.refl _ _)
theorem Kept.below {W w w' : World} (h : Kept W w) (hb : Below w.heap.size w w') : Kept W w' := .of (below_step h.2 hb)
theorem Kept.drew {W w : World} (h : Kept W w) : Kept W w.drew := .of h.2.drew

/-- some world in which old memory reads as in W -/
def KeptOf (W : World) : Type := { w : World // Kept W w }
instance keptSome (W : World) : Nonempty (KeptOf W) := ⟨⟨W, Kept.refl W⟩⟩
def after {W : World} (x : KeptOf W) : World := x.1
theorem after_kept {W : World} (x : KeptOf W) : Kept W (after x) := x.2
theorem after_cell {W : World} (x : KeptOf W) {b o : Nat} (h : b < W.heap.size) : (after x).cell? ⟨b, o, none⟩ = W.cell? ⟨b, o, none⟩ := x.2.1 b o h

section
variable {P : Program}

theorem wp_region_kept {id : Nat} {Q : Exit → Act → World → Prop} {a : Act} (W : World) {w : World} {l : List Oper} (hm : P.follows .mixedOrders = true) (hB : Region.lexB .any l.toArray = true) (hK : Below W.heap.size W w)
    (h : wpQuiet P l.toArray (fun w' => ∃ x : KeptOf W, w' = after x) (fun a' => ∀ w', (∃ x : KeptOf W, w' = after x) → Q .normal a' w') l a) : (Code.region id l.toArray true).wp P Q a w :=
  wp_region_quiet (C := fun w' => ∃ x : KeptOf W, w' = after x) hm hB ⟨⟨_, (Kept.of hK).drew⟩, rfl⟩ (by simpa using h)

/-- a callee that only makes memory -/
theorem kept_call {W : World} {x : KeptOf W} {f : FuncId} {args : Array Value} {v : Value} (h : Calls P f args (after x) fun e w' => e = .returned v ∧ Below (after x).heap.size (after x) w') :
    Calls P f args (after x) fun e w' => e = .returned v ∧ ∃ y : KeptOf W, w' = after y :=
  h.mono fun _ w' ⟨he, hb⟩ => ⟨he, ⟨w', (after_kept x).below hb⟩, rfl⟩
/-- a callee that only draws -/
theorem kept_quiet {W : World} {x : KeptOf W} {f : FuncId} {args : Array Value} {v : Value} (h : Calls P f args (after x) fun e w' => e = .returned v ∧ ∃ n, w' = (after x).drewN n) :
    Calls P f args (after x) fun e w' => e = .returned v ∧ ∃ y : KeptOf W, w' = after y :=
  kept_call (h.mono fun _ w' ⟨he, n, hn⟩ => ⟨he, hn ▸ below_drewN (Below.refl _ _) n⟩)
/-- a callee that leaves the world alone -/
theorem kept_same {W : World} {x : KeptOf W} {f : FuncId} {args : Array Value} {v : Value} (h : Calls P f args (after x) fun e w' => e = .returned v ∧ after x = w') :
    Calls P f args (after x) fun e w' => e = .returned v ∧ ∃ y : KeptOf W, w' = after y :=
  h.mono fun _ w' ⟨he, hn⟩ => ⟨he, x, hn.symm⟩
end

end Go.Proofs.Ytcaicdjlfgpbfaa
