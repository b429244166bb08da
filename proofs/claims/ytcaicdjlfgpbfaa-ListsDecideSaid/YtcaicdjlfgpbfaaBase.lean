/-
  Small words for walks: endings, worlds behind calls. No program is named here.
-/
import Derived.WalkKit
import Derived.WalkSpells
import Derived.WalkLawsBesides
import Derived.Deep.QuietTactic
import Derived.BigQuiet
import Derived.Lib.OthersKept
import Derived.Lib.Hide
import Derived.Lib.Strings
import Derived.Lib.SmallJoins
namespace Go.Proofs.Ytcaicdjlfgpbfaa
open Go.RowKit

theorem ret_int {k : IntKind} {a b : Int} (h : a = b) : Ending.returned (.int k a) = .returned (.int k b) := by rw [h]
theorem ret_bool {a b : Bool} (h : a = b) : Ending.returned (.bool a) = .returned (.bool b) := by rw [h]
theorem ret_str {a b : ByteArray} (h : a = b) : Ending.returned (.string a) = .returned (.string b) := by rw [h]

theorem ret_int2 {k k' : IntKind} {a b c d : Int} (h : a = b) (h' : c = d) : Ending.returned (.tuple #[.int k a, .int k' c]) = .returned (.tuple #[.int k b, .int k' d]) := by rw [h, h']
theorem ret_strint {k : IntKind} {a b : ByteArray} {c d : Int} (h : a = b) (h' : c = d) : Ending.returned (.tuple #[.string a, .int k c]) = .returned (.tuple #[.string b, .int k d]) := by rw [h, h']

theorem below_drewN {B : Nat} {a w : World} (h : Below B a w) (n : Nat) : Below B a (w.drewN n) := h.trans ⟨rfl, rfl, rfl, Nat.le_refl _, fun _ _ => rfl⟩

theorem iterPos_of {w : World} {k : Nat} {s : ByteArray} {p : Nat} (h : w.heap[k]? = some (.stringIter s p)) : w.iterPos k = p := by simp [World.iterPos, h]

/-- the world behind a call that only made memory: all old cells and marks read as before -/
theorem bcell {W w1 : World} (hb : Below W.heap.size W w1) : (∀ b o, b < W.heap.size → w1.cell? ⟨b, o, none⟩ = W.cell? ⟨b, o, none⟩) ∧ (∀ b o, b < W.heap.size → w1.frozen? ⟨b, o, none⟩ = W.frozen? ⟨b, o, none⟩) :=
  ⟨fun b o h => hb.cell (p := ⟨b, o, none⟩) h, fun b o h => hb.frozen (p := ⟨b, o, none⟩) h⟩

theorem blk_alloc {w : World} {k : Nat} {x : Obj} (h : w.heap[k]? = some x) (o : Obj) : (w.alloc o).heap[k]? = some x := by
  have hk : k < w.heap.size := (Array.getElem?_eq_some_iff.1 h).1
  rw [Below.heap_alloc _ _ _ hk]; exact h
theorem blk_below {B : Nat} {w w' : World} {k : Nat} {x : Obj} (h : w.heap[k]? = some x) (hb : Below B w w') (hk : k < B) : w'.heap[k]? = some x := (hb.block k hk).trans h
theorem blk_lt {w : World} {k : Nat} {x : Obj} (h : w.heap[k]? = some x) : k < w.heap.size := (Array.getElem?_eq_some_iff.1 h).1

theorem quiet_left {P : Program} {f : FuncId} {args : Array Value} {w : World} {n : Nat} {v : Value}
    (h : Calls P f args (w.drewN n) fun e w' => e = .returned v ∧ w.drewN n = w') : Calls P f args (w.drewN n) fun e w' => e = .returned v ∧ ∃ m, w' = w.drewN m :=
  h.mono fun _ _ ⟨he, hm⟩ => ⟨he, n, hm.symm⟩
theorem quiet_add_left {P : Program} {f : FuncId} {args : Array Value} {w : World} {a n : Nat} {v : Value}
    (h : Calls P f args (w.drewN (a + n)) fun e w' => e = .returned v ∧ w.drewN (a + n) = w') :
    Calls P f args (w.drewN (a + n)) fun e w'' => e = .returned v ∧ ∃ m, w'' = w.drewN (a + m) :=
  h.mono fun _ _ ⟨he, hm⟩ => ⟨he, n, hm.symm⟩

theorem drewN_more {w wr : World} (h : Hid (∃ n, wr = w.drewN n)) (m : Nat) : ∃ n, wr.drewN m = w.drewN n := by
  obtain ⟨n, rfl⟩ := h.out
  exact ⟨n + m, by rw [World.drewN_drewN]⟩

theorem below_step {w W0 w' : World} (h0 : Below w.heap.size w W0) (hb : Below W0.heap.size W0 w') : Below w.heap.size w w' := h0.trans (hb.mono h0.size)
theorem below_alloc {w W : World} (h : Below w.heap.size w W) (o : Obj) : Below w.heap.size w (W.alloc o) := h.alloc h.size o
theorem below_drew {w W : World} (h : Below w.heap.size w W) : Below w.heap.size w W.drew := h.drew
theorem below_set {w W : World} (h : Below w.heap.size w W) {p : Addr} (hp : w.heap.size ≤ p.block) (u : Value) : Below w.heap.size w (W.setCell p u) := h.setCell hp u
theorem below_iter {w W : World} (h : Below w.heap.size w W) (s : ByteArray) (p : Nat) : Below w.heap.size w (W.iter s p) := h.alloc h.size _

/-- A new row of n cells, the call's own: cell j holds f j, none is frozen. -/
def Row (w : World) (g n : Nat) (f : Nat → Value) : Prop := g < w.heap.size ∧ ∀ j, j < n → w.cell? ⟨g, j, none⟩ = some (f j) ∧ w.frozen? ⟨g, j, none⟩ = false

theorem Row.cell {w : World} {g n : Nat} {f : Nat → Value} (h : Row w g n f) {j : Nat} (hj : j < n) : w.cell? ⟨g, j, none⟩ = some (f j) := (h.2 j hj).1
theorem Row.frozen {w : World} {g n : Nat} {f : Nat → Value} (h : Row w g n f) {j : Nat} (hj : j < n) : w.frozen? ⟨g, j, none⟩ = false := (h.2 j hj).2
theorem Row.below {w w' : World} {g n B : Nat} {f : Nat → Value} (h : Row w g n f) (hb : Below B w w') (hg : g < B) : Row w' g n f :=
  ⟨Nat.lt_of_lt_of_le h.1 hb.size, fun j hj => ⟨(hb.cell (p := ⟨g, j, none⟩) hg).trans (h.cell hj), (hb.frozen (p := ⟨g, j, none⟩) hg).trans (h.frozen hj)⟩⟩
theorem Row.grown {w w' : World} {g n : Nat} {f : Nat → Value} (h : Row w g n f) (hb : Below w.heap.size w w') : Row w' g n f := h.below hb h.1
theorem Row.alloc {w : World} {g n : Nat} {f : Nat → Value} (h : Row w g n f) (o : Obj) : Row (w.alloc o) g n f := h.grown ((Below.refl _ _).alloc (Nat.le_refl _) o)
theorem Row.drew {w : World} {g n : Nat} {f : Nat → Value} (h : Row w g n f) : Row w.drew g n f := h
theorem Row.drewN {w : World} {g n : Nat} {f : Nat → Value} (h : Row w g n f) (k : Nat) : Row (w.drewN k) g n f := h
theorem Row.congr {w : World} {g n : Nat} {f f' : Nat → Value} (h : Row w g n f) (he : ∀ j, j < n → f j = f' j) : Row w g n f' :=
  ⟨h.1, fun j hj => ⟨by rw [← he j hj]; exact h.cell hj, h.frozen hj⟩⟩
theorem Row.set {w : World} {g n : Nat} {f : Nat → Value} (h : Row w g n f) (k : Nat) (u : Value) :
    Row (w.setCell ⟨g, k, none⟩ u) g n (fun j => if j = k then u else f j) := by
  refine ⟨by simpa [World.setCell] using h.1, fun j hj => ⟨?_, by rw [World.frozen?_setCell]; exact h.frozen hj⟩⟩
  by_cases e : j = k
  · subst e
    rw [World.cell?_setCell_same _ _ _ (h.cell hj)]
    simp
  · rw [World.cell?_setCell_other w ⟨g, k, none⟩ ⟨g, j, none⟩ u (by intro x; injection x; omega)]
    simp only [e, if_false]
    exact h.cell hj
theorem Row.other {w : World} {g n : Nat} {f : Nat → Value} (h : Row w g n f) {p : Addr} (hp : p.block ≠ g) (u : Value) : Row (w.setCell p u) g n f := by
  have hb := Below.heap_setCell w p u g (Ne.symm hp)
  exact ⟨by simpa [World.setCell] using h.1, fun j hj => ⟨(World.cell?_of_block (a := ⟨g, j, none⟩) hb).trans (h.cell hj), (World.frozen?_of_block (a := ⟨g, j, none⟩) hb).trans (h.frozen hj)⟩⟩

/-- What '[]byte(s)' lays, said of a world by its row alone. -/
theorem bytes_row (w : World) (e : TypeId) (s : ByteArray) (c : Nat) :
    Row ((w.drew).alloc (.cells (bytesRow s c) e ((bytesRow s c).size, (bytesRow s c).size + 1))) w.heap.size s.size (fun j => .int .u8 ((s.data.toList.getD j 0).toNat : Int)) := by
  refine ⟨by simp, fun j hj => ⟨?_, ?_⟩⟩
  · have hj' : j < s.data.size := hj
    have h1 := World.cell?_alloc_mark w.drew (bytesRow s c) e ((bytesRow s c).size, (bytesRow s c).size + 1) j
    have h2 : w.drew.heap.size = w.heap.size := rfl
    rw [h2] at h1
    rw [h1, bytesRow_at s c j hj']
    simp [List.getD_eq_getElem?_getD, Array.getElem?_eq_getElem hj']
  · have h1 := World.frozen?_alloc_mark w.drew (bytesRow s c) e (bytesRow s c).size ((bytesRow s c).size + 1) j
    have h2 : w.drew.heap.size = w.heap.size := rfl
    rw [h2] at h1
    rw [h1]
    have : s.size ≤ (bytesRow s c).size := by simp [bytesRow]
    simp; omega

/-- '[]byte(s)': its row, the world behind it a letter. -/
theorem bytes_conv {P : Program} (w : World) (src dst e : TypeId) (s : ByteArray) (hs : P.underlying src = some .string) (hd : P.underlying dst = some (.slice e)) (he : P.underlying e = some (.int .u8)) :
    ∃ (c : Nat) (w1 : World), (convert src dst (.string s)).run P w = .ok (.slice (some ⟨w.heap.size, 0, none⟩) s.size c) w1 ∧ Below w.heap.size w w1 ∧ w1.heap.size = w.heap.size + 1 ∧
      Row w1 w.heap.size s.size (fun j => .int .u8 ((s.data.toList.getD j 0).toNat : Int)) :=
  ⟨_, _, run_bytes_of_string w src dst e s hs hd he, ((Below.refl _ _).drew).alloc (Nat.le_refl _) _, by simp, bytes_row w e s _⟩

/-- 'string(b)' of a row of bytes. -/
theorem bytes_back {P : Program} (w : World) (src dst e : TypeId) (g n c : Nat) (l : List UInt8) (hs : P.underlying src = some (.slice e)) (he : P.underlying e = some (.int .u8)) (hd : P.underlying dst = some .string)
    (hl : l.length = n) (f : Nat → Value) (hr : Row w g n f) (hf : ∀ j, j < n → f j = .int .u8 ((l.getD j 0).toNat : Int)) :
    (convert src dst (.slice (some ⟨g, 0, none⟩) n c)).run P w = .ok (.string ⟨l.toArray⟩) w := by
  subst hl
  refine run_convert_bytes_back w src dst e ⟨g, 0, none⟩ c l hs he hd (fun j hj => ?_)
  have h := hr.cell hj
  rw [hf j hj] at h
  have ha : (⟨g, 0, none⟩ : Addr).add j = ⟨g, j, none⟩ := by simp [Addr.add]; omega
  rw [ha, h]
  simp [List.getD_eq_getElem?_getD, List.getElem?_eq_getElem hj]

/-- 'string([]byte{x})' -/
theorem one_byte {P : Program} (src dst e : TypeId) (hs : P.underlying src = some (.slice e)) (he : P.underlying e = some (.int .u8)) (hd : P.underlying dst = some .string)
    (x : Int) (h0 : 0 ≤ x) (h1 : x ≤ 255) (w : World) :
    (convert src dst (.slice (some ⟨w.heap.size, 0, none⟩) 1 1)).run P (w.alloc (.cells #[.int .u8 x] e)) = .ok (.string ⟨#[UInt8.ofNat x.toNat]⟩) (w.alloc (.cells #[.int .u8 x] e)) := by
  have hr : Row (w.alloc (.cells #[.int .u8 x] e)) w.heap.size 1 (fun _ => .int .u8 x) := by
    refine ⟨by simp, fun j hj => ?_⟩
    obtain rfl : j = 0 := by omega
    exact ⟨World.cell?_alloc_mark w #[.int .u8 x] e (0, 0) 0, by rw [World.frozen?_alloc_mark w #[.int .u8 x] e 0 0 0]; rfl⟩
  refine bytes_back (P := P) _ src dst e w.heap.size 1 1 [UInt8.ofNat x.toNat] hs he hd rfl _ hr (fun j hj => ?_)
  obtain rfl : j = 0 := by omega
  simp
  omega

end Go.Proofs.Ytcaicdjlfgpbfaa
