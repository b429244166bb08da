/-
  Plain functions on characters and strings: what package ident and its reference compute. No program is named here.
  Small words for walks: endings, worlds behind calls. No program is named here.
  Slices whose elements take a fixed number of cells: a slice value that reads as a list of rows. No program is named here.
  Plain facts: sites.
  A map of strings to bools that the call makes: names that are taken. No program is named here.
  Walks: the leaves of package ident and of its reference.
  Walks: identifiers, and what consists of letters and digits, in package ident and in its reference.
  Plain facts: capitals and small letters of ASCII text.
  strings.ToUpper and strings.ToLower of ASCII text.
  Walks: the leaves of package site: powers, feeders, names that are taken.
  Boxed parameters, by name. No program is named here.
  Regions that draw their order beside calls that make memory: one walk, in the order of the text, in any world in which the old memory reads as it did. No program is named here.
-/
import Derived.WalkKit
import Derived.WalkSpells
import Derived.WalkLawsBesides
import Derived.Deep.QuietTactic
import Derived.BigQuiet
import Derived.Lib.OthersKept
import Derived.Lib.Hide
import Derived.Lib.Strings
import Derived.Lib.SmallJoins
import Derived.Maps.AppendAt
import Derived.Maps.OwnOps
import Derived.Maps.Views
import Derived.Maps.Keyed
import Derived.StringKeys
import Derived.Test.YtlpjniejbblcnaaDoorProg
import Derived.Lib.Case
import Derived.Test.YtlpjniejbblcnaaDoorShelf
import Derived.Deep.RegionHeld3
import Derived.Deep.RegionWith
import Derived.Deep.DrawnRows

namespace Go.Proofs.YtlpjniejbblcnaaDoor

/-- a byte, as a number, as a capital -/
def capI (c : Int) : Int := if 97 ≤ c ∧ c ≤ 122 then c - 32 else c

/-- the value of a digit or a letter, or -1 -/
def valI (r : Int) : Int :=
  if 48 ≤ r ∧ r ≤ 57 then r - 48 else if 65 ≤ r ∧ r ≤ 90 then r - 55 else if 97 ≤ r ∧ r ≤ 122 then r - 87 else -1

/-- the reference's letters -/
def letterAt (k : Nat) : Int := if k < 10 then 48 + (k : Int) else 55 + (k : Int)

theorem valI_lt (r : Int) : -1 ≤ valI r ∧ valI r < 36 := by unfold valI; (repeat' split) <;> omega
theorem capI_range (c : Int) (h0 : 0 ≤ c) (h1 : c ≤ 255) : 0 ≤ capI c ∧ capI c ≤ 255 := by unfold capI; split <;> omega
theorem valI_high (r : Int) (h : 123 ≤ r) : valI r = -1 := by unfold valI; (repeat' split) <;> omega

theorem letter_hit (c : Int) (k : Nat) (hk : k < 36) (h : letterAt k = capI c) : valI c = k := by
  unfold letterAt capI at h; unfold valI
  (repeat' split at h) <;> (repeat' split) <;> omega
theorem letter_miss (c : Int) (h : ∀ j : Nat, j < 36 → ¬ letterAt j = capI c) : valI c = -1 := by
  unfold valI
  (repeat' split)
  · have := h (c - 48).toNat (by omega); exfalso; apply this; unfold letterAt capI; (repeat' split) <;> omega
  · have := h (c - 55).toNat (by omega); exfalso; apply this; unfold letterAt capI; (repeat' split) <;> omega
  · have := h (c - 87).toNat (by omega); exfalso; apply this; unfold letterAt capI; (repeat' split) <;> omega
  · rfl

/-- the bytes that an identifier may have, as numbers (of runes or bytes) -/
def okC (r : Int) : Bool := decide (0 ≤ valI r) || (r == 45 || r == 95 || r == 46 || r == 58 || r == 42)

theorem okC_high (r : Int) (h : 123 ≤ r) : okC r = false := by
  have hv := valI_high r h
  have h1 : (r == 45) = false := by simp; omega
  have h2 : (r == 95) = false := by simp; omega
  have h3 : (r == 46) = false := by simp; omega
  have h4 : (r == 58) = false := by simp; omega
  have h5 : (r == 42) = false := by simp; omega
  simp [okC, hv, h1, h2, h3, h4, h5]

def validL (l : List UInt8) : Bool := decide (1 ≤ l.length) && decide (l.length ≤ 36) && l.all (fun b => okC b.toNat)

def sumStep (p v : Int) : Int := if (p + v) % 36 = 0 then 35 else 2 * ((p + v) % 36) % 37

theorem sumStep_range (p v : Int) : 1 ≤ sumStep p v ∧ sumStep p v ≤ 36 := by
  unfold sumStep
  split
  · omega
  · have h1 : 0 ≤ (p + v) % 36 := Int.emod_nonneg _ (by omega)
    have h2 : (p + v) % 36 < 36 := Int.emod_lt_of_pos _ (by omega)
    omega

/-- the sum and the number of the characters that have a value -/
def sumL : List UInt8 → Int → Int → Int × Int
  | [], p, n => (p, n)
  | b :: l, p, n => if valI b.toNat < 0 then sumL l p n else sumL l (sumStep p (valI b.toNat)) (n + 1)

theorem sumL_append (l : List UInt8) (b : UInt8) (p n : Int) :
    sumL (l ++ [b]) p n = if valI b.toNat < 0 then sumL l p n else (sumStep (sumL l p n).1 (valI b.toNat), (sumL l p n).2 + 1) := by
  induction l generalizing p n with
  | nil => simp [sumL]
  | cons a l ih => simp only [List.cons_append, sumL]; split <;> simp [ih]

theorem sumL_range (l : List UInt8) (p n : Int) (hp : 1 ≤ p ∧ p ≤ 36) : 1 ≤ (sumL l p n).1 ∧ (sumL l p n).1 ≤ 36 := by
  induction l generalizing p n with
  | nil => simpa [sumL] using hp
  | cons a l ih => simp only [sumL]; split; exact ih _ _ hp; exact ih _ _ (sumStep_range _ _)

theorem sumL_count (l : List UInt8) (p n : Int) : n ≤ (sumL l p n).2 ∧ (sumL l p n).2 ≤ n + l.length := by
  induction l generalizing p n with
  | nil => simp [sumL]
  | cons a l ih =>
    simp only [sumL, List.length_cons]
    split
    · have := ih p n; omega
    · have := ih (sumStep p (valI a.toNat)) (n + 1); omega

/-- the character of a number below 36 -/
def chrI (c : Int) : Int := if c < 10 then 48 + c else 55 + c

/-- the check character and the error -/
def checkC (l : List UInt8) : Int := if validL l && decide (0 < (sumL l 36 0).2) then chrI ((37 - (sumL l 36 0).1) % 36) else 0
def checkE (l : List UInt8) : Int := if validL l && decide (0 < (sumL l 36 0).2) then 0 else 4

def alnumL (l : List UInt8) (n least : Int) : Bool := decide ((l.length : Int) = n) && l.all (fun b => decide (least ≤ valI b.toNat))

def capU (b : UInt8) : UInt8 := if 97 ≤ b.toNat ∧ b.toNat ≤ 122 then b - 32 else b
theorem capU_capI (b : UInt8) : ((capU b).toNat : Int) = capI b.toNat := by
  unfold capU capI
  have hb := b.toNat_lt
  split
  · rename_i h
    rw [if_pos (by omega)]
    have : (32 : UInt8) ≤ b := by rw [UInt8.le_iff_toNat_le]; have : (32 : UInt8).toNat = 32 := rfl; omega
    rw [UInt8.toNat_sub_of_le _ _ this]
    have : (32 : UInt8).toNat = 32 := rfl
    omega
  · rename_i h
    rw [if_neg (by omega)]

def capL (l : List UInt8) : List UInt8 := l.map capU
def capS (s : ByteArray) : ByteArray := ⟨(capL s.data.toList).toArray⟩

/-- equal without regard to case -/
def sameS (a b : ByteArray) : Bool := decide (capL a.data.toList = capL b.data.toList)

end Go.Proofs.YtlpjniejbblcnaaDoor

namespace Go.Proofs.YtlpjniejbblcnaaDoor
open Go.RowKit

theorem ret_int {k : IntKind} {a b : Int} (h : a = b) : Ending.returned (.int k a) = .returned (.int k b) := by rw [h]
theorem ret_bool {a b : Bool} (h : a = b) : Ending.returned (.bool a) = .returned (.bool b) := by rw [h]
theorem ret_str {a b : ByteArray} (h : a = b) : Ending.returned (.string a) = .returned (.string b) := by rw [h]

theorem ret_int2 {k k' : IntKind} {a b c d : Int} (h : a = b) (h' : c = d) : Ending.returned (.tuple #[.int k a, .int k' c]) = .returned (.tuple #[.int k b, .int k' d]) := by rw [h, h']
theorem ret_strint {k : IntKind} {a b : ByteArray} {c d : Int} (h : a = b) (h' : c = d) : Ending.returned (.tuple #[.string a, .int k c]) = .returned (.tuple #[.string b, .int k d]) := by rw [h, h']

theorem below_drewN {B : Nat} {a w : World} (h : Below B a w) (n : Nat) : Below B a (w.drewN n) := h.trans ⟨rfl, rfl, rfl, Nat.le_refl _, fun _ _ => rfl⟩

theorem iterPos_of {w : World} {k : Nat} {s : ByteArray} {p : Nat} (h : w.heap[k]? = some (.stringIter s p)) : w.iterPos k = p := by simp [World.iterPos, h]

/-- the world behind a call that only made memory: all old cells and marks read as before -/
theorem bcell {W w1 : World} (hb : Below W.heap.size W w1) : (∀ b o, b < W.heap.size → w1.cell? ⟨b, o, none⟩ = W.cell? ⟨b, o, none⟩) ∧ (∀ b o, b < W.heap.size → w1.frozen? ⟨b, o, none⟩ = W.frozen? ⟨b, o, none⟩) :=
  ⟨fun b o h => hb.cell (p := ⟨b, o, none⟩) h, fun b o h => hb.frozen (p := ⟨b, o, none⟩) h⟩

theorem blk_alloc {w : World} {k : Nat} {x : Obj} (h : w.heap[k]? = some x) (o : Obj) : (w.alloc o).heap[k]? = some x := by
  have hk : k < w.heap.size := (Array.getElem?_eq_some_iff.1 h).1
  rw [Below.heap_alloc _ _ _ hk]; exact h
theorem blk_below {B : Nat} {w w' : World} {k : Nat} {x : Obj} (h : w.heap[k]? = some x) (hb : Below B w w') (hk : k < B) : w'.heap[k]? = some x := (hb.block k hk).trans h
theorem blk_lt {w : World} {k : Nat} {x : Obj} (h : w.heap[k]? = some x) : k < w.heap.size := (Array.getElem?_eq_some_iff.1 h).1

theorem quiet_left {P : Program} {f : FuncId} {args : Array Value} {w : World} {n : Nat} {v : Value}
    (h : Calls P f args (w.drewN n) fun e w' => e = .returned v ∧ w.drewN n = w') : Calls P f args (w.drewN n) fun e w' => e = .returned v ∧ ∃ m, w' = w.drewN m :=
  h.mono fun _ _ ⟨he, hm⟩ => ⟨he, n, hm.symm⟩
theorem quiet_add_left {P : Program} {f : FuncId} {args : Array Value} {w : World} {a n : Nat} {v : Value}
    (h : Calls P f args (w.drewN (a + n)) fun e w' => e = .returned v ∧ w.drewN (a + n) = w') :
    Calls P f args (w.drewN (a + n)) fun e w'' => e = .returned v ∧ ∃ m, w'' = w.drewN (a + m) :=
  h.mono fun _ _ ⟨he, hm⟩ => ⟨he, n, hm.symm⟩

theorem drewN_more {w wr : World} (h : Hid (∃ n, wr = w.drewN n)) (m : Nat) : ∃ n, wr.drewN m = w.drewN n := by
  obtain ⟨n, rfl⟩ := h.out
  exact ⟨n + m, by rw [World.drewN_drewN]⟩

theorem below_step {w W0 w' : World} (h0 : Below w.heap.size w W0) (hb : Below W0.heap.size W0 w') : Below w.heap.size w w' := h0.trans (hb.mono h0.size)
theorem below_alloc {w W : World} (h : Below w.heap.size w W) (o : Obj) : Below w.heap.size w (W.alloc o) := h.alloc h.size o
theorem below_drew {w W : World} (h : Below w.heap.size w W) : Below w.heap.size w W.drew := h.drew
theorem below_set {w W : World} (h : Below w.heap.size w W) {p : Addr} (hp : w.heap.size ≤ p.block) (u : Value) : Below w.heap.size w (W.setCell p u) := h.setCell hp u
theorem below_iter {w W : World} (h : Below w.heap.size w W) (s : ByteArray) (p : Nat) : Below w.heap.size w (W.iter s p) := h.alloc h.size _

/-- A new row of n cells, the call's own: cell j holds f j, none is frozen. -/
def Row (w : World) (g n : Nat) (f : Nat → Value) : Prop := g < w.heap.size ∧ ∀ j, j < n → w.cell? ⟨g, j, none⟩ = some (f j) ∧ w.frozen? ⟨g, j, none⟩ = false

theorem Row.cell {w : World} {g n : Nat} {f : Nat → Value} (h : Row w g n f) {j : Nat} (hj : j < n) : w.cell? ⟨g, j, none⟩ = some (f j) := (h.2 j hj).1
theorem Row.frozen {w : World} {g n : Nat} {f : Nat → Value} (h : Row w g n f) {j : Nat} (hj : j < n) : w.frozen? ⟨g, j, none⟩ = false := (h.2 j hj).2
theorem Row.below {w w' : World} {g n B : Nat} {f : Nat → Value} (h : Row w g n f) (hb : Below B w w') (hg : g < B) : Row w' g n f :=
  ⟨Nat.lt_of_lt_of_le h.1 hb.size, fun j hj => ⟨(hb.cell (p := ⟨g, j, none⟩) hg).trans (h.cell hj), (hb.frozen (p := ⟨g, j, none⟩) hg).trans (h.frozen hj)⟩⟩
theorem Row.grown {w w' : World} {g n : Nat} {f : Nat → Value} (h : Row w g n f) (hb : Below w.heap.size w w') : Row w' g n f := h.below hb h.1
theorem Row.alloc {w : World} {g n : Nat} {f : Nat → Value} (h : Row w g n f) (o : Obj) : Row (w.alloc o) g n f := h.grown ((Below.refl _ _).alloc (Nat.le_refl _) o)
theorem Row.drew {w : World} {g n : Nat} {f : Nat → Value} (h : Row w g n f) : Row w.drew g n f := h
theorem Row.drewN {w : World} {g n : Nat} {f : Nat → Value} (h : Row w g n f) (k : Nat) : Row (w.drewN k) g n f := h
theorem Row.congr {w : World} {g n : Nat} {f f' : Nat → Value} (h : Row w g n f) (he : ∀ j, j < n → f j = f' j) : Row w g n f' :=
  ⟨h.1, fun j hj => ⟨by rw [← he j hj]; exact h.cell hj, h.frozen hj⟩⟩
theorem Row.set {w : World} {g n : Nat} {f : Nat → Value} (h : Row w g n f) (k : Nat) (u : Value) :
    Row (w.setCell ⟨g, k, none⟩ u) g n (fun j => if j = k then u else f j) := by
  refine ⟨by simpa [World.setCell] using h.1, fun j hj => ⟨?_, by rw [World.frozen?_setCell]; exact h.frozen hj⟩⟩
  by_cases e : j = k
  · subst e
    rw [World.cell?_setCell_same _ _ _ (h.cell hj)]
    simp
  · rw [World.cell?_setCell_other w ⟨g, k, none⟩ ⟨g, j, none⟩ u (by intro x; injection x; omega)]
    simp only [e, if_false]
    exact h.cell hj
theorem Row.other {w : World} {g n : Nat} {f : Nat → Value} (h : Row w g n f) {p : Addr} (hp : p.block ≠ g) (u : Value) : Row (w.setCell p u) g n f := by
  have hb := Below.heap_setCell w p u g (Ne.symm hp)
  exact ⟨by simpa [World.setCell] using h.1, fun j hj => ⟨(World.cell?_of_block (a := ⟨g, j, none⟩) hb).trans (h.cell hj), (World.frozen?_of_block (a := ⟨g, j, none⟩) hb).trans (h.frozen hj)⟩⟩

/-- What '[]byte(s)' lays, said of a world by its row alone. -/
theorem bytes_row (w : World) (e : TypeId) (s : ByteArray) (c : Nat) :
    Row ((w.drew).alloc (.cells (bytesRow s c) e ((bytesRow s c).size, (bytesRow s c).size + 1))) w.heap.size s.size (fun j => .int .u8 ((s.data.toList.getD j 0).toNat : Int)) := by
  refine ⟨by simp, fun j hj => ⟨?_, ?_⟩⟩
  · have hj' : j < s.data.size := hj
    have h1 := World.cell?_alloc_mark w.drew (bytesRow s c) e ((bytesRow s c).size, (bytesRow s c).size + 1) j
    have h2 : w.drew.heap.size = w.heap.size := rfl
    rw [h2] at h1
    rw [h1, bytesRow_at s c j hj']
    simp [List.getD_eq_getElem?_getD, Array.getElem?_eq_getElem hj']
  · have h1 := World.frozen?_alloc_mark w.drew (bytesRow s c) e (bytesRow s c).size ((bytesRow s c).size + 1) j
    have h2 : w.drew.heap.size = w.heap.size := rfl
    rw [h2] at h1
    rw [h1]
    have : s.size ≤ (bytesRow s c).size := by simp [bytesRow]
    simp; omega

/-- '[]byte(s)': its row, the world behind it a letter. -/
theorem bytes_conv {P : Program} (w : World) (src dst e : TypeId) (s : ByteArray) (hs : P.underlying src = some .string) (hd : P.underlying dst = some (.slice e)) (he : P.underlying e = some (.int .u8)) :
    ∃ (c : Nat) (w1 : World), (convert src dst (.string s)).run P w = .ok (.slice (some ⟨w.heap.size, 0, none⟩) s.size c) w1 ∧ Below w.heap.size w w1 ∧ w1.heap.size = w.heap.size + 1 ∧
      Row w1 w.heap.size s.size (fun j => .int .u8 ((s.data.toList.getD j 0).toNat : Int)) :=
  ⟨_, _, run_bytes_of_string w src dst e s hs hd he, ((Below.refl _ _).drew).alloc (Nat.le_refl _) _, by simp, bytes_row w e s _⟩

/-- 'string(b)' of a row of bytes. -/
theorem bytes_back {P : Program} (w : World) (src dst e : TypeId) (g n c : Nat) (l : List UInt8) (hs : P.underlying src = some (.slice e)) (he : P.underlying e = some (.int .u8)) (hd : P.underlying dst = some .string)
    (hl : l.length = n) (f : Nat → Value) (hr : Row w g n f) (hf : ∀ j, j < n → f j = .int .u8 ((l.getD j 0).toNat : Int)) :
    (convert src dst (.slice (some ⟨g, 0, none⟩) n c)).run P w = .ok (.string ⟨l.toArray⟩) w := by
  subst hl
  refine run_convert_bytes_back w src dst e ⟨g, 0, none⟩ c l hs he hd (fun j hj => ?_)
  have h := hr.cell hj
  rw [hf j hj] at h
  have ha : (⟨g, 0, none⟩ : Addr).add j = ⟨g, j, none⟩ := by simp [Addr.add]; omega
  rw [ha, h]
  simp [List.getD_eq_getElem?_getD, List.getElem?_eq_getElem hj]

/-- 'string([]byte{x})' -/
theorem one_byte {P : Program} (src dst e : TypeId) (hs : P.underlying src = some (.slice e)) (he : P.underlying e = some (.int .u8)) (hd : P.underlying dst = some .string)
    (x : Int) (h0 : 0 ≤ x) (h1 : x ≤ 255) (w : World) :
    (convert src dst (.slice (some ⟨w.heap.size, 0, none⟩) 1 1)).run P (w.alloc (.cells #[.int .u8 x] e)) = .ok (.string ⟨#[UInt8.ofNat x.toNat]⟩) (w.alloc (.cells #[.int .u8 x] e)) := by
  have hr : Row (w.alloc (.cells #[.int .u8 x] e)) w.heap.size 1 (fun _ => .int .u8 x) := by
    refine ⟨by simp, fun j hj => ?_⟩
    obtain rfl : j = 0 := by omega
    exact ⟨World.cell?_alloc_mark w #[.int .u8 x] e (0, 0) 0, by rw [World.frozen?_alloc_mark w #[.int .u8 x] e 0 0 0]; rfl⟩
  refine bytes_back (P := P) _ src dst e w.heap.size 1 1 [UInt8.ofNat x.toNat] hs he hd rfl _ hr (fun j hj => ?_)
  obtain rfl : j = 0 := by omega
  simp
  omega

end Go.Proofs.YtlpjniejbblcnaaDoor

namespace Go.Proofs.YtlpjniejbblcnaaDoor
open Go.RowKit

/-- The address A reads as these rows of 'size' cells each: nothing is asked where there is no row. -/
def SlAt (w : World) (size : Nat) (A : Option Addr) (rows : List (List Value)) : Prop :=
  ∀ k row, rows[k]? = some row → ∃ b off, A = some ⟨b, off, none⟩ ∧ b < w.heap.size ∧ ∀ j u, row[j]? = some u → w.cell? ⟨b, off + k * size + j, none⟩ = some u

/-- The value v is a slice that reads as these rows. -/
def IsSl (w : World) (size : Nat) (v : Value) (rows : List (List Value)) : Prop :=
  ∃ (A : Option Addr) (c : Nat), v = .slice A rows.length c ∧ rows.length ≤ c ∧ c ≤ maxLen ∧ SlAt w size A rows

section
variable {w w' : World} {size : Nat} {A : Option Addr} {rows : List (List Value)} {v : Value}

theorem SlAt.nil (w : World) (size : Nat) (A : Option Addr) : SlAt w size A [] := fun k row h => by simp at h
theorem SlAt.below (h : SlAt w size A rows) (hb : Below w.heap.size w w') : SlAt w' size A rows := fun k row hk => by
  obtain ⟨b, off, e, hlt, hc⟩ := h k row hk
  exact ⟨b, off, e, Nat.lt_of_lt_of_le hlt hb.size, fun j u hu => (hb.cell (p := ⟨b, off + k * size + j, none⟩) hlt).trans (hc j u hu)⟩
theorem IsSl.nil (w : World) (size : Nat) : IsSl w size (.slice none 0 0) [] := ⟨none, 0, rfl, Nat.le_refl _, by unfold maxLen; omega, SlAt.nil _ _ _⟩
theorem IsSl.below (h : IsSl w size v rows) (hb : Below w.heap.size w w') : IsSl w' size v rows := by
  obtain ⟨A, c, e, h1, h2, h3⟩ := h
  exact ⟨A, c, e, h1, h2, h3.below hb⟩
theorem IsSl.mk (h : SlAt w size A rows) {n c : Nat} (hn : rows.length = n) (hc : n ≤ c) (hm : c ≤ maxLen) : IsSl w size (.slice A n c) rows := by
  subst hn
  exact ⟨A, c, rfl, hc, hm, h⟩

/-- a row of the call's own reads as its rows -/
theorem SlAt.of_own {base : Nat} {e : TypeId} {n c : Nat} {xs : List Value} (h : w.ownsRow base e size (.slice A n c) n xs) (hr : ∀ k row, rows[k]? = some row → ∀ j u, row[j]? = some u → xs[k * size + j]? = some u)
    (hlen : rows.length = n) : SlAt w size A rows := fun k row hk => by
  have hk' : k < n := by rw [← hlen]; exact (List.getElem?_eq_some_iff.1 hk).1
  rcases h.2 with ⟨hv, hx⟩ | ⟨g, cap, cur, hv, hg, hh, _, _, hsz, htake⟩
  · injection hv with _ hn
    omega
  · injection hv with hA _ _
    refine ⟨g, 0, hA, ?_, fun j u hu => ?_⟩
    · exact (Array.getElem?_eq_some_iff.1 hh).1
    · have hx := h.cells (g := g) (by rw [hA]; rfl) (k * size + j) u (hr k row hk j u hu)
      have ea : ((⟨g, 0, none⟩ : Addr).add (k * size + j)) = ⟨g, 0 + k * size + j, none⟩ := by
        unfold Addr.add
        split
        · first | (simp; done) | (simp; omega)
        · simp
      rw [ea] at hx
      exact hx
end

/-- rows of one size, laid end to end -/
theorem flat_at {α : Type} (enc : α → List Value) (size : Nat) (hs : ∀ x, (enc x).length = size) : ∀ (l : List α) (k : Nat) (x : α), l[k]? = some x → ∀ j u, (enc x)[j]? = some u → (l.flatMap enc)[k * size + j]? = some u
  | [], k, x, h, _, _, _ => by simp at h
  | y :: l, 0, x, h, j, u, hu => by
    simp at h; subst h
    have hj : j < (enc y).length := (List.getElem?_eq_some_iff.1 hu).1
    rw [List.flatMap_cons, List.getElem?_append_left (by omega), Nat.zero_mul, Nat.zero_add]
    exact hu
  | y :: l, k + 1, x, h, j, u, hu => by
    rw [List.flatMap_cons, List.getElem?_append_right (by rw [hs, Nat.succ_mul]; omega), hs]
    have e : (k + 1) * size + j - size = k * size + j := by rw [Nat.succ_mul]; omega
    rw [e]
    exact flat_at enc size hs l k x (by simpa using h) j u hu

theorem flat_len {α : Type} (enc : α → List Value) (size : Nat) (hs : ∀ x, (enc x).length = size) (l : List α) : (l.flatMap enc).length = l.length * size := by
  induction l with
  | nil => simp
  | cons y l ih => rw [List.flatMap_cons, List.length_append, hs, ih, List.length_cons, Nat.succ_mul]; omega

/-- the rows of a list -/
theorem rows_at {α : Type} (enc : α → List Value) {l : List α} {k : Nat} {row : List Value} (h : (l.map enc)[k]? = some row) : ∃ x, l[k]? = some x ∧ row = enc x := by
  rw [List.getElem?_map] at h
  cases hx : l[k]? with
  | none => rw [hx] at h; simp at h
  | some x => rw [hx] at h; simp at h; exact ⟨x, rfl, h.symm⟩

theorem IsSl.of_own {α : Type} {enc : α → List Value} {w : World} {base size n : Nat} {e : TypeId} {v : Value} {l : List α} (hs : ∀ x, (enc x).length = size) (h : w.ownsRow base e size v n (l.flatMap enc)) (hn : l.length = n) :
    IsSl w size v (l.map enc) := by
  have h0 := h
  rcases h.2 with ⟨rfl, hx⟩ | ⟨g, cap, cur, rfl, hg, hh, hnc, hcm, hsz, htake⟩
  · have hl : l = [] := List.eq_nil_of_length_eq_zero (by omega)
    subst hl
    exact IsSl.nil _ _
  · exact IsSl.mk (SlAt.of_own h0 (fun k row hk j u hu => by
      obtain ⟨x, hx, rfl⟩ := rows_at enc hk
      exact flat_at enc size hs l k x hx j u hu) (by simpa using hn)) (by simpa using hn) hnc hcm

end Go.Proofs.YtlpjniejbblcnaaDoor

namespace Go.Proofs.YtlpjniejbblcnaaDoor
set_option linter.unusedVariables false

structure Feed where
  name : ByteArray
  parent : Int
  a : Int
  b : Int
  c : Int
structure Pnt where
  name : ByteArray
  feeder : Int
  phases : Int
  rated : Int
  least : Int
structure CapR where
  a : Int
  b : Int
  c : Int
  t : Int
structure WantR where
  point : Int
  phases : Int
  top : Int
structure SiteR where
  name : ByteArray
  F : List Feed
  P : List Pnt

def Feed.cells (f : Feed) : List Value := [.string f.name, .int .i64 f.parent, .int .i64 f.a, .int .i64 f.b, .int .i64 f.c]
def Pnt.cells (p : Pnt) : List Value := [.string p.name, .int .i64 p.feeder, .int .i64 p.phases, .int .i64 p.rated, .int .i64 p.least]
def CapR.cells (c : CapR) : List Value := [.int .i64 c.a, .int .i64 c.b, .int .i64 c.c, .int .i64 c.t]
def WantR.cells (w : WantR) : List Value := [.int .i64 w.point, .int .i64 w.phases, .int .i64 w.top]
def Feed.fits (f : Feed) : Prop := f.name.size ≤ maxLen
def Pnt.fits (p : Pnt) : Prop := p.name.size ≤ maxLen

/-- a name, in capitals -/
def keyN (s : ByteArray) : List UInt8 := capL s.data.toList
def nameE (keys : List (List UInt8)) (s : ByteArray) : Int := if (!validL s.data.toList) = true then 4 else if keyN s ∈ keys then 9 else 0
def powB (n : Int) : Bool := decide (0 ≤ n) && decide (n ≤ 1048576)
def feedE (keys : List (List UInt8)) (i : Int) (f : Feed) : Int :=
  if nameE keys f.name ≠ 0 then nameE keys f.name else if f.parent < -1 ∨ i ≤ f.parent then 1 else if (powB f.a && (powB f.b && powB f.c)) = false then 2 else 0
def pntE (keys : List (List UInt8)) (n : Int) (p : Pnt) : Int :=
  if nameE keys p.name ≠ 0 then nameE keys p.name else if p.feeder < 0 ∨ n ≤ p.feeder ∨ p.phases < 1 ∨ 7 < p.phases then 1 else if powB p.rated = false ∨ p.least < 0 ∨ p.rated < p.least then 2 else 0

def keysF (l : List Feed) : List (List UInt8) := l.map (fun f => keyN f.name)
def keysP (l : List Pnt) : List (List UInt8) := l.map (fun p => keyN p.name)
def feedAt (F : List Feed) (k : Nat) : Int := match F[k]? with
  | some f => feedE (keysF (F.take k)) k f
  | none => 0
def pntAt (F : List Feed) (P : List Pnt) (k : Nat) : Int := match P[k]? with
  | some p => pntE (keysF F ++ keysP (P.take k)) F.length p
  | none => 0
/-- the first that is not 0, of n -/
def firstE (g : Nat → Int) : Nat → Int
  | 0 => 0
  | n + 1 => if firstE g n ≠ 0 then firstE g n else g n
def siteE (S : SiteR) : Int :=
  if (!validL S.name.data.toList) = true then 4 else if 32 < S.F.length ∨ 32 < S.P.length then 3
  else if firstE (feedAt S.F) S.F.length ≠ 0 then firstE (feedAt S.F) S.F.length else firstE (pntAt S.F S.P) S.P.length

theorem firstE_step {g : Nat → Int} {n : Nat} (h : firstE g n = 0) : firstE g (n + 1) = g n := by simp [firstE, h]
theorem firstE_more {g : Nat → Int} {n : Nat} {e : Int} (h : firstE g n = e) (he : e ≠ 0) : ∀ m, n ≤ m → firstE g m = e := by
  intro m hm
  induction m with
  | zero => have : n = 0 := by omega
            subst this; exact h
  | succ m ih =>
    by_cases hn : n = m + 1
    · subst hn; exact h
    · have := ih (by omega)
      simp [firstE, this, he]
theorem firstE_stop {g : Nat → Int} {k n : Nat} (h : firstE g k = 0) (he : g k ≠ 0) (hk : k < n) : firstE g n = g k :=
  firstE_more (by rw [firstE_step h]) he n (by omega)
theorem firstE_go {g : Nat → Int} {k : Nat} (h : firstE g k = 0) (he : g k = 0) : firstE g (k + 1) = 0 := by rw [firstE_step h, he]

theorem feedAt_eq {F : List Feed} {k : Nat} (h : k < F.length) : feedAt F k = feedE (keysF (F.take k)) k F[k] := by simp [feedAt, List.getElem?_eq_getElem h]
theorem pntAt_eq {F : List Feed} {P : List Pnt} {k : Nat} (h : k < P.length) : pntAt F P k = pntE (keysF F ++ keysP (P.take k)) F.length P[k] := by simp [pntAt, List.getElem?_eq_getElem h]
theorem keysF_step {F : List Feed} {k : Nat} (h : k < F.length) : keysF (F.take (k + 1)) = keysF (F.take k) ++ [keyN F[k].name] := by
  unfold keysF; rw [List.take_succ_eq_append_getElem h, List.map_append]; rfl
theorem keysP_step {P : List Pnt} {k : Nat} (h : k < P.length) : keysP (P.take (k + 1)) = keysP (P.take k) ++ [keyN P[k].name] := by
  unfold keysP; rw [List.take_succ_eq_append_getElem h, List.map_append]; rfl

/-- a feeder and the feeders above it -/
def pathL (F : List Feed) (last : Nat) (i : Int) : List Nat :=
  if h : 0 ≤ i ∧ i < last then i.toNat :: pathL F i.toNat (match F[i.toNat]? with | some f => f.parent | none => -1) else []
termination_by last
decreasing_by omega
theorem pathL_in {F : List Feed} {last k : Nat} (h : k < last) (hk : k < F.length) : pathL F last (k : Int) = k :: pathL F k F[k].parent := by
  rw [pathL]
  simp [h, List.getElem?_eq_getElem hk]
theorem pathL_out {F : List Feed} {last : Nat} {i : Int} (h : ¬ (0 ≤ i ∧ i < last)) : pathL F last i = [] := by
  rw [pathL, dif_neg h]
theorem pathL_lt {F : List Feed} {last : Nat} {i : Int} : ∀ x ∈ pathL F last i, x < last := by
  induction last using Nat.strongRecOn generalizing i with
  | _ last ih =>
    intro x hx
    rw [pathL] at hx
    split at hx
    · rename_i h
      rcases List.mem_cons.1 hx with rfl | hx
      · omega
      · have := ih i.toNat (by omega) x hx
        omega
    · simp at hx

/-- what exceeds its cap -/
def overB (c l : CapR) : Bool := decide (c.a < l.a) || (decide (c.b < l.b) || (decide (c.c < l.c) || decide (c.t < l.t)))
def overL (c l : List CapR) : List Nat := (List.range (min c.length l.length)).filter (fun i => match c[i]?, l[i]? with
  | some x, some y => overB x y
  | _, _ => false)

end Go.Proofs.YtlpjniejbblcnaaDoor

namespace Go.Proofs.YtlpjniejbblcnaaDoor
open Go.RowKit Go.Maps Go.MapKept Go.WideMaps Go.ChangeMaps
set_option linter.unusedVariables false

section
variable {P : Program}

theorem plainElem_bool_inv {H : Type} {e : TypeId} (he : P.underlying e = some .bool) {v : Value} {z : DataW H × List MemPlace} (h : plainElem P e v = some z) : ∃ x, v = .bool x ∧ z = (.lit (.bool x), []) := by
  unfold plainElem at h
  rw [he] at h
  cases v <;> simp at h
  subst h
  exact ⟨_, rfl, rfl⟩

/-- the map at block b holds true at the names 'ns', and nothing else -/
def Taken (P : Program) (K E : TypeId) (w : World) (b : Nat) (ns : List (List UInt8)) : Prop :=
  ∃ n D, w.ownsMap (H := Unit) P K (plainElem P E) b n D ∧ n ≤ ns.length ∧ ∀ s : List UInt8, D.atKey (.string s) (.lit (.bool false)) = .lit (.bool (decide (s ∈ ns)))

theorem taken_made (w : World) (K E : TypeId) : Taken P K E (w.alloc (.map #[] 0)) w.heap.size [] :=
  ⟨0, .map [], World.ownsMap_made w P K _, Nat.le_refl _, fun s => by simp [DataW.atKey]⟩

theorem Taken.lt {K E : TypeId} {w : World} {b : Nat} {ns : List (List UInt8)} (h : Taken P K E w b ns) : b < w.heap.size := by
  obtain ⟨n, D, h1, _⟩ := h
  exact h1.lt

theorem Taken.below {K E : TypeId} {w w' : World} {b : Nat} {ns : List (List UInt8)} (h : Taken P K E w b ns) (hb : Below w.heap.size w w') : Taken P K E w' b ns := by
  obtain ⟨n, D, ⟨es, clock, h1, F, hs, hD⟩, h2, h3⟩ := h
  have hlt := (Array.getElem?_eq_some_iff.1 h1).1
  exact ⟨n, D, ⟨es, clock, (hb.block b hlt).trans h1, F, hs, hD⟩, h2, h3⟩

theorem wpList_lookup_taken (w : World) {ops : Array Oper} {rest : List Oper} {o : Oper} {a : Act} {Q : Exit → Act → World → Prop}
    (hg : o.guard = none) (m x : Operand) (t : TypeId) (hop : o.op = Op.lookup t m x false)
    (K E : TypeId) (hk : P.underlying K = some .string) (ht : P.underlying t = some (.map K E)) (he : P.underlying E = some .bool) (hz : ∀ w, (zeroValue E).run P w = .ok (.bool false) w) (b : Nat) (ns : List (List UInt8))
    (hm : a.eval m = .map (some b)) (hown : Taken P K E w b ns) (s : ByteArray) (hx : a.eval x = .string s) (hs : s.size ≤ maxLen)
    (hK : wpList P ops Q rest (a.put o.dst (.bool (decide (s.data.toList ∈ ns)))) w) :
    wpList P ops Q (o :: rest) a w := by
  refine wpList_plain hg fun K' hK' => ?_
  obtain ⟨n, D, h1, h2, h3⟩ := hown
  obtain ⟨v, ps, hrun, hv⟩ := h1.lookup (string_keyed hk) ht (hz w) (plainElem_bool he false) (keyOf_string_mk hk hs)
  obtain ⟨c, rfl, hc⟩ := plainElem_bool_inv he hv
  rw [h3] at hc
  simp only [Prod.mk.injEq, DataW.lit.injEq, Lit.bool.injEq] at hc
  obtain ⟨rfl, _⟩ := hc
  unfold Oper.wp
  simp [execOp, hop, hm, hx, hrun, Result.andThen]
  exact hK' _ _ hK

theorem wpList_update_taken (w : World) {ops : Array Oper} {rest : List Oper} {o : Oper} {a : Act} {Q : Exit → Act → World → Prop}
    (hg : o.guard = none) (m x v : Operand) (t : TypeId) (hop : o.op = Op.mapUpdate t m x v)
    (K E : TypeId) (hk : P.underlying K = some .string) (ht : P.underlying t = some (.map K E)) (he : P.underlying E = some .bool) (b : Nat) (ns : List (List UInt8))
    (hm : a.eval m = .map (some b)) (hown : Taken P K E w b ns) (hn : ns.length < maxLen) (s : ByteArray) (hx : a.eval x = .string s) (hs : s.size ≤ maxLen) (hv : a.eval v = .bool true)
    (hK : ∀ w', Taken P K E w' b (s.data.toList :: ns) → w.grownBy w' (some b) → wpList P ops Q rest (a.put o.dst undef) w') :
    wpList P ops Q (o :: rest) a w := by
  obtain ⟨n, D, h1, h2, h3⟩ := hown
  have hmap : IsMap D := by
    obtain ⟨es, clock, _, _, _, rfl⟩ := h1
    exact ⟨_, rfl⟩
  refine wpList_mapUpdate_own w hg m x v t hop K E (string_keyed hk) ht _ b n D hm h1 (by omega) (.string s) (.bool true) (.string s.data.toList) hx hv (keyOf_string_mk hk hs) (.lit (.bool true)) [] (plainElem_bool he true) fun w' g1 g2 => ?_
  refine hK w' ⟨n + 1, _, g1, by simp; omega, fun u => ?_⟩ g2
  by_cases hu : u = s.data.toList
  · subst hu
    rw [atKey_put_same hmap (by trivial)]
    simp
  · rw [atKey_put_other (by simpa using hu), h3]
    simp [hu]
theorem grown_of_below {w w' : World} (hb : Below w.heap.size w w') (row : Option Nat) : w.grownBy w' row := ⟨hb.os, hb.tape, hb.output, hb.size, fun k hk _ => hb.block k hk⟩

theorem Taken.congr {K E : TypeId} {w : World} {b : Nat} {ns ms : List (List UInt8)} (h : Taken P K E w b ns) (hm : ∀ x, x ∈ ns ↔ x ∈ ms) (hl : ns.length ≤ ms.length) : Taken P K E w b ms := by
  obtain ⟨n, D, h1, h2, h3⟩ := h
  exact ⟨n, D, h1, Nat.le_trans h2 hl, fun s => by rw [h3 s]; simp [hm s]⟩
end

end Go.Proofs.YtlpjniejbblcnaaDoor

namespace Go.Proofs.YtlpjniejbblcnaaDoor
open Go.RowKit

set_option maxHeartbeats 400000 in
theorem capital_any (c : Int) (w : World) (h0 : 0 ≤ c) (h1 : c ≤ 255) :
    Calls Tryd.prog 55 #[.int .u8 c] w fun e w' => e = .returned (.int .u8 (capI c)) ∧ w = w' := by
  go_enter Tryd.func55, Tryd.ntmps55
  go_wp2
  all_goals go_ret
  all_goals exact ⟨ret_int (by unfold capI; split <;> omega), rfl⟩

set_option maxHeartbeats 400000 in
theorem refCapital_any (c : Int) (w : World) (h0 : 0 ≤ c) (h1 : c ≤ 255) :
    Calls Tryd.prog 82 #[.int .u8 c] w fun e w' => e = .returned (.int .u8 (capI c)) ∧ w = w' := by
  go_enter Tryd.func82, Tryd.ntmps82
  go_wp2
  all_goals go_ret
  all_goals exact ⟨ret_int (by unfold capI; split <;> omega), rfl⟩

set_option maxHeartbeats 400000 in
theorem value_any (c : Int) (w : World) (h0 : -2147483648 ≤ c) (h1 : c ≤ 2147483647) :
    Calls Tryd.prog 67 #[.int .i32 c] w fun e w' => e = .returned (.int .i64 (valI c)) ∧ w = w' := by
  go_enter Tryd.func67, Tryd.ntmps67
  go_wp2
  all_goals go_ret
  all_goals exact ⟨ret_int (by unfold valI; (repeat' split) <;> omega), rfl⟩

/-- an index into the reference's letters -/
theorem letters_run (k : Nat) (hk : k < 36) (w : World) :
    (Instr.index 9 (.string ⟨#[48, 49, 50, 51, 52, 53, 54, 55, 56, 57, 65, 66, 67, 68, 69, 70, 71, 72, 73, 74, 75, 76, 77, 78, 79, 80, 81, 82, 83, 84, 85, 86, 87, 88, 89, 90]⟩) (.int .i64 (k : Int))).run Tryd.prog w = .ok (.int .u8 (letterAt k)) w := by
  have h : ∀ k : Fin 36, (Instr.index 9 (.string ⟨#[48, 49, 50, 51, 52, 53, 54, 55, 56, 57, 65, 66, 67, 68, 69, 70, 71, 72, 73, 74, 75, 76, 77, 78, 79, 80, 81, 82, 83, 84, 85, 86, 87, 88, 89, 90]⟩) (.int .i64 ((k : Nat) : Int))).run Tryd.prog w = .ok (.int .u8 (letterAt k)) w := by
    intro k
    match k with
    | ⟨0, _⟩ => (show _ = _; kernel_rfl)
    | ⟨1, _⟩ => (show _ = _; kernel_rfl)
    | ⟨2, _⟩ => (show _ = _; kernel_rfl)
    | ⟨3, _⟩ => (show _ = _; kernel_rfl)
    | ⟨4, _⟩ => (show _ = _; kernel_rfl)
    | ⟨5, _⟩ => (show _ = _; kernel_rfl)
    | ⟨6, _⟩ => (show _ = _; kernel_rfl)
    | ⟨7, _⟩ => (show _ = _; kernel_rfl)
    | ⟨8, _⟩ => (show _ = _; kernel_rfl)
    | ⟨9, _⟩ => (show _ = _; kernel_rfl)
    | ⟨10, _⟩ => (show _ = _; kernel_rfl)
    | ⟨11, _⟩ => (show _ = _; kernel_rfl)
    | ⟨12, _⟩ => (show _ = _; kernel_rfl)
    | ⟨13, _⟩ => (show _ = _; kernel_rfl)
    | ⟨14, _⟩ => (show _ = _; kernel_rfl)
    | ⟨15, _⟩ => (show _ = _; kernel_rfl)
    | ⟨16, _⟩ => (show _ = _; kernel_rfl)
    | ⟨17, _⟩ => (show _ = _; kernel_rfl)
    | ⟨18, _⟩ => (show _ = _; kernel_rfl)
    | ⟨19, _⟩ => (show _ = _; kernel_rfl)
    | ⟨20, _⟩ => (show _ = _; kernel_rfl)
    | ⟨21, _⟩ => (show _ = _; kernel_rfl)
    | ⟨22, _⟩ => (show _ = _; kernel_rfl)
    | ⟨23, _⟩ => (show _ = _; kernel_rfl)
    | ⟨24, _⟩ => (show _ = _; kernel_rfl)
    | ⟨25, _⟩ => (show _ = _; kernel_rfl)
    | ⟨26, _⟩ => (show _ = _; kernel_rfl)
    | ⟨27, _⟩ => (show _ = _; kernel_rfl)
    | ⟨28, _⟩ => (show _ = _; kernel_rfl)
    | ⟨29, _⟩ => (show _ = _; kernel_rfl)
    | ⟨30, _⟩ => (show _ = _; kernel_rfl)
    | ⟨31, _⟩ => (show _ = _; kernel_rfl)
    | ⟨32, _⟩ => (show _ = _; kernel_rfl)
    | ⟨33, _⟩ => (show _ = _; kernel_rfl)
    | ⟨34, _⟩ => (show _ = _; kernel_rfl)
    | ⟨35, _⟩ => (show _ = _; kernel_rfl)
    | ⟨n + 36, h⟩ => exact absurd h (by omega)
  exact h ⟨k, hk⟩

set_option maxHeartbeats 400000 in
theorem refValue_any (c : Int) (w : World) (h0 : 0 ≤ c) (h1 : c ≤ 255) :
    Calls Tryd.prog 72 #[.int .u8 c] w fun e w' => e = .returned (.int .i64 (valI c)) ∧ ∃ n, w' = w.drewN n := by
  have hr := capI_range c h0 h1
  go_enter Tryd.func72, Tryd.ntmps72
  go_wp2
  go_loopw [3] (fun i wr => ∃ k : Nat, k ≤ 36 ∧ i = .int .i64 k ∧ Hid (∃ n, wr = w.drewN n) ∧ Hid (∀ j : Nat, j < k → ¬ letterAt j = capI c)) (fun i _ => 36 - (intOf i).toNat)
  case atStart => exact ⟨0, by omega, rfl, ⟨0, rfl⟩, fun j hj => by omega⟩
  case round =>
    obtain ⟨k, hk, rfl, HW, H⟩ := hrel
    by_cases hlt : k < 36
    · have hix := fun w => letters_run k hlt w
      by_cases he : letterAt k = capI c
      · have he' : (letterAt k == capI c) = true := by simpa using he
        have hv := letter_hit c k hlt he
        have HV := Lib.hid hv
        clear hv he
        go_wp2
        go_quiet ((go_at_call 82; exact quiet_left (refCapital_any _ _ h0 h1)))
        go_wp2
        go_ret
        exact ⟨ret_int (by rw [HV.out]), drewN_more HW _⟩
      · have he' : (letterAt k == capI c) = false := by simpa using he
        have HE := Lib.hid he
        clear he
        go_wp2
        go_quiet ((go_at_call 82; exact quiet_left (refCapital_any _ _ h0 h1)))
        go_wp2
        go_roundw
        case rel => exact ⟨k + 1, by omega, by go_num, drewN_more HW _, fun j hj => by
          by_cases e : j = k
          · subst e; exact HE.out
          · exact H.out j (by omega)⟩
        case measure => simp [intOf]; omega
    · have hk36 : k = 36 := by omega
      have hv := letter_miss c (fun j hj => H.out j (by omega))
      have HV := Lib.hid hv
      subst hk36
      clear hv
      go_wp2
      go_ret
      exact ⟨ret_int (by rw [HV.out]), HW.out⟩

end Go.Proofs.YtlpjniejbblcnaaDoor

namespace Go.Proofs.YtlpjniejbblcnaaDoor
open Go.RowKit

theorem width_pos (s : ByteArray) (pos : Nat) (h : pos < s.size) : 1 ≤ (Utf8.decode s pos).2 := by
  by_cases ha : (s[pos]'h).toNat < 128
  · rw [decode_ascii s pos h ha]
    exact Nat.le_refl _
  · exact (decode_high s pos h (by omega)).2

theorem bytes_at (s : ByteArray) (k : Nat) (h : k < s.size) : s.data.toList.take (k + 1) = s.data.toList.take k ++ [s[k]] := by
  rw [List.take_succ_eq_append_getElem (by simpa using h)]; rfl

theorem all_take_succ (s : ByteArray) (k : Nat) (h : k < s.size) (p : UInt8 → Bool) : (s.data.toList.take (k + 1)).all p = ((s.data.toList.take k).all p && p s[k]) := by
  rw [bytes_at s k h, List.all_append]; simp

theorem all_full (s : ByteArray) (p : UInt8 → Bool) (k : Nat) (h : ¬ k < s.size) : (s.data.toList.take k).all p = s.data.toList.all p := by
  rw [List.take_of_length_le (by simp; omega)]

theorem all_false_at (s : ByteArray) (k : Nat) (h : k < s.size) (p : UInt8 → Bool) (hp : p s[k] = false) : s.data.toList.all p = false := by
  rw [List.all_eq_false]
  exact ⟨s[k], by show s.data[k] ∈ _; simp, by simp [hp]⟩

/-- what a rune tells of an identifier is what its first byte tells -/
theorem okC_decode (s : ByteArray) (pos : Nat) (h : pos < s.size) : okC ((Utf8.decode s pos).1 : Int) = okC ((s[pos]'h).toNat : Int) := by
  by_cases ha : (s[pos]'h).toNat < 128
  · rw [decode_ascii s pos h ha]
  · rw [okC_high _ (by have := (decode_high s pos h (by omega)).1; omega), okC_high _ (by omega)]
theorem okC_width (s : ByteArray) (pos : Nat) (h : pos < s.size) : okC ((Utf8.decode s pos).1 : Int) = true → (Utf8.decode s pos).2 = 1 := by
  by_cases ha : (s[pos]'h).toNat < 128
  · rw [decode_ascii s pos h ha]; intro _; rfl
  · rw [okC_high _ (by have := (decode_high s pos h (by omega)).1; omega)]; intro x; cases x

theorem okC_t1 {r : Int} (h : (r == 45) = true) : okC r = true := by simp [okC, h]
theorem okC_t2 {r : Int} (h : (r == 95) = true) : okC r = true := by simp [okC, h]
theorem okC_t3 {r : Int} (h : (r == 46) = true) : okC r = true := by simp [okC, h]
theorem okC_t4 {r : Int} (h : (r == 58) = true) : okC r = true := by simp [okC, h]
theorem okC_t5 {r : Int} (h : (r == 42) = true) : okC r = true := by simp [okC, h]
theorem okC_t6 {r : Int} (h : 0 ≤ valI r) : okC r = true := by simp [okC, h]
theorem okC_f {r : Int} (h1 : (r == 45) = false) (h2 : (r == 95) = false) (h3 : (r == 46) = false) (h4 : (r == 58) = false) (h5 : (r == 42) = false) (hv : valI r < 0) : okC r = false := by
  simp [okC, h1, h2, h3, h4, h5]; omega
theorem valI_decode (s : ByteArray) (pos : Nat) (h : pos < s.size) : valI ((Utf8.decode s pos).1 : Int) = valI ((s[pos]'h).toNat : Int) := by
  by_cases ha : (s[pos]'h).toNat < 128
  · rw [decode_ascii s pos h ha]
  · rw [valI_high _ (by have := (decode_high s pos h (by omega)).1; omega), valI_high _ (by omega)]
theorem valI_width (s : ByteArray) (pos : Nat) (h : pos < s.size) : 0 ≤ valI ((Utf8.decode s pos).1 : Int) → (Utf8.decode s pos).2 = 1 := by
  by_cases ha : (s[pos]'h).toNat < 128
  · rw [decode_ascii s pos h ha]; intro _; rfl
  · rw [valI_high _ (by have := (decode_high s pos h (by omega)).1; omega)]; intro x; omega

set_option maxHeartbeats 800000 in
theorem valid_any (s : ByteArray) (w : World) (hs : s.size ≤ maxLen) :
    Calls Tryd.prog 52 #[.string s] w fun e w' => e = .returned (.bool (validL s.data.toList)) ∧ Below w.heap.size w w' := by
  unfold maxLen at hs
  have hll : s.data.toList.length = s.size := by simp
  by_cases hlo : s.size < 1
  · have hv : validL s.data.toList = false := by unfold validL; rw [hll]; simp; omega
    have HV := Lib.hid hv
    clear hv hll
    go_enter Tryd.func52, Tryd.ntmps52
    go_wp2
    go_ret
    exact ⟨ret_bool (by rw [HV.out]), Below.refl _ _⟩
  · by_cases hhi : 36 < s.size
    · have hv : validL s.data.toList = false := by unfold validL; rw [hll]; simp; omega
      have HV := Lib.hid hv
      clear hv hll
      go_enter Tryd.func52, Tryd.ntmps52
      go_wp2
      go_ret
      exact ⟨ret_bool (by rw [HV.out]), Below.refl _ _⟩
    · have hv : validL s.data.toList = s.data.toList.all (fun b => okC b.toNat) := by
        unfold validL; rw [hll]; simp; intros; omega
      have HV := Lib.hid hv
      clear hv hll
      go_enter Tryd.func52, Tryd.ntmps52
      go_wp2
      go_loopw [] (fun wr => ∃ pos : Nat, wr.heap[w.heap.size]? = some (.stringIter s pos) ∧ Below w.heap.size w wr ∧ Hid ((s.data.toList.take pos).all (fun b => okC b.toNat) = true)) (fun wr => s.size - wr.iterPos w.heap.size)
      case atStart => exact ⟨0, World.iter_heap w s 0, (Below.refl _ _).alloc (Nat.le_refl _) _, rfl⟩
      case round =>
        obtain ⟨pos, hit, hbw, H⟩ := hrel
        have hpos0 := iterPos_of hit
        by_cases hp : pos < s.size
        · have hnx : ∀ ty, (Instr.next (.pointer (some ⟨w.heap.size, 0, none⟩)) true ty).run Tryd.prog wr = _ := fun ty => Lib.run_next_any_at wr w.heap.size s pos ty hit hp
          have hwd := width_pos s pos hp
          have hok := okC_decode s pos hp
          have hit2 := Lib.iterAt_heap wr w.heap.size s pos (pos + (Utf8.decode s pos).2) hit
          have hbw2 := Lib.below_iterAt hbw (k := w.heap.size) (Nat.le_refl _) s (pos + (Utf8.decode s pos).2)
          have hr1 := decode_le s pos
          have hone := okC_width s pos hp
          generalize wr.iterAt w.heap.size s (pos + (Utf8.decode s pos).2) = W1 at hnx hit2 hbw2
          generalize hr : ((Utf8.decode s pos).1 : Int) = r at hnx hok hone
          have hr0 : 0 ≤ r := by omega
          have hr2 : r ≤ 2147483647 := by omega
          generalize (Utf8.decode s pos).2 = wd at hwd hit2 hone
          have HO := Lib.hid hok
          have H1 := Lib.hid hone
          clear hr hr1 hit hbw hok hone
          go_wp2_with (go_at_call 67; refine (value_any _ _ (by omega) (by omega)).mono ?_; rintro e w' ⟨rfl, rfl⟩)
          all_goals try (
            have hk : okC r = true := by first | exact okC_t1 ‹(r == 45) = true› | exact okC_t2 ‹(r == 95) = true› | exact okC_t3 ‹(r == 46) = true› | exact okC_t4 ‹(r == 58) = true› | exact okC_t5 ‹(r == 42) = true› | exact okC_t6 ‹0 ≤ valI r›
            have hw1 := H1.out hk
            subst hw1
            have hb : okC (s[pos].toNat : Int) = true := by rw [← HO.out]; exact hk
            go_roundw
            case rel => exact ⟨pos + 1, hit2, hbw2, by show _ = true; rw [all_take_succ s pos hp, H.out, hb]; rfl⟩
            case measure => rw [iterPos_of hit2, hpos0]; omega)
          have hf : okC r = false := okC_f ‹(r == 45) = false› ‹(r == 95) = false› ‹(r == 46) = false› ‹(r == 58) = false› ‹(r == 42) = false› ‹valI r < 0›
          have hb : okC (s[pos].toNat : Int) = false := by rw [← HO.out]; exact hf
          go_ret
          exact ⟨ret_bool (by rw [HV.out, all_false_at s pos hp _ hb]), hbw2⟩
        · have hnx : ∀ ty, (Instr.next (.pointer (some ⟨w.heap.size, 0, none⟩)) true ty).run Tryd.prog wr = _ := fun ty => Lib.run_next_end_at wr w.heap.size s pos ty hit hp
          have hall := H.out
          rw [all_full s _ pos hp] at hall
          have HA := Lib.hid hall
          clear hall
          go_wp2
          go_ret
          exact ⟨ret_bool (by rw [HV.out, HA.out]), hbw⟩

theorem alnum_len {s : ByteArray} {n least : Int} (h : ((s.size : Int) != n) = true) : alnumL s.data.toList n least = false := by
  have h' : ¬ (s.size : Int) = n := by simpa using h
  have hll : s.data.toList.length = s.size := by simp
  unfold alnumL; rw [hll]; simp [h']
theorem alnum_all {s : ByteArray} {n least : Int} (h : ((s.size : Int) != n) = false) : alnumL s.data.toList n least = s.data.toList.all (fun b => decide (least ≤ valI b.toNat)) := by
  have h' : (s.size : Int) = n := by simpa using h
  have hll : s.data.toList.length = s.size := by simp
  unfold alnumL; rw [hll]; simp [h']

end Go.Proofs.YtlpjniejbblcnaaDoor

namespace Go.Proofs.YtlpjniejbblcnaaDoor
set_option linter.unusedVariables false

def asciiL (l : List UInt8) : Bool := l.all (fun b => decide (b.toNat < 128))
theorem ascii_at {s : ByteArray} (h : asciiL s.data.toList = true) : ∀ (j : Nat) (b : UInt8), s.data.toList[j]? = some b → b.toNat < 128 := fun j b hb => by
  have := List.all_eq_true.1 h b (List.mem_of_getElem? hb)
  simpa using this

theorem okC_ascii {b : UInt8} (h : okC b.toNat = true) : b.toNat < 128 := by
  rcases Nat.lt_or_ge b.toNat 123 with h1 | h1
  · omega
  · rw [okC_high _ (by omega)] at h; simp at h
theorem valid_asc {l : List UInt8} (h : validL l = true) : asciiL l = true := by
  unfold validL at h
  simp only [Bool.and_eq_true] at h
  unfold asciiL
  rw [List.all_eq_true] at *
  intro b hb
  simpa using okC_ascii (h.2 b hb)

theorem upperB_capU (b : UInt8) : Lib.upperB b = capU b := by
  unfold Lib.upperB Lib.isLowerB capU
  by_cases h : 97 ≤ b.toNat ∧ b.toNat ≤ 122
  · rw [if_pos h, if_pos]
    simp only [Bool.and_eq_true, decide_eq_true_eq, UInt8.le_iff_toNat_le]
    exact h
  · rw [if_neg h, if_neg]
    simp only [Bool.and_eq_true, decide_eq_true_eq, UInt8.le_iff_toNat_le]
    exact h
theorem upper_cap (l : List UInt8) : Lib.toUpperA l = capL l := by
  unfold Lib.toUpperA capL
  exact List.map_congr_left (fun b _ => upperB_capU b)
theorem cap_lower (b : UInt8) : capU (Lib.lowerB b) = capU b := by
  unfold Lib.lowerB Lib.isUpperB
  split
  · rename_i h
    simp only [Bool.and_eq_true, decide_eq_true_eq, UInt8.le_iff_toNat_le] at h
    have h65 : (65 : UInt8).toNat = 65 := rfl
    have h90 : (90 : UInt8).toNat = 90 := rfl
    have h32 : (32 : UInt8).toNat = 32 := rfl
    have e : (b + 32).toNat = b.toNat + 32 := by rw [UInt8.toNat_add]; omega
    unfold capU
    rw [if_pos (by omega), if_neg (by omega)]
    apply UInt8.toNat_inj.1
    rw [UInt8.toNat_sub_of_le _ _ (by rw [UInt8.le_iff_toNat_le]; omega)]
    omega
  · rfl
theorem cap_lowers (l : List UInt8) : capL (Lib.toLowerA l) = capL l := by
  unfold Lib.toLowerA capL
  rw [List.map_map]
  exact List.map_congr_left (fun b _ => cap_lower b)
theorem capU_ascii {b : UInt8} (h : (capU b).toNat < 128) : b.toNat < 128 := by
  unfold capU at h
  split at h
  · omega
  · exact h
theorem capU_asc {b : UInt8} (h : b.toNat < 128) : (capU b).toNat < 128 := by
  unfold capU
  split
  · rw [UInt8.toNat_sub_of_le _ _ (by rw [UInt8.le_iff_toNat_le]; have : (32 : UInt8).toNat = 32 := rfl; omega)]; omega
  · exact h
theorem cap_ascii {a b : List UInt8} (h : capL a = capL b) (hb : asciiL b = true) : asciiL a = true := by
  unfold asciiL at *
  rw [List.all_eq_true] at *
  intro x hx
  have hm : capU x ∈ capL b := by rw [← h]; exact List.mem_map.2 ⟨x, hx, rfl⟩
  obtain ⟨y, hy, hxy⟩ := List.mem_map.1 hm
  have := hb y hy
  simp only [decide_eq_true_eq] at *
  exact capU_ascii (hxy ▸ capU_asc this)

def lowS (s : ByteArray) : ByteArray := ⟨(Lib.toLowerA s.data.toList).toArray⟩
theorem lowS_data (s : ByteArray) : (lowS s).data.toList = Lib.toLowerA s.data.toList := by simp [lowS]
theorem cap_low (s : ByteArray) : capL (lowS s).data.toList = capL s.data.toList := by rw [lowS_data, cap_lowers]
theorem valI_ascii {b : UInt8} (h : 0 ≤ valI (b.toNat : Int)) : b.toNat < 128 := by
  rcases Nat.lt_or_ge b.toNat 123 with h1 | h1
  · omega
  · rw [valI_high _ (by omega)] at h; omega
theorem alnum_ascii {l : List UInt8} {n k : Int} (h : alnumL l n k = true) (hk : 0 ≤ k) : asciiL l = true := by
  unfold alnumL at h
  unfold asciiL
  simp only [Bool.and_eq_true, decide_eq_true_eq, List.all_eq_true] at h ⊢
  intro b hb
  exact valI_ascii (Int.le_trans hk (h.2 b hb))

end Go.Proofs.YtlpjniejbblcnaaDoor

namespace Go.Proofs.YtlpjniejbblcnaaDoor
open Go.RowKit Go.Lib
set_option linter.unusedVariables false

theorem upperA_any (s : ByteArray) (w : World) (hs : s.size ≤ 4096) (ha : asciiL s.data.toList = true) :
    Calls Tryd.prog 68 #[.string s] w fun e w' => e = .returned (.string (capS s)) ∧ Below w.heap.size w w' := by
  have h := Tryd.strings_ToUpper_ascii s w (by omega) (ascii_at ha)
  rw [upper_cap] at h
  exact h

end Go.Proofs.YtlpjniejbblcnaaDoor

namespace Go.Proofs.YtlpjniejbblcnaaDoor
open Go.RowKit Go.Lib Go.Maps
set_option linter.unusedVariables false

theorem isPower_any (n : Int) (w : World) :
    Calls Tryd.prog 41 #[.int .i64 n] w fun e w' => e = .returned (.bool (powB n)) ∧ w = w' := by
  by_cases h0 : 0 ≤ n <;> by_cases h1 : n ≤ 1048576
  all_goals go_enter Tryd.func41, Tryd.ntmps41
  all_goals go_wp2
  all_goals go_ret
  all_goals exact ⟨ret_bool (by simp [powB, h0, h1]), rfl⟩

theorem in_any (x n : Int) (w : World) :
    Calls Tryd.prog 64 #[.int .i64 x, .int .i64 n] w fun e w' => e = .returned (.bool (decide (0 ≤ x) && decide (x ≤ n))) ∧ w = w' := by
  by_cases h0 : 0 ≤ x <;> by_cases h1 : x ≤ n
  all_goals go_enter Tryd.func64, Tryd.ntmps64
  all_goals go_wp2
  all_goals go_ret
  all_goals exact ⟨ret_bool (by simp [h0, h1]), rfl⟩

/-- the map of the names that are taken -/
def Names (w : World) (b : Nat) (ns : List (List UInt8)) : Prop := Taken Tryd.prog 9 4 w b ns
theorem zeroBool (w : World) : (zeroValue 4).run Tryd.prog w = .ok (.bool false) w := by kernel_rfl

theorem name_bad {ns : List (List UInt8)} {s : ByteArray} (h : (!validL s.data.toList) = true) : nameE ns s = 4 := by simp [nameE, h]
theorem name_old {ns : List (List UInt8)} {s : ByteArray} (h : (!validL s.data.toList) = false) (h2 : keyN s ∈ ns) : nameE ns s = 9 := by simp only [nameE, h]; simp [h2]
theorem name_new {ns : List (List UInt8)} {s : ByteArray} (h : (!validL s.data.toList) = false) (h2 : ¬ keyN s ∈ ns) : nameE ns s = 0 := by simp only [nameE, h]; simp [h2]
theorem key_cap (s : ByteArray) : (capS s).data.toList = keyN s := by simp [capS, keyN]
theorem cap_sizeN (s : ByteArray) : (capS s).size = s.size := by
  have h := congrArg List.length (key_cap s)
  simp [keyN, capL] at h
  exact h
theorem valid_len {s : ByteArray} (h : validL s.data.toList = true) : s.size ≤ 36 := by
  unfold validL at h
  simp only [Bool.and_eq_true, decide_eq_true_eq] at h
  simpa using h.1.2

set_option maxRecDepth 100000 in
set_option maxHeartbeats 1600000 in
theorem enter_any (b : Nat) (ns : List (List UInt8)) (s : ByteArray) (w : World) (hs : s.size ≤ maxLen) (hT : Names w b ns) (hn : ns.length ≤ 1000000) :
    Calls Tryd.prog 53 #[.map (some b), .string s] w
      fun e w' => e = .returned (.int .i64 (nameE ns s)) ∧ w.grownBy w' (some b) ∧ (nameE ns s = 0 → Names w' b (keyN s :: ns)) := by
  cases hv : (!validL s.data.toList) with
  | true =>
    have HE := Lib.hid (name_bad (ns := ns) hv)
    go_enter Tryd.func53, Tryd.ntmps53
    go_wp2_with fail
    refine (valid_any s _ hs).mono ?_
    rintro e w1 ⟨rfl, hb1⟩
    rw [show validL s.data.toList = false by simpa using hv]
    go_wp2_with fail
    go_ret
    exact ⟨ret_int (by rw [HE.out]), grown_of_below hb1 _, fun h => by rw [HE.out] at h; simp at h⟩
  | false =>
    have hv' : validL s.data.toList = true := by simpa using hv
    have hl := valid_len hv'
    have ha := valid_asc hv'
    by_cases hm : keyN s ∈ ns
    · have HE := Lib.hid (name_old hv hm)
      have hdm : decide ((capS s).data.toList ∈ ns) = true := by rw [key_cap]; simpa using hm
      go_enter Tryd.func53, Tryd.ntmps53
      go_wp2_with fail
      refine (valid_any s _ hs).mono ?_
      rintro e w1 ⟨rfl, hb1⟩
      rw [hv']
      go_wp2_with fail
      refine (upperA_any s _ (by omega) ha).mono ?_
      rintro e w2 ⟨rfl, hb2⟩
      have hT2 : Names w2 b ns := (hT.below hb1).below hb2
      go_wp2_with (at_lookup; refine wpList_lookup_taken _ rfl _ _ 104 rfl 9 4 Tryd.underlying9 Tryd.underlying104 Tryd.underlying4 zeroBool b ns rfl hT2 (capS s) rfl (by rw [cap_sizeN]; unfold maxLen; omega) ?_; rw [hdm])
      go_ret
      exact ⟨ret_int (by rw [HE.out]), (grown_of_below hb1 _).trans (grown_of_below hb2 _), fun h => by rw [HE.out] at h; simp at h⟩
    · have HE := Lib.hid (name_new hv hm)
      have hdm : decide ((capS s).data.toList ∈ ns) = false := by rw [key_cap]; simpa using hm
      go_enter Tryd.func53, Tryd.ntmps53
      go_wp2_with fail
      refine (valid_any s _ hs).mono ?_
      rintro e w1 ⟨rfl, hb1⟩
      rw [hv']
      go_wp2_with fail
      refine (upperA_any s _ (by omega) ha).mono ?_
      rintro e w2 ⟨rfl, hb2⟩
      have hT2 : Names w2 b ns := (hT.below hb1).below hb2
      have hg2 := (grown_of_below hb1 (some b)).trans (grown_of_below hb2 _)
      go_wp2_with (first
        | (at_lookup; refine wpList_lookup_taken _ rfl _ _ 104 rfl 9 4 Tryd.underlying9 Tryd.underlying104 Tryd.underlying4 zeroBool b ns rfl hT2 (capS s) rfl (by rw [cap_sizeN]; unfold maxLen; omega) ?_; rw [hdm])
        | (at_mapUpdate; refine wpList_update_taken _ rfl _ _ _ 104 rfl 9 4 Tryd.underlying9 Tryd.underlying104 Tryd.underlying4 b ns rfl hT2 (by unfold maxLen; omega) (capS s) rfl (by rw [cap_sizeN]; unfold maxLen; omega) rfl ?_; intro w3 hT3 hg3))
      go_ret
      exact ⟨ret_int (by rw [HE.out]), hg2.trans hg3, fun _ => by rw [← key_cap]; exact hT3⟩

end Go.Proofs.YtlpjniejbblcnaaDoor

namespace Go.Proofs.YtlpjniejbblcnaaDoor
open Go.RowKit

theorem box1 (w : World) (cs : Array Value) (T : TypeId) : ∃ W0, W0 = w.alloc (.cells cs T) ∧ Below w.heap.size w W0 ∧ w.heap.size < W0.heap.size ∧ (∀ j, W0.cell? ⟨w.heap.size, j, none⟩ = cs[j]?) :=
  ⟨_, rfl, below_alloc (Below.refl _ _) _, by simp, fun j => World.cell?_alloc_mark w cs T (0, 0) j⟩

theorem box2 (w : World) (cs : Array Value) (T : TypeId) (ds : Array Value) (U : TypeId) : ∃ W0, W0 = (w.alloc (.cells cs T)).alloc (.cells ds U) ∧ Below w.heap.size w W0 ∧ w.heap.size + 1 < W0.heap.size ∧ w.heap.size < W0.heap.size ∧
    (∀ j, W0.cell? ⟨w.heap.size, j, none⟩ = cs[j]?) ∧ (∀ j, W0.cell? ⟨w.heap.size + 1, j, none⟩ = ds[j]?) := by
  refine ⟨_, rfl, below_alloc (below_alloc (Below.refl _ _) _) _, by simp, by simp; omega, fun j => ?_, fun j => ?_⟩
  · have h := World.cell?_of_block (w := w.alloc (.cells cs T)) (w' := (w.alloc (.cells cs T)).alloc (.cells ds U)) (a := ⟨w.heap.size, j, none⟩) (Below.heap_alloc _ _ _ (by simp))
    rw [h]
    exact World.cell?_alloc_mark w cs T (0, 0) j
  · simp

end Go.Proofs.YtlpjniejbblcnaaDoor

namespace Go.Proofs.YtlpjniejbblcnaaDoor
open Go.RowKit
set_option linter.unusedVariables false

/-- old memory reads as it did in W -/
def Kept (W w : World) : Prop := (∀ b o, b < W.heap.size → w.cell? ⟨b, o, none⟩ = W.cell? ⟨b, o, none⟩) ∧ Below W.heap.size W w
theorem Kept.of {W w : World} (h : Below W.heap.size W w) : Kept W w := ⟨(bcell h).1, h⟩
theorem Kept.refl (W : World) : Kept W W := .of (Below.refl _ _)
theorem Kept.below {W w w' : World} (h : Kept W w) (hb : Below w.heap.size w w') : Kept W w' := .of (below_step h.2 hb)
theorem Kept.drew {W w : World} (h : Kept W w) : Kept W w.drew := .of h.2.drew

/-- some world in which old memory reads as in W -/
def KeptOf (W : World) : Type := { w : World // Kept W w }
instance keptSome (W : World) : Nonempty (KeptOf W) := ⟨⟨W, Kept.refl W⟩⟩
def after {W : World} (x : KeptOf W) : World := x.1
theorem after_kept {W : World} (x : KeptOf W) : Kept W (after x) := x.2
theorem after_cell {W : World} (x : KeptOf W) {b o : Nat} (h : b < W.heap.size) : (after x).cell? ⟨b, o, none⟩ = W.cell? ⟨b, o, none⟩ := x.2.1 b o h

section
variable {P : Program}

theorem wp_region_kept {id : Nat} {Q : Exit → Act → World → Prop} {a : Act} (W : World) {w : World} {l : List Oper} (hm : P.follows .mixedOrders = true) (hB : Region.lexB .any l.toArray = true) (hK : Below W.heap.size W w)
    (h : wpQuiet P l.toArray (fun w' => ∃ x : KeptOf W, w' = after x) (fun a' => ∀ w', (∃ x : KeptOf W, w' = after x) → Q .normal a' w') l a) : (Code.region id l.toArray true).wp P Q a w :=
  wp_region_quiet (C := fun w' => ∃ x : KeptOf W, w' = after x) hm hB ⟨⟨_, (Kept.of hK).drew⟩, rfl⟩ (by simpa using h)

/-- a callee that only makes memory -/
theorem kept_call {W : World} {x : KeptOf W} {f : FuncId} {args : Array Value} {v : Value} (h : Calls P f args (after x) fun e w' => e = .returned v ∧ Below (after x).heap.size (after x) w') :
    Calls P f args (after x) fun e w' => e = .returned v ∧ ∃ y : KeptOf W, w' = after y :=
  h.mono fun _ w' ⟨he, hb⟩ => ⟨he, ⟨w', (after_kept x).below hb⟩, rfl⟩
/-- a callee that only draws -/
theorem kept_quiet {W : World} {x : KeptOf W} {f : FuncId} {args : Array Value} {v : Value} (h : Calls P f args (after x) fun e w' => e = .returned v ∧ ∃ n, w' = (after x).drewN n) :
    Calls P f args (after x) fun e w' => e = .returned v ∧ ∃ y : KeptOf W, w' = after y :=
  kept_call (h.mono fun _ w' ⟨he, n, hn⟩ => ⟨he, hn ▸ below_drewN (Below.refl _ _) n⟩)
/-- a callee that leaves the world alone -/
theorem kept_same {W : World} {x : KeptOf W} {f : FuncId} {args : Array Value} {v : Value} (h : Calls P f args (after x) fun e w' => e = .returned v ∧ after x = w') :
    Calls P f args (after x) fun e w' => e = .returned v ∧ ∃ y : KeptOf W, w' = after y :=
  h.mono fun _ w' ⟨he, hn⟩ => ⟨he, x, hn.symm⟩
end

end Go.Proofs.YtlpjniejbblcnaaDoor
