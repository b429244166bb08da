/-
  Plain functions of limits: the candidates of the reference; the rules of one feeder. No program is named here.
  Plain functions on characters and strings: what package ident and its reference compute. No program is named here.
  Grid events as rows of cells; a grid event of a list, read; the error of a grid event. No program is named here.
  Walks: the leaves of package ident and of its reference.
  Walks: identifiers, and what consists of letters and digits, in package ident and in its reference.
  Boxed parameters, by name. No program is named here.
  Walks: At and check of package curtail.
  The error of a contract. No program is named here.
  Plain facts: sites.
  Plain facts: what the feeders of a site carry.
-/
import Derived.Test.YtmappmeojmdekaaGreatDoorM2
import Derived.Test.YtmappmeojmdekaaGreatDoorProg
import Derived.Test.YtmappmeojmdekaaGreatDoorM1
import Derived.Deep.RegionHeld3
import Derived.Deep.RegionWith
import Derived.Deep.DrawnRows

namespace Go.Proofs.YtmappmeojmdekaaGreatDoor
set_option linter.unusedVariables false

theorem difR_none {r : LimR} {v : Int} (h1 : ∀ c ∈ r.C, holdsB c.w r.z v = holdsB c.w r.z (v - 1)) (h2 : difU r.U v = false) : difR r v = false := by
  rw [difR_false]
  intro i _
  unfold capF totF
  rw [difU_false.1 h2, cAt_congr h1]
/-- the times after t at which something may change -/
noncomputable def candL (r : LimR) (t : Int) : List Int := r.C.map (nxA r.z t) ++ r.U.flatMap (fun c => (if t < c.fr then [c.fr] else []) ++ (if t < c.to then [c.to] else []))
theorem candL_edge {r : LimR} {t v : Int} (ht : t < v) {c : CurR} (hc : c ∈ r.U) (h : c.fr = v ∨ c.to = v) : v ∈ candL r t := by
  refine List.mem_append.2 (.inr (List.mem_flatMap.2 ⟨c, hc, List.mem_append.2 ?_⟩))
  rcases h with e | e
  · left; rw [if_pos (by omega)]; simp [e]
  · right; rw [if_pos (by omega)]; simp [e]
theorem candL_rng {r : LimR} {t : Int} (h0 : 0 ≤ t) (h1 : t ≤ 268435456) {n : Int} (hn : n ∈ candL r t) : n = -1 ∨ t < n := by
  rcases List.mem_append.1 hn with h | h
  · obtain ⟨c, _, rfl⟩ := List.mem_map.1 h
    have := nxA_rng r.z c h0 h1
    omega
  · obtain ⟨c, _, h⟩ := List.mem_flatMap.1 h
    rcases List.mem_append.1 h with h | h
    · split at h
      · simp at h; omega
      · simp at h
    · split at h
      · simp at h; omega
      · simp at h
/-- ahead of all of them nothing changes -/
theorem cand_quiet {r : LimR} {t x : Int} (h0 : 0 ≤ t) (h1 : t ≤ 268435456) (h : ∀ n ∈ candL r t, 0 ≤ n → x ≤ n) : Quiet (difR r) t (x - 1) := by
  intro v a b c
  refine difR_none (fun d hd => ?_) ?_
  · have hm : nxA r.z t d ∈ candL r t := List.mem_append.2 (.inl (List.mem_map.2 ⟨d, hd, rfl⟩))
    rcases nxA_spec r.z d h0 h1 with ⟨p1, p2, p3, p4⟩ | ⟨p1, p2⟩
    · have := h _ hm (by omega)
      exact p4 v a (by omega)
    · exact p2 v a c
  · cases hd : difU r.U v with
    | false => rfl
    | true =>
      obtain ⟨d, hdm, _, he, _⟩ := difU_at hd
      have := h v (candL_edge a hdm he) (by omega)
      omega
/-- the least of them, or -1 -/
noncomputable def candR (r : LimR) (t : Int) : Int := firF (candL r t)
theorem candR_cases (r : LimR) {t : Int} (h0 : 0 ≤ t) (h1 : t ≤ 268435456) : (candR r t = -1 ∧ ∀ x, Quiet (difR r) t x) ∨ (t < candR r t ∧ Quiet (difR r) t (candR r t - 1)) := by
  unfold candR
  rcases firF_is (candL r t) with ⟨a, b⟩ | ⟨a, b, c⟩
  · refine .inl ⟨a, fun x => ?_⟩
    have := cand_quiet (r := r) (x := x + 1) h0 h1 (fun n hn hp => by have := b n hn; omega)
    rw [show x + 1 - 1 = x by omega] at this
    exact this
  · refine .inr ⟨?_, cand_quiet h0 h1 c⟩
    have := candL_rng h0 h1 b
    omega
/-- one step of the reference's 'first' -/
def firS (a b : Int) : Int := if a < 0 ∨ (0 ≤ b ∧ b < a) then b else a
theorem firS_eq {a b : Int} (ha : a = -1 ∨ 0 ≤ a) (hb : b = -1 ∨ 0 ≤ b) : firS a b = fs1 a b := by
  unfold firS fs1
  split <;> split <;> omega
theorem fs1_rng {a b : Int} (ha : a = -1 ∨ 0 ≤ a) : fs1 a b = -1 ∨ 0 ≤ fs1 a b := by
  unfold fs1
  split <;> omega
theorem firS_fold : ∀ (l : List Int) (a : Int), (a = -1 ∨ 0 ≤ a) → (∀ n ∈ l, n = -1 ∨ 0 ≤ n) → l.foldl firS a = l.foldl fs1 a
  | [], a, _, _ => rfl
  | n :: l, a, ha, h => by
    rw [List.foldl_cons, List.foldl_cons, firS_eq ha (h n (by simp))]
    exact firS_fold l _ (fs1_rng ha) (fun m hm => h m (by simp [hm]))
theorem candR_fold (r : LimR) {t : Int} (h0 : 0 ≤ t) (h1 : t ≤ 268435456) : (candL r t).foldl firS (-1) = candR r t :=
  firS_fold _ _ (.inl rfl) (fun n hn => by have := candL_rng (r := r) h0 h1 hn; omega)

/-- the rules with the contracts and the grid events of one feeder -/
def onlyR (r : LimR) (f : Int) : LimR := ⟨r.R, ownC f r.C, r.U.filter (fun c => c.fd == f), r.z⟩
theorem uFold_own {f t : Int} : ∀ (l : List CurR) (n : Int), (l.filter (fun c => c.fd == f)).foldl (uStep f t) n = l.foldl (uStep f t) n
  | [], n => rfl
  | c :: l, n => by
    by_cases e : c.fd = f
    · rw [List.filter_cons_of_pos (by simpa using e), List.foldl_cons, List.foldl_cons]
      exact uFold_own l _
    · rw [List.filter_cons_of_neg (by simpa using e), List.foldl_cons, show uStep f t n c = n from if_neg (fun h => e (by unfold uOn at h; simp at h; exact h.1))]
      exact uFold_own l _
theorem only_cap (r : LimR) (f t : Int) : capF (onlyR r f) f t = capF r f t := by
  unfold capF totF onlyR uAt
  rw [own_at, uFold_own]
theorem only_other (r : LimR) {f i : Int} (h : i ≠ f) (t u : Int) : capF (onlyR r f) i t = capF (onlyR r f) i u := by
  have h1 : ∀ c ∈ (onlyR r f).U, c.fd ≠ i := fun c hc e => by
    have := (List.mem_filter.1 hc).2
    simp at this
    omega
  have h2 : ∀ c ∈ (onlyR r f).C, c.fd ≠ i := fun c hc e => by
    have := (List.mem_filter.1 hc).2
    simp at this
    omega
  unfold capF totF
  rw [uAt_none h1, uAt_none h1, cAt_none h2, cAt_none h2]
theorem only_dif (r : LimR) {f : Int} (h0 : 0 ≤ f) (h1 : f < r.R.length) : difR (onlyR r f) = turnB (capF r f) := by
  funext u
  rw [Bool.eq_iff_iff, ← Bool.not_eq_false, ← Bool.not_eq_false (turnB _ _)]
  refine not_congr ?_
  rw [difR_false, turnB_false]
  constructor
  · intro h
    have := h f.toNat (by show f.toNat < r.R.length; omega)
    rw [show ((f.toNat : Nat) : Int) = f by omega, only_cap, only_cap] at this
    exact this
  · intro h i _
    by_cases e : (i : Int) = f
    · rw [e, only_cap, only_cap]; exact h
    · exact only_other r e _ _
/-- the next change of a feeder's cap -/
theorem only_next (r : LimR) {f : Int} (h0 : 0 ≤ f) (h1 : f < r.R.length) (t : Int) : limA (onlyR r f) t = nxV (capF r f) t := by
  unfold limA nxV; rw [only_dif r h0 h1]

/-- without a contract and without a grid event no cap is less -/
theorem uAt_drop (c : CurR) (l : List CurR) (f t : Int) : uAt (c :: l) f t ≤ uAt l f t := by
  have key : ∀ (l : List CurR) (n m : Int), n ≤ m → l.foldl (uStep f t) n ≤ l.foldl (uStep f t) m := by
    intro l
    induction l with
    | nil => intro n m h; exact h
    | cons d l ih =>
      intro n m h
      exact ih _ _ (by unfold uStep; split <;> omega)
  exact key l _ _ (uStep_le f t noL c)
theorem cAt_drop (c : ConR) (l : List ConR) (z : ZoneR) (f t : Int) : cAt (c :: l) z f t ≤ cAt l z f t := by
  have key : ∀ (l : List ConR) (n m : Int), n ≤ m → cFrom z f t n l ≤ cFrom z f t m l := by
    intro l
    induction l with
    | nil => intro n m h; exact h
    | cons d l ih =>
      intro n m h
      exact ih _ _ (by unfold cStep; split <;> omega)
  exact key l _ _ (cStep_le z f t noL c)
theorem cap_more (r : LimR) (f t : Int) : capF r f t ≤ capF ⟨r.R, r.C.drop 1, r.U.drop 1, r.z⟩ f t := by
  have h1 : cAt r.C r.z f t ≤ cAt (r.C.drop 1) r.z f t := by
    cases h : r.C with
    | nil => exact Int.le_refl _
    | cons c l => exact cAt_drop c l _ _ _
  have h2 : uAt r.U f t ≤ uAt (r.U.drop 1) f t := by
    cases h : r.U with
    | nil => exact Int.le_refl _
    | cons c l => exact uAt_drop c l _ _
  unfold capF totF
  simp only
  omega

end Go.Proofs.YtmappmeojmdekaaGreatDoor

namespace Go.Proofs.YtmappmeojmdekaaGreatDoor

/-- a byte, as a number, as a capital -/
def capI (c : Int) : Int := if 97 ≤ c ∧ c ≤ 122 then c - 32 else c

/-- the value of a digit or a letter, or -1 -/
def valI (r : Int) : Int :=
  if 48 ≤ r ∧ r ≤ 57 then r - 48 else if 65 ≤ r ∧ r ≤ 90 then r - 55 else if 97 ≤ r ∧ r ≤ 122 then r - 87 else -1

/-- the reference's letters -/
def letterAt (k : Nat) : Int := if k < 10 then 48 + (k : Int) else 55 + (k : Int)

theorem valI_lt (r : Int) : -1 ≤ valI r ∧ valI r < 36 := by unfold valI; (repeat' split) <;> omega
theorem capI_range (c : Int) (h0 : 0 ≤ c) (h1 : c ≤ 255) : 0 ≤ capI c ∧ capI c ≤ 255 := by unfold capI; split <;> omega
theorem valI_high (r : Int) (h : 123 ≤ r) : valI r = -1 := by unfold valI; (repeat' split) <;> omega

theorem letter_hit (c : Int) (k : Nat) (hk : k < 36) (h : letterAt k = capI c) : valI c = k := by
  unfold letterAt capI at h; unfold valI
  (repeat' split at h) <;> (repeat' split) <;> omega
theorem letter_miss (c : Int) (h : ∀ j : Nat, j < 36 → ¬ letterAt j = capI c) : valI c = -1 := by
  unfold valI
  (repeat' split)
  · have := h (c - 48).toNat (by omega); exfalso; apply this; unfold letterAt capI; (repeat' split) <;> omega
  · have := h (c - 55).toNat (by omega); exfalso; apply this; unfold letterAt capI; (repeat' split) <;> omega
  · have := h (c - 87).toNat (by omega); exfalso; apply this; unfold letterAt capI; (repeat' split) <;> omega
  · rfl

/-- the bytes that an identifier may have, as numbers (of runes or bytes) -/
def okC (r : Int) : Bool := decide (0 ≤ valI r) || (r == 45 || r == 95 || r == 46 || r == 58 || r == 42)

theorem okC_high (r : Int) (h : 123 ≤ r) : okC r = false := by
  have hv := valI_high r h
  have h1 : (r == 45) = false := by simp; omega
  have h2 : (r == 95) = false := by simp; omega
  have h3 : (r == 46) = false := by simp; omega
  have h4 : (r == 58) = false := by simp; omega
  have h5 : (r == 42) = false := by simp; omega
  simp [okC, hv, h1, h2, h3, h4, h5]

def validL (l : List UInt8) : Bool := decide (1 ≤ l.length) && decide (l.length ≤ 36) && l.all (fun b => okC b.toNat)

def sumStep (p v : Int) : Int := if (p + v) % 36 = 0 then 35 else 2 * ((p + v) % 36) % 37

theorem sumStep_range (p v : Int) : 1 ≤ sumStep p v ∧ sumStep p v ≤ 36 := by
  unfold sumStep
  split
  · omega
  · have h1 : 0 ≤ (p + v) % 36 := Int.emod_nonneg _ (by omega)
    have h2 : (p + v) % 36 < 36 := Int.emod_lt_of_pos _ (by omega)
    omega

/-- the sum and the number of the characters that have a value -/
def sumL : List UInt8 → Int → Int → Int × Int
  | [], p, n => (p, n)
  | b :: l, p, n => if valI b.toNat < 0 then sumL l p n else sumL l (sumStep p (valI b.toNat)) (n + 1)

theorem sumL_append (l : List UInt8) (b : UInt8) (p n : Int) :
    sumL (l ++ [b]) p n = if valI b.toNat < 0 then sumL l p n else (sumStep (sumL l p n).1 (valI b.toNat), (sumL l p n).2 + 1) := by
  induction l generalizing p n with
  | nil => simp [sumL]
  | cons a l ih => simp only [List.cons_append, sumL]; split <;> simp [ih]

theorem sumL_range (l : List UInt8) (p n : Int) (hp : 1 ≤ p ∧ p ≤ 36) : 1 ≤ (sumL l p n).1 ∧ (sumL l p n).1 ≤ 36 := by
  induction l generalizing p n with
  | nil => simpa [sumL] using hp
  | cons a l ih => simp only [sumL]; split; exact ih _ _ hp; exact ih _ _ (sumStep_range _ _)

theorem sumL_count (l : List UInt8) (p n : Int) : n ≤ (sumL l p n).2 ∧ (sumL l p n).2 ≤ n + l.length := by
  induction l generalizing p n with
  | nil => simp [sumL]
  | cons a l ih =>
    simp only [sumL, List.length_cons]
    split
    · have := ih p n; omega
    · have := ih (sumStep p (valI a.toNat)) (n + 1); omega

/-- the character of a number below 36 -/
def chrI (c : Int) : Int := if c < 10 then 48 + c else 55 + c

/-- the check character and the error -/
def checkC (l : List UInt8) : Int := if validL l && decide (0 < (sumL l 36 0).2) then chrI ((37 - (sumL l 36 0).1) % 36) else 0
def checkE (l : List UInt8) : Int := if validL l && decide (0 < (sumL l 36 0).2) then 0 else 4

def alnumL (l : List UInt8) (n least : Int) : Bool := decide ((l.length : Int) = n) && l.all (fun b => decide (least ≤ valI b.toNat))

def capU (b : UInt8) : UInt8 := if 97 ≤ b.toNat ∧ b.toNat ≤ 122 then b - 32 else b
theorem capU_capI (b : UInt8) : ((capU b).toNat : Int) = capI b.toNat := by
  unfold capU capI
  have hb := b.toNat_lt
  split
  · rename_i h
    rw [if_pos (by omega)]
    have : (32 : UInt8) ≤ b := by rw [UInt8.le_iff_toNat_le]; have : (32 : UInt8).toNat = 32 := rfl; omega
    rw [UInt8.toNat_sub_of_le _ _ this]
    have : (32 : UInt8).toNat = 32 := rfl
    omega
  · rename_i h
    rw [if_neg (by omega)]

def capL (l : List UInt8) : List UInt8 := l.map capU
def capS (s : ByteArray) : ByteArray := ⟨(capL s.data.toList).toArray⟩

/-- equal without regard to case -/
def sameS (a b : ByteArray) : Bool := decide (capL a.data.toList = capL b.data.toList)

end Go.Proofs.YtmappmeojmdekaaGreatDoor

namespace Go.Proofs.YtmappmeojmdekaaGreatDoor
open Go.RowKit
set_option linter.unusedVariables false

def CurR.cells (c : CurR) : List Value := [.string c.nm, .int .i64 c.ver, .int .i64 c.fd, .int .i64 c.fr, .int .i64 c.to, .int .i64 c.tot, .bool c.off]
theorem CurR.cells_len (c : CurR) : c.cells.length = 7 := rfl
theorem CurR.cells_one (c : CurR) : ∀ u ∈ c.cells, u.oneCell' = true := by intro u hu; simp [CurR.cells] at hu; rcases hu with rfl | rfl | rfl | rfl | rfl | rfl | rfl <;> rfl
def CurR.fits (c : CurR) : Prop := c.nm.size ≤ maxLen ∧ I64 c.fd ∧ I64 c.tot
theorem cur_at {w : World} {A : Option Addr} {l : List CurR} (h : SlAt w 7 A (l.map CurR.cells)) {k : Nat} (hk : k < l.length) :
    ∃ b off, A = some ⟨b, off, none⟩ ∧ b < w.heap.size ∧ w.cell? ⟨b, off + k * 7, none⟩ = some (.string l[k].nm) ∧ w.cell? ⟨b, off + k * 7 + 1, none⟩ = some (.int .i64 l[k].ver) ∧ w.cell? ⟨b, off + k * 7 + 2, none⟩ = some (.int .i64 l[k].fd) ∧
      w.cell? ⟨b, off + k * 7 + 3, none⟩ = some (.int .i64 l[k].fr) ∧ w.cell? ⟨b, off + k * 7 + 4, none⟩ = some (.int .i64 l[k].to) ∧ w.cell? ⟨b, off + k * 7 + 5, none⟩ = some (.int .i64 l[k].tot) ∧ w.cell? ⟨b, off + k * 7 + 6, none⟩ = some (.bool l[k].off) := by
  obtain ⟨b, off, e, hb, hc⟩ := h k l[k].cells (by rw [List.getElem?_map, List.getElem?_eq_getElem hk]; rfl)
  exact ⟨b, off, e, hb, by simpa using hc 0 _ rfl, hc 1 _ rfl, hc 2 _ rfl, hc 3 _ rfl, hc 4 _ rfl, hc 5 _ rfl, hc 6 _ rfl⟩
theorem uAt_take {l : List CurR} {k : Nat} (h : k < l.length) (f t : Int) : uAt (l.take (k + 1)) f t = uStep f t (uAt (l.take k) f t) l[k] := by
  unfold uAt; rw [List.take_succ_eq_append_getElem h, List.foldl_append]; rfl
theorem uOn_iff {f t : Int} {c : CurR} : uOn f t c = true ↔ c.fd = f ∧ c.off = false ∧ c.fr ≤ t ∧ t < c.to := by unfold uOn; simp
theorem uStep_t {f t n : Int} {c : CurR} (h : c.fd = f ∧ c.off = false ∧ c.fr ≤ t ∧ t < c.to) : uStep f t n c = min n c.tot := if_pos (uOn_iff.2 h)
theorem uStep_f {f t n : Int} {c : CurR} (h : ¬ (c.fd = f ∧ c.off = false ∧ c.fr ≤ t ∧ t < c.to)) : uStep f t n c = n := if_neg (fun g => h (uOn_iff.1 g))
/-- the error of a grid event for a site with n feeders -/
def curE (x : CurR) (n : Nat) : Int :=
  if validL x.nm.data.toList = false then 4
  else if x.ver < 1 ∨ x.fd < 0 ∨ (n : Int) ≤ x.fd ∨ x.tot < 0 ∨ 1073741824 < x.tot ∨ x.fr < 0 ∨ x.to < x.fr ∨ 268435456 < x.to then 2 else 0
theorem curE_name {x : CurR} {n : Nat} (h : validL x.nm.data.toList = false) : curE x n = 4 := if_pos h
theorem curE_range {x : CurR} {n : Nat} (h : validL x.nm.data.toList = true) (g : x.ver < 1 ∨ x.fd < 0 ∨ (n : Int) ≤ x.fd ∨ x.tot < 0 ∨ 1073741824 < x.tot ∨ x.fr < 0 ∨ x.to < x.fr ∨ 268435456 < x.to) : curE x n = 2 := by
  unfold curE; rw [if_neg (by rw [h]; decide), if_pos g]
theorem curE_ok {x : CurR} {n : Nat} (h : validL x.nm.data.toList = true) (g : ¬ (x.ver < 1 ∨ x.fd < 0 ∨ (n : Int) ≤ x.fd ∨ x.tot < 0 ∨ 1073741824 < x.tot ∨ x.fr < 0 ∨ x.to < x.fr ∨ 268435456 < x.to)) : curE x n = 0 := by
  unfold curE; rw [if_neg (by rw [h]; decide), if_neg g]

end Go.Proofs.YtmappmeojmdekaaGreatDoor

namespace Go.Proofs.YtmappmeojmdekaaGreatDoor
open Go.RowKit

set_option maxHeartbeats 400000 in
theorem capital_any (c : Int) (w : World) (h0 : 0 ≤ c) (h1 : c ≤ 255) :
    Calls Tryz.prog 47 #[.int .u8 c] w fun e w' => e = .returned (.int .u8 (capI c)) ∧ w = w' := by
  go_enter Tryz.func47, Tryz.ntmps47
  go_wp2
  all_goals go_ret
  all_goals exact ⟨ret_int (by unfold capI; split <;> omega), rfl⟩

set_option maxHeartbeats 400000 in
theorem refCapital_any (c : Int) (w : World) (h0 : 0 ≤ c) (h1 : c ≤ 255) :
    Calls Tryz.prog 70 #[.int .u8 c] w fun e w' => e = .returned (.int .u8 (capI c)) ∧ w = w' := by
  go_enter Tryz.func70, Tryz.ntmps70
  go_wp2
  all_goals go_ret
  all_goals exact ⟨ret_int (by unfold capI; split <;> omega), rfl⟩

set_option maxHeartbeats 400000 in
theorem value_any (c : Int) (w : World) (h0 : -2147483648 ≤ c) (h1 : c ≤ 2147483647) :
    Calls Tryz.prog 65 #[.int .i32 c] w fun e w' => e = .returned (.int .i64 (valI c)) ∧ w = w' := by
  go_enter Tryz.func65, Tryz.ntmps65
  go_wp2
  all_goals go_ret
  all_goals exact ⟨ret_int (by unfold valI; (repeat' split) <;> omega), rfl⟩

/-- an index into the reference's letters -/
theorem letters_run (k : Nat) (hk : k < 36) (w : World) :
    (Instr.index 9 (.string ⟨#[48, 49, 50, 51, 52, 53, 54, 55, 56, 57, 65, 66, 67, 68, 69, 70, 71, 72, 73, 74, 75, 76, 77, 78, 79, 80, 81, 82, 83, 84, 85, 86, 87, 88, 89, 90]⟩) (.int .i64 (k : Int))).run Tryz.prog w = .ok (.int .u8 (letterAt k)) w := by
  have h : ∀ k : Fin 36, (Instr.index 9 (.string ⟨#[48, 49, 50, 51, 52, 53, 54, 55, 56, 57, 65, 66, 67, 68, 69, 70, 71, 72, 73, 74, 75, 76, 77, 78, 79, 80, 81, 82, 83, 84, 85, 86, 87, 88, 89, 90]⟩) (.int .i64 ((k : Nat) : Int))).run Tryz.prog w = .ok (.int .u8 (letterAt k)) w := by
    intro k
    match k with
    | ⟨0, _⟩ => (show _ = _; kernel_rfl)
    | ⟨1, _⟩ => (show _ = _; kernel_rfl)
    | ⟨2, _⟩ => (show _ = _; kernel_rfl)
    | ⟨3, _⟩ => (show _ = _; kernel_rfl)
    | ⟨4, _⟩ => (show _ = _; kernel_rfl)
    | ⟨5, _⟩ => (show _ = _; kernel_rfl)
    | ⟨6, _⟩ => (show _ = _; kernel_rfl)
    | ⟨7, _⟩ => (show _ = _; kernel_rfl)
    | ⟨8, _⟩ => (show _ = _; kernel_rfl)
    | ⟨9, _⟩ => (show _ = _; kernel_rfl)
    | ⟨10, _⟩ => (show _ = _; kernel_rfl)
    | ⟨11, _⟩ => (show _ = _; kernel_rfl)
    | ⟨12, _⟩ => (show _ = _; kernel_rfl)
    | ⟨13, _⟩ => (show _ = _; kernel_rfl)
    | ⟨14, _⟩ => (show _ = _; kernel_rfl)
    | ⟨15, _⟩ => (show _ = _; kernel_rfl)
    | ⟨16, _⟩ => (show _ = _; kernel_rfl)
    | ⟨17, _⟩ => (show _ = _; kernel_rfl)
    | ⟨18, _⟩ => (show _ = _; kernel_rfl)
    | ⟨19, _⟩ => (show _ = _; kernel_rfl)
    | ⟨20, _⟩ => (show _ = _; kernel_rfl)
    | ⟨21, _⟩ => (show _ = _; kernel_rfl)
    | ⟨22, _⟩ => (show _ = _; kernel_rfl)
    | ⟨23, _⟩ => (show _ = _; kernel_rfl)
    | ⟨24, _⟩ => (show _ = _; kernel_rfl)
    | ⟨25, _⟩ => (show _ = _; kernel_rfl)
    | ⟨26, _⟩ => (show _ = _; kernel_rfl)
    | ⟨27, _⟩ => (show _ = _; kernel_rfl)
    | ⟨28, _⟩ => (show _ = _; kernel_rfl)
    | ⟨29, _⟩ => (show _ = _; kernel_rfl)
    | ⟨30, _⟩ => (show _ = _; kernel_rfl)
    | ⟨31, _⟩ => (show _ = _; kernel_rfl)
    | ⟨32, _⟩ => (show _ = _; kernel_rfl)
    | ⟨33, _⟩ => (show _ = _; kernel_rfl)
    | ⟨34, _⟩ => (show _ = _; kernel_rfl)
    | ⟨35, _⟩ => (show _ = _; kernel_rfl)
    | ⟨n + 36, h⟩ => exact absurd h (by omega)
  exact h ⟨k, hk⟩

set_option maxHeartbeats 400000 in
theorem refValue_any (c : Int) (w : World) (h0 : 0 ≤ c) (h1 : c ≤ 255) :
    Calls Tryz.prog 67 #[.int .u8 c] w fun e w' => e = .returned (.int .i64 (valI c)) ∧ ∃ n, w' = w.drewN n := by
  have hr := capI_range c h0 h1
  go_enter Tryz.func67, Tryz.ntmps67
  go_wp2
  go_loopw [3] (fun i wr => ∃ k : Nat, k ≤ 36 ∧ i = .int .i64 k ∧ Hid (∃ n, wr = w.drewN n) ∧ Hid (∀ j : Nat, j < k → ¬ letterAt j = capI c)) (fun i _ => 36 - (intOf i).toNat)
  case atStart => exact ⟨0, by omega, rfl, ⟨0, rfl⟩, fun j hj => by omega⟩
  case round =>
    obtain ⟨k, hk, rfl, HW, H⟩ := hrel
    by_cases hlt : k < 36
    · have hix := fun w => letters_run k hlt w
      by_cases he : letterAt k = capI c
      · have he' : (letterAt k == capI c) = true := by simpa using he
        have hv := letter_hit c k hlt he
        have HV := Lib.hid hv
        clear hv he
        go_wp2
        go_quiet ((go_at_call 70; exact quiet_left (refCapital_any _ _ h0 h1)))
        go_wp2
        go_ret
        exact ⟨ret_int (by rw [HV.out]), drewN_more HW _⟩
      · have he' : (letterAt k == capI c) = false := by simpa using he
        have HE := Lib.hid he
        clear he
        go_wp2
        go_quiet ((go_at_call 70; exact quiet_left (refCapital_any _ _ h0 h1)))
        go_wp2
        go_roundw
        case rel => exact ⟨k + 1, by omega, by go_num, drewN_more HW _, fun j hj => by
          by_cases e : j = k
          · subst e; exact HE.out
          · exact H.out j (by omega)⟩
        case measure => simp [intOf]; omega
    · have hk36 : k = 36 := by omega
      have hv := letter_miss c (fun j hj => H.out j (by omega))
      have HV := Lib.hid hv
      subst hk36
      clear hv
      go_wp2
      go_ret
      exact ⟨ret_int (by rw [HV.out]), HW.out⟩

end Go.Proofs.YtmappmeojmdekaaGreatDoor

namespace Go.Proofs.YtmappmeojmdekaaGreatDoor
open Go.RowKit

theorem width_pos (s : ByteArray) (pos : Nat) (h : pos < s.size) : 1 ≤ (Utf8.decode s pos).2 := by
  by_cases ha : (s[pos]'h).toNat < 128
  · rw [decode_ascii s pos h ha]
    exact Nat.le_refl _
  · exact (decode_high s pos h (by omega)).2

theorem bytes_at (s : ByteArray) (k : Nat) (h : k < s.size) : s.data.toList.take (k + 1) = s.data.toList.take k ++ [s[k]] := by
  rw [List.take_succ_eq_append_getElem (by simpa using h)]; rfl

theorem all_take_succ (s : ByteArray) (k : Nat) (h : k < s.size) (p : UInt8 → Bool) : (s.data.toList.take (k + 1)).all p = ((s.data.toList.take k).all p && p s[k]) := by
  rw [bytes_at s k h, List.all_append]; simp

theorem all_full (s : ByteArray) (p : UInt8 → Bool) (k : Nat) (h : ¬ k < s.size) : (s.data.toList.take k).all p = s.data.toList.all p := by
  rw [List.take_of_length_le (by simp; omega)]

theorem all_false_at (s : ByteArray) (k : Nat) (h : k < s.size) (p : UInt8 → Bool) (hp : p s[k] = false) : s.data.toList.all p = false := by
  rw [List.all_eq_false]
  exact ⟨s[k], by show s.data[k] ∈ _; simp, by simp [hp]⟩

/-- what a rune tells of an identifier is what its first byte tells -/
theorem okC_decode (s : ByteArray) (pos : Nat) (h : pos < s.size) : okC ((Utf8.decode s pos).1 : Int) = okC ((s[pos]'h).toNat : Int) := by
  by_cases ha : (s[pos]'h).toNat < 128
  · rw [decode_ascii s pos h ha]
  · rw [okC_high _ (by have := (decode_high s pos h (by omega)).1; omega), okC_high _ (by omega)]
theorem okC_width (s : ByteArray) (pos : Nat) (h : pos < s.size) : okC ((Utf8.decode s pos).1 : Int) = true → (Utf8.decode s pos).2 = 1 := by
  by_cases ha : (s[pos]'h).toNat < 128
  · rw [decode_ascii s pos h ha]; intro _; rfl
  · rw [okC_high _ (by have := (decode_high s pos h (by omega)).1; omega)]; intro x; cases x

theorem okC_t1 {r : Int} (h : (r == 45) = true) : okC r = true := by simp [okC, h]
theorem okC_t2 {r : Int} (h : (r == 95) = true) : okC r = true := by simp [okC, h]
theorem okC_t3 {r : Int} (h : (r == 46) = true) : okC r = true := by simp [okC, h]
theorem okC_t4 {r : Int} (h : (r == 58) = true) : okC r = true := by simp [okC, h]
theorem okC_t5 {r : Int} (h : (r == 42) = true) : okC r = true := by simp [okC, h]
theorem okC_t6 {r : Int} (h : 0 ≤ valI r) : okC r = true := by simp [okC, h]
theorem okC_f {r : Int} (h1 : (r == 45) = false) (h2 : (r == 95) = false) (h3 : (r == 46) = false) (h4 : (r == 58) = false) (h5 : (r == 42) = false) (hv : valI r < 0) : okC r = false := by
  simp [okC, h1, h2, h3, h4, h5]; omega
theorem valI_decode (s : ByteArray) (pos : Nat) (h : pos < s.size) : valI ((Utf8.decode s pos).1 : Int) = valI ((s[pos]'h).toNat : Int) := by
  by_cases ha : (s[pos]'h).toNat < 128
  · rw [decode_ascii s pos h ha]
  · rw [valI_high _ (by have := (decode_high s pos h (by omega)).1; omega), valI_high _ (by omega)]
theorem valI_width (s : ByteArray) (pos : Nat) (h : pos < s.size) : 0 ≤ valI ((Utf8.decode s pos).1 : Int) → (Utf8.decode s pos).2 = 1 := by
  by_cases ha : (s[pos]'h).toNat < 128
  · rw [decode_ascii s pos h ha]; intro _; rfl
  · rw [valI_high _ (by have := (decode_high s pos h (by omega)).1; omega)]; intro x; omega

set_option maxHeartbeats 800000 in
theorem valid_any (s : ByteArray) (w : World) (hs : s.size ≤ maxLen) :
    Calls Tryz.prog 43 #[.string s] w fun e w' => e = .returned (.bool (validL s.data.toList)) ∧ Below w.heap.size w w' := by
  unfold maxLen at hs
  have hll : s.data.toList.length = s.size := by simp
  by_cases hlo : s.size < 1
  · have hv : validL s.data.toList = false := by unfold validL; rw [hll]; simp; omega
    have HV := Lib.hid hv
    clear hv hll
    go_enter Tryz.func43, Tryz.ntmps43
    go_wp2
    go_ret
    exact ⟨ret_bool (by rw [HV.out]), Below.refl _ _⟩
  · by_cases hhi : 36 < s.size
    · have hv : validL s.data.toList = false := by unfold validL; rw [hll]; simp; omega
      have HV := Lib.hid hv
      clear hv hll
      go_enter Tryz.func43, Tryz.ntmps43
      go_wp2
      go_ret
      exact ⟨ret_bool (by rw [HV.out]), Below.refl _ _⟩
    · have hv : validL s.data.toList = s.data.toList.all (fun b => okC b.toNat) := by
        unfold validL; rw [hll]; simp; intros; omega
      have HV := Lib.hid hv
      clear hv hll
      go_enter Tryz.func43, Tryz.ntmps43
      go_wp2
      go_loopw [] (fun wr => ∃ pos : Nat, wr.heap[w.heap.size]? = some (.stringIter s pos) ∧ Below w.heap.size w wr ∧ Hid ((s.data.toList.take pos).all (fun b => okC b.toNat) = true)) (fun wr => s.size - wr.iterPos w.heap.size)
      case atStart => exact ⟨0, World.iter_heap w s 0, (Below.refl _ _).alloc (Nat.le_refl _) _, rfl⟩
      case round =>
        obtain ⟨pos, hit, hbw, H⟩ := hrel
        have hpos0 := iterPos_of hit
        by_cases hp : pos < s.size
        · have hnx : ∀ ty, (Instr.next (.pointer (some ⟨w.heap.size, 0, none⟩)) true ty).run Tryz.prog wr = _ := fun ty => Lib.run_next_any_at wr w.heap.size s pos ty hit hp
          have hwd := width_pos s pos hp
          have hok := okC_decode s pos hp
          have hit2 := Lib.iterAt_heap wr w.heap.size s pos (pos + (Utf8.decode s pos).2) hit
          have hbw2 := Lib.below_iterAt hbw (k := w.heap.size) (Nat.le_refl _) s (pos + (Utf8.decode s pos).2)
          have hr1 := decode_le s pos
          have hone := okC_width s pos hp
          generalize wr.iterAt w.heap.size s (pos + (Utf8.decode s pos).2) = W1 at hnx hit2 hbw2
          generalize hr : ((Utf8.decode s pos).1 : Int) = r at hnx hok hone
          have hr0 : 0 ≤ r := by omega
          have hr2 : r ≤ 2147483647 := by omega
          generalize (Utf8.decode s pos).2 = wd at hwd hit2 hone
          have HO := Lib.hid hok
          have H1 := Lib.hid hone
          clear hr hr1 hit hbw hok hone
          go_wp2_with (go_at_call 65; refine (value_any _ _ (by omega) (by omega)).mono ?_; rintro e w' ⟨rfl, rfl⟩)
          all_goals try (
            have hk : okC r = true := by first | exact okC_t1 ‹(r == 45) = true› | exact okC_t2 ‹(r == 95) = true› | exact okC_t3 ‹(r == 46) = true› | exact okC_t4 ‹(r == 58) = true› | exact okC_t5 ‹(r == 42) = true› | exact okC_t6 ‹0 ≤ valI r›
            have hw1 := H1.out hk
            subst hw1
            have hb : okC (s[pos].toNat : Int) = true := by rw [← HO.out]; exact hk
            go_roundw
            case rel => exact ⟨pos + 1, hit2, hbw2, by show _ = true; rw [all_take_succ s pos hp, H.out, hb]; rfl⟩
            case measure => rw [iterPos_of hit2, hpos0]; omega)
          have hf : okC r = false := okC_f ‹(r == 45) = false› ‹(r == 95) = false› ‹(r == 46) = false› ‹(r == 58) = false› ‹(r == 42) = false› ‹valI r < 0›
          have hb : okC (s[pos].toNat : Int) = false := by rw [← HO.out]; exact hf
          go_ret
          exact ⟨ret_bool (by rw [HV.out, all_false_at s pos hp _ hb]), hbw2⟩
        · have hnx : ∀ ty, (Instr.next (.pointer (some ⟨w.heap.size, 0, none⟩)) true ty).run Tryz.prog wr = _ := fun ty => Lib.run_next_end_at wr w.heap.size s pos ty hit hp
          have hall := H.out
          rw [all_full s _ pos hp] at hall
          have HA := Lib.hid hall
          clear hall
          go_wp2
          go_ret
          exact ⟨ret_bool (by rw [HV.out, HA.out]), hbw⟩

theorem alnum_len {s : ByteArray} {n least : Int} (h : ((s.size : Int) != n) = true) : alnumL s.data.toList n least = false := by
  have h' : ¬ (s.size : Int) = n := by simpa using h
  have hll : s.data.toList.length = s.size := by simp
  unfold alnumL; rw [hll]; simp [h']
theorem alnum_all {s : ByteArray} {n least : Int} (h : ((s.size : Int) != n) = false) : alnumL s.data.toList n least = s.data.toList.all (fun b => decide (least ≤ valI b.toNat)) := by
  have h' : (s.size : Int) = n := by simpa using h
  have hll : s.data.toList.length = s.size := by simp
  unfold alnumL; rw [hll]; simp [h']

end Go.Proofs.YtmappmeojmdekaaGreatDoor

namespace Go.Proofs.YtmappmeojmdekaaGreatDoor
open Go.RowKit

theorem box1 (w : World) (cs : Array Value) (T : TypeId) : ∃ W0, W0 = w.alloc (.cells cs T) ∧ Below w.heap.size w W0 ∧ w.heap.size < W0.heap.size ∧ (∀ j, W0.cell? ⟨w.heap.size, j, none⟩ = cs[j]?) :=
  ⟨_, rfl, below_alloc (Below.refl _ _) _, by simp, fun j => World.cell?_alloc_mark w cs T (0, 0) j⟩

theorem box2 (w : World) (cs : Array Value) (T : TypeId) (ds : Array Value) (U : TypeId) : ∃ W0, W0 = (w.alloc (.cells cs T)).alloc (.cells ds U) ∧ Below w.heap.size w W0 ∧ w.heap.size + 1 < W0.heap.size ∧ w.heap.size < W0.heap.size ∧
    (∀ j, W0.cell? ⟨w.heap.size, j, none⟩ = cs[j]?) ∧ (∀ j, W0.cell? ⟨w.heap.size + 1, j, none⟩ = ds[j]?) := by
  refine ⟨_, rfl, below_alloc (below_alloc (Below.refl _ _) _) _, by simp, by simp; omega, fun j => ?_, fun j => ?_⟩
  · have h := World.cell?_of_block (w := w.alloc (.cells cs T)) (w' := (w.alloc (.cells cs T)).alloc (.cells ds U)) (a := ⟨w.heap.size, j, none⟩) (Below.heap_alloc _ _ _ (by simp))
    rw [h]
    exact World.cell?_alloc_mark w cs T (0, 0) j
  · simp

end Go.Proofs.YtmappmeojmdekaaGreatDoor

namespace Go.Proofs.YtmappmeojmdekaaGreatDoor
open Go.RowKit Go.Lib Go.Maps
set_option linter.unusedVariables false

theorem minW {n x m : Int} (h : m = min n x) : Value.int .i64 (if x < n then x else n) = .int .i64 m := by rw [h, show (if x < n then x else n) = min n x by omega]

set_option maxRecDepth 100000 in
set_option maxHeartbeats 6400000 in
theorem curAt_any (l : List CurR) (v : Value) (f t : Int) (w : World) (hL : IsSl w 7 v (l.map CurR.cells)) :
    Calls Tryz.prog 71 #[v, .int .i64 f, .int .i64 t] w fun e w' => e = .returned (.int .i64 (uAt l f t)) ∧ Below w.heap.size w w' := by
  obtain ⟨A, c, rfl, hlc, hcm, hsl⟩ := hL
  rw [List.length_map] at hlc
  unfold maxLen at hcm
  simp only [List.length_map]
  go_enter Tryz.func71, Tryz.ntmps71
  go_wp2_with fail
  go_loopw [7, 12] (fun n i wr => ∃ k : Nat, k ≤ l.length ∧ n = .int .i64 (uAt (l.take k) f t) ∧ i = .int .i64 k ∧ Below w.heap.size w wr) (fun _ i _ => l.length - (intOf i).toNat)
  case atStart => exact ⟨0, by omega, rfl, rfl, Below.refl _ _⟩
  case round =>
    obtain ⟨k, hk, rfl, rfl, hbw⟩ := hrel
    by_cases hlt : k < l.length
    · have hki : (k : Int) < (l.length : Int) := by omega
      obtain ⟨b, off, rfl, hb, c0, c1, c2, c3, c4, c5, c6⟩ := cur_at (hsl.below hbw) hlt
      have HT := Lib.hid (uAt_take hlt f t)
      generalize l[k] = x at *
      generalize uAt (l.take k) f t = n at *
      by_cases k1 : x.fd = f
      · cases k2 : x.off with
        | true =>
          have H : Hid (uAt (l.take (k + 1)) f t = n) := by unfold Hid; rw [HT.out, uStep_f (fun h => by rw [h.2.1] at k2; cases k2)]
          rw [k2] at c6
          go_wp2_with fail
          go_roundw
          case measure => simp [intOf]; omega
          case rel => exact ⟨k + 1, by omega, by rw [H.out], by go_num, below_alloc hbw _⟩
        | false =>
          rw [k2] at c6
          by_cases k3 : x.fr ≤ t
          · by_cases k4 : t < x.to
            · have H : Hid (uAt (l.take (k + 1)) f t = min n x.tot) := by unfold Hid; rw [HT.out, uStep_t ⟨k1, k2, k3, k4⟩]
              go_wp2_with fail
              go_roundw
              case measure => simp [intOf]; omega
              case rel => exact ⟨k + 1, by omega, by first | exact minW H.out | rw [H.out], by go_num, below_alloc hbw _⟩
            · have H : Hid (uAt (l.take (k + 1)) f t = n) := by unfold Hid; rw [HT.out, uStep_f (fun h => k4 h.2.2.2)]
              go_wp2_with fail
              go_roundw
              case measure => simp [intOf]; omega
              case rel => exact ⟨k + 1, by omega, by rw [H.out], by go_num, below_alloc hbw _⟩
          · have H : Hid (uAt (l.take (k + 1)) f t = n) := by unfold Hid; rw [HT.out, uStep_f (fun h => k3 h.2.2.1)]
            go_wp2_with fail
            go_roundw
            case measure => simp [intOf]; omega
            case rel => exact ⟨k + 1, by omega, by rw [H.out], by go_num, below_alloc hbw _⟩
      · have H : Hid (uAt (l.take (k + 1)) f t = n) := by unfold Hid; rw [HT.out, uStep_f (fun h => k1 h.1)]
        go_wp2_with fail
        go_roundw
        case measure => simp [intOf]; omega
        case rel => exact ⟨k + 1, by omega, by rw [H.out], by go_num, below_alloc hbw _⟩
    · have hki : ¬ (k : Int) < (l.length : Int) := by omega
      have H : Hid (uAt l f t = uAt (l.take k) f t) := by unfold Hid; rw [List.take_of_length_le (by omega)]
      go_wp2_with fail
      go_ret
      exact ⟨ret_int H.out.symm, hbw⟩

set_option maxRecDepth 100000 in
set_option maxHeartbeats 6400000 in
theorem curCheck_any (x : CurR) (n : Nat) (w : World) (hn : x.nm.size ≤ maxLen) :
    Calls Tryz.prog 48 #[.agg #[.string x.nm, .int .i64 x.ver, .int .i64 x.fd, .int .i64 x.fr, .int .i64 x.to, .int .i64 x.tot, .bool x.off], .int .i64 n] w
      fun e w' => e = .returned (.int .i64 (curE x n)) ∧ Below w.heap.size w w' := by
  obtain ⟨W0, hW0, hb0, hg0, hx0⟩ := box1 w #[.string x.nm, .int .i64 x.ver, .int .i64 x.fd, .int .i64 x.fr, .int .i64 x.to, .int .i64 x.tot, .bool x.off] 63
  cases hv : validL x.nm.data.toList with
  | false =>
    have HE := Lib.hid (curE_name (n := n) hv)
    have HV := Lib.hid hv
    clear hv
    go_enter Tryz.func48, Tryz.ntmps48
    go_wp2_with fail
    rw [← hW0]
    clear hW0
    refine (valid_any x.nm _ hn).mono ?_
    rintro e w1 ⟨rfl, hb1⟩
    rw [HV.out]
    go_wp2_with fail
    go_ret
    exact ⟨ret_int HE.out.symm, below_step hb0 hb1⟩
  | true =>
    have HV := Lib.hid hv
    have hcase : (x.ver < 1 ∨ (¬ x.ver < 1 ∧ x.fd < 0) ∨ (¬ x.ver < 1 ∧ ¬ x.fd < 0 ∧ (n : Int) ≤ x.fd) ∨ (¬ x.ver < 1 ∧ ¬ x.fd < 0 ∧ ¬ (n : Int) ≤ x.fd ∧ x.tot < 0) ∨ (¬ x.ver < 1 ∧ ¬ x.fd < 0 ∧ ¬ (n : Int) ≤ x.fd ∧ ¬ x.tot < 0 ∧ 1073741824 < x.tot) ∨
        (¬ x.ver < 1 ∧ ¬ x.fd < 0 ∧ ¬ (n : Int) ≤ x.fd ∧ ¬ x.tot < 0 ∧ ¬ 1073741824 < x.tot ∧ x.fr < 0) ∨ (¬ x.ver < 1 ∧ ¬ x.fd < 0 ∧ ¬ (n : Int) ≤ x.fd ∧ ¬ x.tot < 0 ∧ ¬ 1073741824 < x.tot ∧ ¬ x.fr < 0 ∧ x.to < x.fr) ∨ (¬ x.ver < 1 ∧ ¬ x.fd < 0 ∧ ¬ (n : Int) ≤ x.fd ∧ ¬ x.tot < 0 ∧ ¬ 1073741824 < x.tot ∧ ¬ x.fr < 0 ∧ ¬ x.to < x.fr ∧ 268435456 < x.to)) ∨
        (¬ x.ver < 1 ∧ ¬ x.fd < 0 ∧ ¬ (n : Int) ≤ x.fd ∧ ¬ x.tot < 0 ∧ ¬ 1073741824 < x.tot ∧ ¬ x.fr < 0 ∧ ¬ x.to < x.fr ∧ ¬ 268435456 < x.to) := by omega
    rcases hcase with hbad | ⟨k1, k2, k3, k4, k5, k6, k7, k8⟩
    · have HE := Lib.hid (curE_range (n := n) hv (by omega))
      clear hv
      go_enter Tryz.func48, Tryz.ntmps48
      go_wp2_with fail
      rw [← hW0]
      clear hW0
      refine (valid_any x.nm _ hn).mono ?_
      rintro e w1 ⟨rfl, hb1⟩
      rw [HV.out]
      obtain ⟨hc, hf⟩ := bcell hb1
      rcases hbad with k1 | ⟨k1, k2⟩ | ⟨k1, k2, k3⟩ | ⟨k1, k2, k3, k4⟩ | ⟨k1, k2, k3, k4, k5⟩ | ⟨k1, k2, k3, k4, k5, k6⟩ | ⟨k1, k2, k3, k4, k5, k6, k7⟩ | ⟨k1, k2, k3, k4, k5, k6, k7, k8⟩
      all_goals
        go_wp2_with fail
        go_ret
        exact ⟨ret_int HE.out.symm, below_step hb0 hb1⟩
    · have HE := Lib.hid (curE_ok (n := n) hv (by omega))
      clear hv
      go_enter Tryz.func48, Tryz.ntmps48
      go_wp2_with fail
      rw [← hW0]
      clear hW0
      refine (valid_any x.nm _ hn).mono ?_
      rintro e w1 ⟨rfl, hb1⟩
      rw [HV.out]
      obtain ⟨hc, hf⟩ := bcell hb1
      go_wp2_with fail
      go_ret
      exact ⟨ret_int HE.out.symm, below_step hb0 hb1⟩

end Go.Proofs.YtmappmeojmdekaaGreatDoor

namespace Go.Proofs.YtmappmeojmdekaaGreatDoor
set_option linter.unusedVariables false

/-- the error of a contract for a site with n feeders -/
def conE (x : ConR) (n : Nat) : Int := if validL x.nm.data.toList = false then 4 else if x.fd < 0 ∨ (n : Int) ≤ x.fd ∨ x.tot < 0 ∨ 1073741824 < x.tot then 2 else winE x.w
theorem conE_name {x : ConR} {n : Nat} (h : validL x.nm.data.toList = false) : conE x n = 4 := if_pos h
theorem conE_range {x : ConR} {n : Nat} (h : validL x.nm.data.toList = true) (g : x.fd < 0 ∨ (n : Int) ≤ x.fd ∨ x.tot < 0 ∨ 1073741824 < x.tot) : conE x n = 2 := by
  unfold conE; rw [if_neg (by rw [h]; decide), if_pos g]
theorem conE_ok {x : ConR} {n : Nat} (h : validL x.nm.data.toList = true) (g : ¬ (x.fd < 0 ∨ (n : Int) ≤ x.fd ∨ x.tot < 0 ∨ 1073741824 < x.tot)) : conE x n = winE x.w := by
  unfold conE; rw [if_neg (by rw [h]; decide), if_neg g]

end Go.Proofs.YtmappmeojmdekaaGreatDoor

namespace Go.Proofs.YtmappmeojmdekaaGreatDoor
set_option linter.unusedVariables false

structure Feed where
  name : ByteArray
  parent : Int
  a : Int
  b : Int
  c : Int
structure Pnt where
  name : ByteArray
  feeder : Int
  phases : Int
  rated : Int
  least : Int
structure CapR where
  a : Int
  b : Int
  c : Int
  t : Int
structure WantR where
  point : Int
  phases : Int
  top : Int
structure SiteR where
  name : ByteArray
  F : List Feed
  P : List Pnt

def Feed.cells (f : Feed) : List Value := [.string f.name, .int .i64 f.parent, .int .i64 f.a, .int .i64 f.b, .int .i64 f.c]
def Pnt.cells (p : Pnt) : List Value := [.string p.name, .int .i64 p.feeder, .int .i64 p.phases, .int .i64 p.rated, .int .i64 p.least]
def CapR.cells (c : CapR) : List Value := [.int .i64 c.a, .int .i64 c.b, .int .i64 c.c, .int .i64 c.t]
def WantR.cells (w : WantR) : List Value := [.int .i64 w.point, .int .i64 w.phases, .int .i64 w.top]
def Feed.fits (f : Feed) : Prop := f.name.size ≤ maxLen
def Pnt.fits (p : Pnt) : Prop := p.name.size ≤ maxLen

/-- a name, in capitals -/
def keyN (s : ByteArray) : List UInt8 := capL s.data.toList
def nameE (keys : List (List UInt8)) (s : ByteArray) : Int := if (!validL s.data.toList) = true then 4 else if keyN s ∈ keys then 9 else 0
def powB (n : Int) : Bool := decide (0 ≤ n) && decide (n ≤ 1048576)
def feedE (keys : List (List UInt8)) (i : Int) (f : Feed) : Int :=
  if nameE keys f.name ≠ 0 then nameE keys f.name else if f.parent < -1 ∨ i ≤ f.parent then 1 else if (powB f.a && (powB f.b && powB f.c)) = false then 2 else 0
def pntE (keys : List (List UInt8)) (n : Int) (p : Pnt) : Int :=
  if nameE keys p.name ≠ 0 then nameE keys p.name else if p.feeder < 0 ∨ n ≤ p.feeder ∨ p.phases < 1 ∨ 7 < p.phases then 1 else if powB p.rated = false ∨ p.least < 0 ∨ p.rated < p.least then 2 else 0

def keysF (l : List Feed) : List (List UInt8) := l.map (fun f => keyN f.name)
def keysP (l : List Pnt) : List (List UInt8) := l.map (fun p => keyN p.name)
def feedAt (F : List Feed) (k : Nat) : Int := match F[k]? with
  | some f => feedE (keysF (F.take k)) k f
  | none => 0
def pntAt (F : List Feed) (P : List Pnt) (k : Nat) : Int := match P[k]? with
  | some p => pntE (keysF F ++ keysP (P.take k)) F.length p
  | none => 0
/-- the first that is not 0, of n -/
def firstE (g : Nat → Int) : Nat → Int
  | 0 => 0
  | n + 1 => if firstE g n ≠ 0 then firstE g n else g n
def siteE (S : SiteR) : Int :=
  if (!validL S.name.data.toList) = true then 4 else if 32 < S.F.length ∨ 32 < S.P.length then 3
  else if firstE (feedAt S.F) S.F.length ≠ 0 then firstE (feedAt S.F) S.F.length else firstE (pntAt S.F S.P) S.P.length

theorem firstE_step {g : Nat → Int} {n : Nat} (h : firstE g n = 0) : firstE g (n + 1) = g n := by simp [firstE, h]
theorem firstE_more {g : Nat → Int} {n : Nat} {e : Int} (h : firstE g n = e) (he : e ≠ 0) : ∀ m, n ≤ m → firstE g m = e := by
  intro m hm
  induction m with
  | zero => have : n = 0 := by omega
            subst this; exact h
  | succ m ih =>
    by_cases hn : n = m + 1
    · subst hn; exact h
    · have := ih (by omega)
      simp [firstE, this, he]
theorem firstE_stop {g : Nat → Int} {k n : Nat} (h : firstE g k = 0) (he : g k ≠ 0) (hk : k < n) : firstE g n = g k :=
  firstE_more (by rw [firstE_step h]) he n (by omega)
theorem firstE_go {g : Nat → Int} {k : Nat} (h : firstE g k = 0) (he : g k = 0) : firstE g (k + 1) = 0 := by rw [firstE_step h, he]

theorem feedAt_eq {F : List Feed} {k : Nat} (h : k < F.length) : feedAt F k = feedE (keysF (F.take k)) k F[k] := by simp [feedAt, List.getElem?_eq_getElem h]
theorem pntAt_eq {F : List Feed} {P : List Pnt} {k : Nat} (h : k < P.length) : pntAt F P k = pntE (keysF F ++ keysP (P.take k)) F.length P[k] := by simp [pntAt, List.getElem?_eq_getElem h]
theorem keysF_step {F : List Feed} {k : Nat} (h : k < F.length) : keysF (F.take (k + 1)) = keysF (F.take k) ++ [keyN F[k].name] := by
  unfold keysF; rw [List.take_succ_eq_append_getElem h, List.map_append]; rfl
theorem keysP_step {P : List Pnt} {k : Nat} (h : k < P.length) : keysP (P.take (k + 1)) = keysP (P.take k) ++ [keyN P[k].name] := by
  unfold keysP; rw [List.take_succ_eq_append_getElem h, List.map_append]; rfl

/-- a feeder and the feeders above it -/
def pathL (F : List Feed) (last : Nat) (i : Int) : List Nat :=
  if h : 0 ≤ i ∧ i < last then i.toNat :: pathL F i.toNat (match F[i.toNat]? with | some f => f.parent | none => -1) else []
termination_by last
decreasing_by omega
theorem pathL_in {F : List Feed} {last k : Nat} (h : k < last) (hk : k < F.length) : pathL F last (k : Int) = k :: pathL F k F[k].parent := by
  rw [pathL]
  simp [h, List.getElem?_eq_getElem hk]
theorem pathL_out {F : List Feed} {last : Nat} {i : Int} (h : ¬ (0 ≤ i ∧ i < last)) : pathL F last i = [] := by
  rw [pathL, dif_neg h]
theorem pathL_lt {F : List Feed} {last : Nat} {i : Int} : ∀ x ∈ pathL F last i, x < last := by
  induction last using Nat.strongRecOn generalizing i with
  | _ last ih =>
    intro x hx
    rw [pathL] at hx
    split at hx
    · rename_i h
      rcases List.mem_cons.1 hx with rfl | hx
      · omega
      · have := ih i.toNat (by omega) x hx
        omega
    · simp at hx

/-- what exceeds its cap -/
def overB (c l : CapR) : Bool := decide (c.a < l.a) || (decide (c.b < l.b) || (decide (c.c < l.c) || decide (c.t < l.t)))
def overL (c l : List CapR) : List Nat := (List.range (min c.length l.length)).filter (fun i => match c[i]?, l[i]? with
  | some x, some y => overB x y
  | _, _ => false)

end Go.Proofs.YtmappmeojmdekaaGreatDoor

namespace Go.Proofs.YtmappmeojmdekaaGreatDoor
set_option linter.unusedVariables false

theorem CapR.ext' {x y : CapR} (h1 : x.a = y.a) (h2 : x.b = y.b) (h3 : x.c = y.c) (h4 : x.t = y.t) : x = y := by
  cases x; cases y; simp_all

def zeroC : CapR := ⟨0, 0, 0, 0⟩
/-- a power on some phases, added -/
def addC (c : CapR) (ph p : Int) : CapR := ⟨c.a + p * (ph % 2), c.b + p * (ph / 2 % 2), c.c + p * (ph / 4 % 2), c.t + p * (ph % 2 + ph / 2 % 2 + ph / 4 % 2)⟩
def plusC (x y : CapR) : CapR := ⟨x.a + y.a, x.b + y.b, x.c + y.c, x.t + y.t⟩
theorem plusC_comm (x y : CapR) : plusC x y = plusC y x := by apply CapR.ext' <;> simp only [plusC] <;> omega
theorem plusC_assoc (x y z : CapR) : plusC (plusC x y) z = plusC x (plusC y z) := by apply CapR.ext' <;> simp only [plusC] <;> omega
theorem zero_plusC (x : CapR) : plusC zeroC x = x := by apply CapR.ext' <;> simp only [plusC, zeroC] <;> omega
theorem addC_plus (c : CapR) (ph p : Int) : addC c ph p = plusC c (addC zeroC ph p) := by apply CapR.ext' <;> simp only [plusC, addC, zeroC] <;> omega

/-- the feeders that a want loads -/
def wantPath (F : List Feed) (P : List Pnt) (x : WantR) : List Nat := match P[x.point.toNat]? with
  | some p => pathL F F.length p.feeder
  | none => []
theorem wantPath_eq {F : List Feed} {P : List Pnt} {x : WantR} {k : Nat} (h : k < P.length) (e : x.point = k) : wantPath F P x = pathL F F.length P[k].feeder := by
  unfold wantPath
  rw [e, Int.toNat_natCast, List.getElem?_eq_getElem h]
def addPath (L : List CapR) (path : List Nat) (ph p : Int) : List CapR := path.foldl (fun L f => L.modify f (fun c => addC c ph p)) L
def loadW (F : List Feed) (P : List Pnt) (L : List CapR) (x : WantR × Int) : List CapR := addPath L (wantPath F P x.1) x.1.phases x.2
def loadL (F : List Feed) (P : List Pnt) (l : List (WantR × Int)) : List CapR := l.foldl (loadW F P) (List.replicate F.length zeroC)
def ctr (F : List Feed) (P : List Pnt) (f : Nat) (x : WantR × Int) : CapR := if f ∈ wantPath F P x.1 then addC zeroC x.1.phases x.2 else zeroC
def capAt (F : List Feed) (P : List Pnt) (f : Nat) (l : List (WantR × Int)) : CapR := l.foldl (fun c x => plusC c (ctr F P f x)) zeroC

theorem addPath_len (path : List Nat) (ph p : Int) : ∀ L : List CapR, (addPath L path ph p).length = L.length := by
  induction path with
  | nil => intro L; rfl
  | cons f l ih => intro L; unfold addPath at *; rw [List.foldl_cons, ih, List.length_modify]
theorem loadL_len (F : List Feed) (P : List Pnt) (l : List (WantR × Int)) : (loadL F P l).length = F.length := by
  unfold loadL
  suffices h : ∀ L : List CapR, (l.foldl (loadW F P) L).length = L.length by rw [h]; simp
  induction l with
  | nil => intro L; rfl
  | cons x l ih => intro L; rw [List.foldl_cons, ih]; exact addPath_len _ _ _ _
theorem loadL_snoc (F : List Feed) (P : List Pnt) (l : List (WantR × Int)) (x : WantR × Int) : loadL F P (l ++ [x]) = addPath (loadL F P l) (wantPath F P x.1) x.1.phases x.2 := by
  unfold loadL; rw [List.foldl_append]; rfl

theorem pathL_desc {F : List Feed} {last : Nat} {i : Int} : (pathL F last i).Pairwise (fun a b => b < a) := by
  induction last using Nat.strongRecOn generalizing i with
  | _ last ih =>
    rw [pathL]
    split
    · rename_i h
      rw [List.pairwise_cons]
      exact ⟨fun x hx => pathL_lt x hx, ih _ (by omega)⟩
    · exact List.Pairwise.nil
theorem wantPath_desc (F : List Feed) (P : List Pnt) (x : WantR) : (wantPath F P x).Pairwise (fun a b => b < a) := by
  unfold wantPath
  split
  · exact pathL_desc
  · exact List.Pairwise.nil
theorem wantPath_lt {F : List Feed} {P : List Pnt} {x : WantR} : ∀ f ∈ wantPath F P x, f < F.length := by
  unfold wantPath
  split
  · exact pathL_lt
  · intro f hf; simp at hf

theorem addPath_get {path : List Nat} (hd : path.Pairwise (fun a b => b < a)) (ph p : Int) (f : Nat) : ∀ L : List CapR, (addPath L path ph p)[f]? = if f ∈ path then L[f]?.map (fun c => addC c ph p) else L[f]? := by
  induction path with
  | nil => intro L; simp [addPath]
  | cons g l ih =>
    intro L
    rw [List.pairwise_cons] at hd
    have h := ih hd.2 (L.modify g (fun c => addC c ph p))
    have e : addPath L (g :: l) ph p = addPath (L.modify g (fun c => addC c ph p)) l ph p := rfl
    rw [e, h]
    by_cases hg : f = g
    · subst hg
      have hn : f ∉ l := fun hh => by have := hd.1 f hh; omega
      rw [if_neg hn, if_pos (by simp), List.getElem?_modify]
      simp
    · rw [List.getElem?_modify]
      have : ¬ g = f := fun e => hg e.symm
      by_cases hl : f ∈ l
      · rw [if_pos hl, if_pos (by simp [hl])]; simp [this]
      · rw [if_neg hl, if_neg (by simp [hl, hg])]; simp [this]

theorem addPath_step {F : List Feed} {L : List CapR} {f : Nat} {c : CapR} (h : L[f]? = some c) (ph p : Int) : L.modify f (fun c => addC c ph p) = L.set f (addC c ph p) := by
  apply List.ext_getElem?
  intro j
  rw [List.getElem?_modify, List.getElem?_set]
  have hl : f < L.length := (List.getElem?_eq_some_iff.1 h).1
  by_cases hj : f = j
  · subst hj
    have h2 := (List.getElem?_eq_some_iff.1 h).2
    simp [hl, h2]
  · simp [hj]

theorem loadL_get {F : List Feed} {P : List Pnt} {f : Nat} (hf : f < F.length) (l : List (WantR × Int)) : (loadL F P l)[f]? = some (capAt F P f l) := by
  unfold loadL capAt
  suffices h : ∀ (l : List (WantR × Int)) (L : List CapR) (c : CapR), L[f]? = some c → (l.foldl (loadW F P) L)[f]? = some (l.foldl (fun c x => plusC c (ctr F P f x)) c) by
    exact h l _ _ (by simp [hf])
  intro l
  induction l with
  | nil => intro L c h; exact h
  | cons x l ih =>
    intro L c h
    rw [List.foldl_cons, List.foldl_cons]
    refine ih _ _ ?_
    unfold loadW
    rw [addPath_get (wantPath_desc F P x.1), h]
    unfold ctr
    by_cases hm : f ∈ wantPath F P x.1
    · rw [if_pos hm, if_pos hm, ← addC_plus]; rfl
    · rw [if_neg hm, if_neg hm, plusC_comm, zero_plusC]

theorem capAt_from (F : List Feed) (P : List Pnt) (f : Nat) (l : List (WantR × Int)) : ∀ c : CapR, l.foldl (fun c x => plusC c (ctr F P f x)) c = plusC c (capAt F P f l) := by
  induction l with
  | nil => intro c; unfold capAt; rw [plusC_comm]; simp only [List.foldl_nil]; rw [zero_plusC]
  | cons x l ih =>
    intro c
    unfold capAt
    rw [List.foldl_cons, List.foldl_cons, ih, ih, zero_plusC, plusC_assoc]
theorem capAt_append (F : List Feed) (P : List Pnt) (f : Nat) (l m : List (WantR × Int)) : capAt F P f (l ++ m) = plusC (capAt F P f l) (capAt F P f m) := by
  show (l ++ m).foldl _ zeroC = _
  rw [List.foldl_append, capAt_from]; rfl
theorem capAt_cons (F : List Feed) (P : List Pnt) (f : Nat) (x : WantR × Int) (m : List (WantR × Int)) : capAt F P f (x :: m) = plusC (ctr F P f x) (capAt F P f m) := by
  show (x :: m).foldl _ zeroC = _
  rw [List.foldl_cons, capAt_from, zero_plusC]
theorem loadL_turn (F : List Feed) (P : List Pnt) (l m : List (WantR × Int)) : loadL F P (l ++ m) = loadL F P (m ++ l) := by
  apply List.ext_getElem?
  intro j
  by_cases hj : j < F.length
  · rw [loadL_get hj, loadL_get hj, capAt_append, capAt_append, plusC_comm]
  · rw [List.getElem?_eq_none (by rw [loadL_len]; omega), List.getElem?_eq_none (by rw [loadL_len]; omega)]

/-- a want and its power that are right -/
def maskB (a b : Int) : Bool := decide (bits .andNot .i64 a b = 0)
def wantB (P : List Pnt) (x : WantR × Int) : Bool := match P[x.1.point.toNat]? with
  | some p => decide (0 ≤ x.1.point) && (decide (1 ≤ x.1.phases) && (decide (x.1.phases ≤ 7) && (maskB x.1.phases p.phases && powB x.2)))
  | none => false
structure Right (P : List Pnt) (x : WantR × Int) : Prop where
  p0 : 0 ≤ x.1.point
  p1 : x.1.point.toNat < P.length
  h1 : 1 ≤ x.1.phases
  h7 : x.1.phases ≤ 7
  mask : maskB x.1.phases P[x.1.point.toNat].phases = true
  w0 : 0 ≤ x.2
  w1 : x.2 ≤ 1048576
theorem wantB_iff {P : List Pnt} {x : WantR × Int} : wantB P x = true ↔ Right P x := by
  unfold wantB
  by_cases h : x.1.point.toNat < P.length
  · rw [List.getElem?_eq_getElem h]
    simp only [powB, Bool.and_eq_true, decide_eq_true_eq]
    exact ⟨fun ⟨a, b, c, d, e, f⟩ => ⟨a, h, b, c, d, e, f⟩, fun ⟨a, _, b, c, d, e, f⟩ => ⟨a, b, c, d, e, f⟩⟩
  · rw [List.getElem?_eq_none (by omega)]
    exact ⟨fun h => by simp at h, fun h' => absurd h'.p1 h⟩

theorem bit_01 (x : Int) : 0 ≤ x % 2 ∧ x % 2 ≤ 1 := by omega
theorem addC_bd {ph p : Int} (h0 : 0 ≤ p) (h1 : p ≤ 1048576) : 0 ≤ (addC zeroC ph p).a ∧ (addC zeroC ph p).a ≤ 1048576 ∧ 0 ≤ (addC zeroC ph p).b ∧ (addC zeroC ph p).b ≤ 1048576 ∧ 0 ≤ (addC zeroC ph p).c ∧ (addC zeroC ph p).c ≤ 1048576 ∧ (addC zeroC ph p).t = (addC zeroC ph p).a + (addC zeroC ph p).b + (addC zeroC ph p).c := by
  have e : ∀ b : Int, b % 2 = 0 ∨ b % 2 = 1 := by omega
  simp only [addC, zeroC]
  rcases e ph with h | h <;> rcases e (ph / 2) with h' | h' <;> rcases e (ph / 4) with h'' | h'' <;> rw [h, h', h''] <;> omega

/-- the bounds on what n right wants load -/
structure CapOk (n : Int) (c : CapR) : Prop where
  a0 : 0 ≤ c.a
  a1 : c.a ≤ n
  b0 : 0 ≤ c.b
  b1 : c.b ≤ n
  c0 : 0 ≤ c.c
  c1 : c.c ≤ n
  t : c.t = c.a + c.b + c.c
theorem CapOk.zero : CapOk 0 zeroC := ⟨by decide, by decide, by decide, by decide, by decide, by decide, by decide⟩
theorem CapOk.mono {n m : Int} {c : CapR} (h : CapOk n c) (hm : n ≤ m) : CapOk m c := ⟨h.a0, Int.le_trans h.a1 hm, h.b0, Int.le_trans h.b1 hm, h.c0, Int.le_trans h.c1 hm, h.t⟩
theorem CapOk.plus {n m : Int} {c d : CapR} (h : CapOk n c) (h' : CapOk m d) : CapOk (n + m) (plusC c d) := by
  obtain ⟨a, b, c1, d1, e, f, g⟩ := h
  obtain ⟨a', b', c1', d1', e', f', g'⟩ := h'
  constructor <;> simp only [plusC] <;> omega
theorem CapOk.ctr {F : List Feed} {P : List Pnt} {f : Nat} {x : WantR × Int} (h0 : 0 ≤ x.2) (h1 : x.2 ≤ 1048576) : CapOk 1048576 (ctr F P f x) := by
  unfold Go.Proofs.YtmappmeojmdekaaGreatDoor.ctr
  split
  · obtain ⟨a, b, c, d, e, g, t⟩ := addC_bd (ph := x.1.phases) h0 h1
    exact ⟨a, b, c, d, e, g, t⟩
  · exact CapOk.zero.mono (by decide)
theorem capAt_ok {F : List Feed} {P : List Pnt} {f : Nat} {l : List (WantR × Int)} (h : ∀ x ∈ l, 0 ≤ x.2 ∧ x.2 ≤ 1048576) : CapOk (l.length * 1048576) (capAt F P f l) := by
  induction l with
  | nil => exact CapOk.zero
  | cons x l ih =>
    rw [capAt_cons]
    have hx := h x (by simp)
    refine ((CapOk.ctr (F := F) (P := P) (f := f) hx.1 hx.2).plus (ih (fun y hy => h y (by simp [hy])))).mono ?_
    rw [List.length_cons]
    omega

/-- the error of a load -/
def loadE (S : SiteR) (W : List WantR) (pw : List Int) : Int :=
  if siteE S ≠ 0 then siteE S else if W.length ≠ pw.length then 1 else if (W.zip pw).all (wantB S.P) = true then 0 else 1
theorem loadE_site {S : SiteR} {W : List WantR} {pw : List Int} (h : siteE S ≠ 0) : loadE S W pw = siteE S := by unfold loadE; rw [if_pos h]
theorem loadE_len {S : SiteR} {W : List WantR} {pw : List Int} (h : siteE S = 0) (hl : W.length ≠ pw.length) : loadE S W pw = 1 := by unfold loadE; rw [if_neg (by simp [h]), if_pos hl]
theorem loadE_bad {S : SiteR} {W : List WantR} {pw : List Int} (h : siteE S = 0) (hl : W.length = pw.length) (hb : (W.zip pw).all (wantB S.P) = false) : loadE S W pw = 1 := by unfold loadE; rw [if_neg (by simp [h]), if_neg (by simp [hl]), hb]; rfl
theorem loadE_ok {S : SiteR} {W : List WantR} {pw : List Int} (h : siteE S = 0) (hl : W.length = pw.length) (hb : (W.zip pw).all (wantB S.P) = true) : loadE S W pw = 0 := by unfold loadE; rw [if_neg (by simp [h]), if_neg (by simp [hl]), hb]; rfl
theorem loadE_zero {S : SiteR} {W : List WantR} {pw : List Int} (h : loadE S W pw = 0) : siteE S = 0 ∧ W.length = pw.length ∧ (W.zip pw).all (wantB S.P) = true := by
  unfold loadE at h
  split at h
  · rename_i h1; exact absurd h h1
  · rename_i h1
    split at h
    · simp at h
    · rename_i h2
      split at h
      · rename_i h3; exact ⟨by simpa using h1, by simpa using h2, h3⟩
      · simp at h
/-- the loads that a call hands back -/
def loadsOf (S : SiteR) (W : List WantR) (pw : List Int) : List CapR := if loadE S W pw = 0 then loadL S.F S.P (W.zip pw) else []
theorem loadsOf_ok {S : SiteR} {W : List WantR} {pw : List Int} (h : loadE S W pw = 0) : loadsOf S W pw = loadL S.F S.P (W.zip pw) := by unfold loadsOf; rw [if_pos h]
theorem loadsOf_no {S : SiteR} {W : List WantR} {pw : List Int} (h : loadE S W pw ≠ 0) : loadsOf S W pw = [] := by unfold loadsOf; rw [if_neg h]

/-- what Fits reports -/
def highB (P : List Pnt) (x : WantR × Int) : Bool := match P[x.1.point.toNat]? with
  | some p => decide (x.1.top < x.2) || decide (p.rated < x.2)
  | none => false
def fitsB (S : SiteR) (C : List CapR) (W : List WantR) (pw : List Int) : Bool :=
  decide (loadE S W pw = 0) && (decide (C.length = S.F.length) && (decide ((overL C (loadsOf S W pw)).length = 0) && !(W.zip pw).any (highB S.P)))

end Go.Proofs.YtmappmeojmdekaaGreatDoor
