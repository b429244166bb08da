/-
  Plain functions on tokens and lists of tokens: what package token and its reference compute. No program is named here.
-/
import Derived.Test.YtcaicdjlfgpbfaaBase
import Derived.Test.YtcaicdjlfgpbfaaPReserve
namespace Go.Proofs.Ytcaicdjlfgpbfaa
set_option linter.unusedVariables false

def sameStr (a b : ByteArray) : Bool := decide (capL a.data.toList = capL b.data.toList)
def nameBad (s : ByteArray) : Bool := !s.toList.isEmpty && !validL s.data.toList

def validT (t : Tok) : Int :=
  if (!validL t.id.data.toList || (nameBad t.group || nameBad t.contract)) = true then 4
  else if t.kind < 1 ∨ 3 < t.kind ∨ t.status < 1 ∨ 3 < t.status ∨ t.expiry < -1 ∨ 268435456 < t.expiry then 2 else 0

def statusT (t : Tok) (now : Int) : Int := if t.status = 1 ∧ t.expiry ≠ -1 ∧ t.expiry ≤ now then 3 else t.status

def Tok.fits (t : Tok) : Prop := t.id.size ≤ maxLen ∧ t.group.size ≤ maxLen ∧ t.contract.size ≤ maxLen
def Tok.small (t : Tok) : Prop := t.id.size ≤ 4096 ∧ t.group.size ≤ 4096 ∧ t.contract.size ≤ 4096
def longTB (t : Tok) : Bool := decide (4096 < t.id.size) || (decide (4096 < t.group.size) || decide (4096 < t.contract.size))
theorem longT_iff (t : Tok) : longTB t = false ↔ t.small := by unfold longTB Tok.small; simp

abbrev keyT (t : Tok) : List UInt8 := capL t.id.data.toList
def lessT (a b : Tok) : Bool := Op.bytesLess (keyT a) (keyT b)

theorem less_eq : ∀ (x y : List UInt8), Op.bytesLess x y = decide (x < y)
  | [], [] => by simp [Op.bytesLess]
  | _ :: _, [] => by simp [Op.bytesLess]
  | [], _ :: _ => by simp [Op.bytesLess]
  | a :: x, b :: y => by
    rw [Op.bytesLess, less_eq x y]
    simp only [List.cons_lt_cons_iff]
    by_cases h1 : a < b <;> by_cases h2 : a = b <;> by_cases h3 : x < y <;> simp [h1, h2, h3]

theorem less_irrefl (a : List UInt8) : Op.bytesLess a a = false := by rw [less_eq]; simp
theorem less_trans {a b c : List UInt8} (h : Op.bytesLess a b = true) (h2 : Op.bytesLess b c = true) : Op.bytesLess a c = true := by
  rw [less_eq] at *
  simp only [decide_eq_true_eq] at *
  exact List.lt_trans h h2
theorem less_tri : ∀ (a b : List UInt8), Op.bytesLess a b = false → a ≠ b → Op.bytesLess b a = true
  | [], [], _, h => absurd rfl h
  | _ :: _, [], _, _ => by simp [Op.bytesLess]
  | [], _ :: _, h, _ => by simp [Op.bytesLess] at h
  | a :: x, b :: y, h, hn => by
    rw [Op.bytesLess] at *
    by_cases hab : a = b
    · subst hab
      have hx : x ≠ y := fun e => hn (by rw [e])
      have h' : Op.bytesLess x y = false := by
        cases hh : Op.bytesLess x y with
        | false => rfl
        | true => rw [hh] at h; simp at h
      simp [less_tri x y h' hx]
    · have : ¬ a < b := by intro hlt; simp [hlt] at h
      have hlt : b < a := by
        rw [UInt8.lt_iff_toNat_lt] at *
        have : a.toNat ≠ b.toNat := fun e => hab (UInt8.toNat_inj.1 e)
        omega
      simp [hlt]

/-- the place of a token in a list -/
def idxT (l : List Tok) (id : ByteArray) : Option Nat := l.findIdx? (fun x => sameStr x.id id)
def idxI (l : List Tok) (id : ByteArray) : Int := match idxT l id with
  | none => -1
  | some i => i

def insT (l : List Tok) (t : Tok) : List Tok := l.takeWhile (fun x => lessT x t) ++ t :: l.dropWhile (fun x => lessT x t)
def putTE (l : List Tok) (t : Tok) : Int := if validT t ≠ 0 then validT t else if (idxT l t.id).isSome then 0 else if 128 ≤ l.length then 3 else 0
def putTL (l : List Tok) (t : Tok) : List Tok := if putTE l t ≠ 0 then l else match idxT l t.id with
  | some i => l.set i t
  | none => insT l t
def dropTE (l : List Tok) (id : ByteArray) : Int := if (idxT l id).isSome then 0 else 8
def dropTL (l : List Tok) (id : ByteArray) : List Tok := match idxT l id with
  | some i => l.eraseIdx i
  | none => l
def zeroT : Tok := ⟨⟨#[]⟩, ⟨#[]⟩, ⟨#[]⟩, 0, 0, 0⟩
def findT (l : List Tok) (id : ByteArray) : Tok := match idxT l id with
  | some i => l.getD i zeroT
  | none => zeroT
def foundT (l : List Tok) (id : ByteArray) : Bool := (idxT l id).isSome

/-- the reference's list -/
def notMore (t x : Tok) : Bool := Op.bytesLess (keyT x) (keyT t) || keyT x == keyT t
def putTR (l : List Tok) (t : Tok) : List Tok := if putTE l t ≠ 0 then l else (dropTL l t.id).takeWhile (notMore t) ++ t :: (dropTL l t.id).dropWhile (notMore t)

def SortedT (l : List Tok) : Prop := l.Pairwise (fun a b => lessT a b = true)

theorem idx_some {l : List Tok} {id : ByteArray} {i : Nat} (h : idxT l id = some i) : ∃ hi : i < l.length, keyT l[i] = capL id.data.toList := by
  unfold idxT at h
  rw [List.findIdx?_eq_some_iff_getElem] at h
  obtain ⟨hi, h1, _⟩ := h
  exact ⟨hi, by simpa [sameStr] using h1⟩
theorem idx_none {l : List Tok} {id : ByteArray} (h : idxT l id = none) : ∀ x ∈ l, keyT x ≠ capL id.data.toList := by
  unfold idxT at h
  rw [List.findIdx?_eq_none_iff] at h
  intro x hx
  have := h x hx
  simpa [sameStr] using this

theorem tw_congr {p q : Tok → Bool} : ∀ {l : List Tok}, (∀ x ∈ l, p x = q x) → l.takeWhile p = l.takeWhile q ∧ l.dropWhile p = l.dropWhile q
  | [], _ => by simp
  | x :: l, h => by
    have h0 := h x (by simp)
    have ih := tw_congr (p := p) (q := q) (l := l) (fun y hy => h y (by simp [hy]))
    rw [List.takeWhile_cons, List.takeWhile_cons, List.dropWhile_cons, List.dropWhile_cons, h0, ih.1, ih.2]
    exact ⟨rfl, rfl⟩
theorem tw_split {p : Tok → Bool} : ∀ {a b : List Tok}, (∀ x ∈ a, p x = true) → (∀ x ∈ b, p x = false) → (a ++ b).takeWhile p = a ∧ (a ++ b).dropWhile p = b
  | [], [], _, _ => by simp
  | [], y :: b, _, h => by simp [h y (by simp)]
  | x :: a, b, h, h2 => by
    have ih := tw_split (p := p) (a := a) (b := b) (fun y hy => h y (by simp [hy])) h2
    simp [h x (by simp), ih.1, ih.2]

theorem put_ref {l : List Tok} (hs : SortedT l) (t : Tok) : putTR l t = putTL l t := by
  unfold putTR putTL
  split
  · rfl
  · unfold dropTL
    cases hi : idxT l t.id with
    | none =>
      simp only []
      unfold insT
      have hn := idx_none hi
      have e := tw_congr (p := notMore t) (q := fun x => lessT x t) (l := l) (fun x hx => by
        have := hn x hx
        simp [notMore, lessT, this])
      rw [e.1, e.2]
    | some i =>
      simp only []
      obtain ⟨hil, hk⟩ := idx_some hi
      have hsp : l = l.take i ++ l[i] :: l.drop (i + 1) := by
        rw [List.getElem_cons_drop, List.take_append_drop]
      unfold SortedT at hs
      rw [hsp, List.pairwise_append] at hs
      obtain ⟨_, h2, h3⟩ := hs
      rw [List.pairwise_cons] at h2
      have e := tw_split (p := notMore t) (a := l.take i) (b := l.drop (i + 1)) (fun x hx => by
        have := h3 x hx l[i] List.mem_cons_self
        unfold lessT at this
        rw [hk] at this
        simp [notMore, this]) (fun x hx => by
        have := h2.1 x hx
        unfold lessT at this
        rw [hk] at this
        unfold notMore
        rw [Bool.or_eq_false_iff]
        constructor
        · cases h : Op.bytesLess (keyT x) (keyT t) with
          | false => rfl
          | true => have := less_trans this h; rw [less_irrefl] at this; simp at this
        · rw [beq_eq_false_iff_ne]
          intro e
          rw [e, less_irrefl] at this
          simp at this)
      rw [List.eraseIdx_eq_take_drop_succ, e.1, e.2, List.set_eq_take_append_cons_drop, if_pos hil]

theorem SortedT.nil : SortedT [] := List.Pairwise.nil

theorem insT_mem {l : List Tok} {t x : Tok} : x ∈ insT l t ↔ x = t ∨ x ∈ l := by
  unfold insT
  have e : x ∈ l ↔ x ∈ l.takeWhile (fun x => lessT x t) ++ l.dropWhile (fun x => lessT x t) := by rw [List.takeWhile_append_dropWhile]
  rw [e]
  simp only [List.mem_append, List.mem_cons]
  constructor
  · rintro (h | h | h)
    · exact .inr (.inl h)
    · exact .inl h
    · exact .inr (.inr h)
  · rintro (h | h | h)
    · exact .inr (.inl h)
    · exact .inl h
    · exact .inr (.inr h)
theorem insT_cons (x : Tok) (l : List Tok) (t : Tok) : insT (x :: l) t = if lessT x t then x :: insT l t else t :: x :: l := by
  unfold insT
  rw [List.takeWhile_cons, List.dropWhile_cons]
  cases h : lessT x t <;> simp
theorem insT_len (l : List Tok) (t : Tok) : (insT l t).length = l.length + 1 := by
  unfold insT
  have e : l.length = (l.takeWhile (fun x => lessT x t) ++ l.dropWhile (fun x => lessT x t)).length := by rw [List.takeWhile_append_dropWhile]
  rw [e]
  simp only [List.length_append, List.length_cons]; omega

theorem SortedT.ins {t : Tok} : ∀ {l : List Tok}, SortedT l → (∀ x ∈ l, keyT x ≠ keyT t) → SortedT (insT l t)
  | [], _, _ => by simp [insT, SortedT]
  | x :: l, hs, hn => by
    have hs0 := hs
    unfold SortedT at hs0
    rw [List.pairwise_cons] at hs0
    rw [insT_cons]
    split
    · rename_i hx
      unfold SortedT
      rw [List.pairwise_cons]
      refine ⟨fun y hy => ?_, SortedT.ins hs0.2 (fun z hz => hn z (by simp [hz]))⟩
      rcases insT_mem.1 hy with rfl | hy
      · exact hx
      · exact hs0.1 y hy
    · rename_i hx
      have htx : lessT t x = true := less_tri _ _ (by simpa [lessT] using hx) (hn x (by simp))
      unfold SortedT
      rw [List.pairwise_cons]
      refine ⟨fun y hy => ?_, hs⟩
      rcases List.mem_cons.1 hy with rfl | hy
      · exact htx
      · exact less_trans htx (hs0.1 y hy)

theorem SortedT.put {l : List Tok} (hs : SortedT l) (t : Tok) : SortedT (putTL l t) := by
  unfold putTL
  split
  · exact hs
  · cases hi : idxT l t.id with
    | none => exact hs.ins (idx_none hi)
    | some i =>
      simp only []
      obtain ⟨hil, hk⟩ := idx_some hi
      have e : ∀ m : List Tok, SortedT m ↔ (m.map keyT).Pairwise (fun a b => Op.bytesLess a b = true) := fun m => by rw [List.pairwise_map]; exact Iff.rfl
      rw [e] at *
      rw [List.map_set]
      have : (l.map keyT).set i (keyT t) = l.map keyT := by
        apply List.ext_getElem
        · simp
        · intro j h1 h2
          rw [List.getElem_set]
          split
          · rename_i h; subst h; rw [List.getElem_map, hk]
          · rfl
      rw [this]
      exact hs

theorem SortedT.drop {l : List Tok} (hs : SortedT l) (id : ByteArray) : SortedT (dropTL l id) := by
  unfold dropTL
  split
  · exact List.Pairwise.sublist (List.eraseIdx_sublist _ _) hs
  · exact hs

theorem putTL_len (l : List Tok) (t : Tok) (h : l.length ≤ 128) : (putTL l t).length ≤ 128 := by
  unfold putTL
  split
  · exact h
  · rename_i he
    cases hi : idxT l t.id with
    | some i => simp only []; rw [List.length_set]; exact h
    | none =>
      simp only []
      rw [insT_len]
      unfold putTE at he
      rw [hi] at he
      (repeat' split at he) <;> simp_all
      omega
theorem dropTL_len (l : List Tok) (id : ByteArray) : (dropTL l id).length ≤ l.length := by
  unfold dropTL
  split
  · exact List.length_eraseIdx_le _ _
  · exact Nat.le_refl _

end Go.Proofs.Ytcaicdjlfgpbfaa
