/-
  Plain facts: capitals and small letters; whom a reservation admits.
-/
import Derived.Test.YtpokacnbdojncaaDoorWReserve14
import Derived.Test.YtpokacnbdojncaaDoorWReserve3
import Derived.Lib.Case
namespace Go.Proofs.YtpokacnbdojncaaDoor
set_option linter.unusedVariables false

def asciiL (l : List UInt8) : Bool := l.all (fun b => decide (b.toNat < 128))
theorem ascii_at {s : ByteArray} (h : asciiL s.data.toList = true) : ∀ (j : Nat) (b : UInt8), s.data.toList[j]? = some b → b.toNat < 128 := fun j b hb => by
  have := List.all_eq_true.1 h b (List.mem_of_getElem? hb)
  simpa using this

theorem okC_ascii {b : UInt8} (h : okC b.toNat = true) : b.toNat < 128 := by
  rcases Nat.lt_or_ge b.toNat 123 with h1 | h1
  · omega
  · rw [okC_high _ (by omega)] at h; simp at h
theorem valid_ascii {l : List UInt8} (h : validL l = true) : asciiL l = true := by
  unfold validL at h
  simp only [Bool.and_eq_true] at h
  unfold asciiL
  rw [List.all_eq_true] at *
  intro b hb
  simpa using okC_ascii (h.2 b hb)

theorem upperB_capU (b : UInt8) : Lib.upperB b = capU b := by
  unfold Lib.upperB Lib.isLowerB capU
  by_cases h : 97 ≤ b.toNat ∧ b.toNat ≤ 122
  · rw [if_pos h, if_pos]
    simp only [Bool.and_eq_true, decide_eq_true_eq, UInt8.le_iff_toNat_le]
    exact h
  · rw [if_neg h, if_neg]
    simp only [Bool.and_eq_true, decide_eq_true_eq, UInt8.le_iff_toNat_le]
    exact h
theorem upper_cap (l : List UInt8) : Lib.toUpperA l = capL l := by
  unfold Lib.toUpperA capL
  exact List.map_congr_left (fun b _ => upperB_capU b)
theorem cap_lower (b : UInt8) : capU (Lib.lowerB b) = capU b := by
  unfold Lib.lowerB Lib.isUpperB
  split
  · rename_i h
    simp only [Bool.and_eq_true, decide_eq_true_eq, UInt8.le_iff_toNat_le] at h
    have h65 : (65 : UInt8).toNat = 65 := rfl
    have h90 : (90 : UInt8).toNat = 90 := rfl
    have h32 : (32 : UInt8).toNat = 32 := rfl
    have e : (b + 32).toNat = b.toNat + 32 := by rw [UInt8.toNat_add]; omega
    unfold capU
    rw [if_pos (by omega), if_neg (by omega)]
    apply UInt8.toNat_inj.1
    rw [UInt8.toNat_sub_of_le _ _ (by rw [UInt8.le_iff_toNat_le]; omega)]
    omega
  · rfl
theorem cap_lowers (l : List UInt8) : capL (Lib.toLowerA l) = capL l := by
  unfold Lib.toLowerA capL
  rw [List.map_map]
  exact List.map_congr_left (fun b _ => cap_lower b)
theorem capU_ascii {b : UInt8} (h : (capU b).toNat < 128) : b.toNat < 128 := by
  unfold capU at h
  split at h
  · omega
  · exact h
theorem capU_asc {b : UInt8} (h : b.toNat < 128) : (capU b).toNat < 128 := by
  unfold capU
  split
  · rw [UInt8.toNat_sub_of_le _ _ (by rw [UInt8.le_iff_toNat_le]; have : (32 : UInt8).toNat = 32 := rfl; omega)]; omega
  · exact h
theorem cap_ascii {a b : List UInt8} (h : capL a = capL b) (hb : asciiL b = true) : asciiL a = true := by
  unfold asciiL at *
  rw [List.all_eq_true] at *
  intro x hx
  have hm : capU x ∈ capL b := by rw [← h]; exact List.mem_map.2 ⟨x, hx, rfl⟩
  obtain ⟨y, hy, hxy⟩ := List.mem_map.1 hm
  have := hb y hy
  simp only [decide_eq_true_eq] at *
  exact capU_ascii (hxy ▸ capU_asc this)

theorem putE_parts {l : List Resv} {r : Resv} {now : Int} (h : putE l r now = 0) : validR r = 0 ∧ now < r.expiry := by
  unfold putE at h
  split at h
  · exact absurd h (by assumption)
  · rename_i h1
    split at h
    · simp at h
    · exact ⟨by omega, by omega⟩
theorem mem_put {l : List Resv} {r : Resv} {now : Int} (h : putE l r now = 0) : r ∈ putL l r now := by
  unfold putL
  rw [h, if_neg (by omega)]
  split
  · simp
  · rename_i i hi
    unfold placeO at hi
    rw [List.findIdx?_eq_some_iff_getElem] at hi
    obtain ⟨hil, _⟩ := hi
    exact List.mem_iff_getElem.2 ⟨i, by simpa using hil, by simp⟩
/-- of all reservations of a list one alone is for a connector -/
theorem conn_one {l : List Resv} (h : Good l) {r x : Resv} (hr : r ∈ l) (hx : x ∈ l) (hc : x.conn = r.conn) : x = r := by
  obtain ⟨i, hi, rfl⟩ := List.mem_iff_getElem.1 hr
  obtain ⟨j, hj, rfl⟩ := List.mem_iff_getElem.1 hx
  have hn := h.conns
  unfold List.Nodup at hn
  rw [List.pairwise_iff_getElem] at hn
  rcases Nat.lt_trichotomy i j with hij | hij | hij
  · have := hn i j (by simpa using hi) (by simpa using hj) hij
    simp only [List.getElem_map] at this
    exact absurd hc.symm this
  · subst hij; rfl
  · have := hn j i (by simpa using hj) (by simpa using hi) hij
    simp only [List.getElem_map] at this
    exact absurd hc this

def asTok (r : Resv) : Tok := ⟨r.token, r.group, ⟨#[]⟩, 0, 0, 0⟩
theorem may_own {l : List Resv} (h : Good l) {r : Resv} (hr : r ∈ l) (t : Tok) (later : Int) : mayL l r.conn t later = (decide (r.expiry ≤ later) || sameT t (asTok r)) := by
  cases hb : (decide (r.expiry ≤ later) || sameT t (asTok r)) with
  | true =>
    unfold mayL
    rw [List.all_eq_true]
    intro x hx
    by_cases hc : x.conn = r.conn
    · obtain rfl := conn_one h hr hx hc
      unfold mayB
      simp only [asTok] at hb
      simp [hb]
    · simp [mayB, hc]
  | false =>
    unfold mayL
    rw [List.all_eq_false]
    refine ⟨r, hr, ?_⟩
    unfold mayB
    simp only [asTok] at hb
    simp [hb]

theorem valid_parts {r : Resv} (h : validR r = 0) : validL r.token.data.toList = true ∧ (r.group.toList = [] ∨ validL r.group.data.toList = true) := by
  unfold validR at h
  split at h
  · simp at h
  · split at h
    · simp at h
    · rename_i h2
      simp only [Bool.or_eq_true, Bool.and_eq_true, Bool.not_eq_true', not_or, not_and, Bool.not_eq_false] at h2
      refine ⟨h2.1, ?_⟩
      by_cases hg : r.group.toList = []
      · exact .inl hg
      · exact .inr (h2.2 (by simpa using hg))

/-- whom a reservation admits: its own token in small letters -/
theorem same_lower (r : Resv) (s : ByteArray) (h : s.data.toList = Lib.toLowerA r.token.data.toList) (g c : ByteArray) (k st e : Int) : sameT ⟨s, g, c, k, st, e⟩ (asTok r) = true := by
  unfold sameT
  have : sameS s (asTok r).id = true := by unfold sameS asTok; simp [h, cap_lowers]
  simp [this]

theorem empty_data {s : ByteArray} : s.toList = [] ↔ s.data.toList = [] := by rw [Lib.toList_data]
/-- nobody else -/
theorem not_same {r : Resv} {t : Tok} (h : validR r = 0) (h1 : ¬ (asciiL t.id.data.toList = true ∧ capL t.id.data.toList = capL r.token.data.toList))
    (h2 : r.group.toList = [] ∨ ¬ (asciiL t.group.data.toList = true ∧ capL t.group.data.toList = capL r.group.data.toList)) : sameT t (asTok r) = false := by
  obtain ⟨v1, v2⟩ := valid_parts h
  unfold sameT
  have e1 : sameS t.id (asTok r).id = false := by
    unfold sameS asTok
    simp only [decide_eq_false_iff_not]
    intro e
    exact h1 ⟨cap_ascii e (valid_ascii v1), e⟩
  rw [e1, Bool.false_or]
  by_cases hg : t.group.toList = []
  · simp [hg]
  · have e2 : sameS t.group (asTok r).group = false := by
      unfold sameS asTok
      simp only [decide_eq_false_iff_not]
      intro e
      rcases h2 with h2 | h2
      · apply hg
        rw [empty_data] at *
        have hl := congrArg List.length e
        simp only [capL, List.length_map, h2, List.length_nil] at hl
        exact List.eq_nil_of_length_eq_zero hl
      · rcases v2 with v2 | v2
        · apply hg
          rw [empty_data] at *
          have hl := congrArg List.length e
          simp only [capL, List.length_map, v2, List.length_nil] at hl
          exact List.eq_nil_of_length_eq_zero hl
        · exact h2 ⟨cap_ascii e (valid_ascii v2), e⟩
    rw [e2]; simp

end Go.Proofs.YtpokacnbdojncaaDoor
