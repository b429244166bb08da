/-
  Plain facts: capitals and small letters of ASCII text.
-/
import Derived.Test.YtcaicdjlfgpbfaaDoorPIdent
import Derived.Lib.Case
namespace Go.Proofs.YtcaicdjlfgpbfaaDoor
set_option linter.unusedVariables false

def asciiL (l : List UInt8) : Bool := l.all (fun b => decide (b.toNat < 128))
theorem ascii_at {s : ByteArray} (h : asciiL s.data.toList = true) : ∀ (j : Nat) (b : UInt8), s.data.toList[j]? = some b → b.toNat < 128 := fun j b hb => by
  have := List.all_eq_true.1 h b (List.mem_of_getElem? hb)
  simpa using this

theorem okC_ascii {b : UInt8} (h : okC b.toNat = true) : b.toNat < 128 := by
  rcases Nat.lt_or_ge b.toNat 123 with h1 | h1
  · omega
  · rw [okC_high _ (by omega)] at h; simp at h
theorem valid_asc {l : List UInt8} (h : validL l = true) : asciiL l = true := by
  unfold validL at h
  simp only [Bool.and_eq_true] at h
  unfold asciiL
  rw [List.all_eq_true] at *
  intro b hb
  simpa using okC_ascii (h.2 b hb)

theorem upperB_capU (b : UInt8) : Lib.upperB b = capU b := by
  unfold Lib.upperB Lib.isLowerB capU
  by_cases h : 97 ≤ b.toNat ∧ b.toNat ≤ 122
  · rw [if_pos h, if_pos]
    simp only [Bool.and_eq_true, decide_eq_true_eq, UInt8.le_iff_toNat_le]
    exact h
  · rw [if_neg h, if_neg]
    simp only [Bool.and_eq_true, decide_eq_true_eq, UInt8.le_iff_toNat_le]
    exact h
theorem upper_cap (l : List UInt8) : Lib.toUpperA l = capL l := by
  unfold Lib.toUpperA capL
  exact List.map_congr_left (fun b _ => upperB_capU b)
theorem cap_lower (b : UInt8) : capU (Lib.lowerB b) = capU b := by
  unfold Lib.lowerB Lib.isUpperB
  split
  · rename_i h
    simp only [Bool.and_eq_true, decide_eq_true_eq, UInt8.le_iff_toNat_le] at h
    have h65 : (65 : UInt8).toNat = 65 := rfl
    have h90 : (90 : UInt8).toNat = 90 := rfl
    have h32 : (32 : UInt8).toNat = 32 := rfl
    have e : (b + 32).toNat = b.toNat + 32 := by rw [UInt8.toNat_add]; omega
    unfold capU
    rw [if_pos (by omega), if_neg (by omega)]
    apply UInt8.toNat_inj.1
    rw [UInt8.toNat_sub_of_le _ _ (by rw [UInt8.le_iff_toNat_le]; omega)]
    omega
  · rfl
theorem cap_lowers (l : List UInt8) : capL (Lib.toLowerA l) = capL l := by
  unfold Lib.toLowerA capL
  rw [List.map_map]
  exact List.map_congr_left (fun b _ => cap_lower b)
theorem capU_ascii {b : UInt8} (h : (capU b).toNat < 128) : b.toNat < 128 := by
  unfold capU at h
  split at h
  · omega
  · exact h
theorem capU_asc {b : UInt8} (h : b.toNat < 128) : (capU b).toNat < 128 := by
  unfold capU
  split
  · rw [UInt8.toNat_sub_of_le _ _ (by rw [UInt8.le_iff_toNat_le]; have : (32 : UInt8).toNat = 32 := rfl; omega)]; omega
  · exact h
theorem cap_ascii {a b : List UInt8} (h : capL a = capL b) (hb : asciiL b = true) : asciiL a = true := by
  unfold asciiL at *
  rw [List.all_eq_true] at *
  intro x hx
  have hm : capU x ∈ capL b := by rw [← h]; exact List.mem_map.2 ⟨x, hx, rfl⟩
  obtain ⟨y, hy, hxy⟩ := List.mem_map.1 hm
  have := hb y hy
  simp only [decide_eq_true_eq] at *
  exact capU_ascii (hxy ▸ capU_asc this)

def lowS (s : ByteArray) : ByteArray := ⟨(Lib.toLowerA s.data.toList).toArray⟩
theorem lowS_data (s : ByteArray) : (lowS s).data.toList = Lib.toLowerA s.data.toList := by simp [lowS]
theorem cap_low (s : ByteArray) : capL (lowS s).data.toList = capL s.data.toList := by rw [lowS_data, cap_lowers]
theorem valI_ascii {b : UInt8} (h : 0 ≤ valI (b.toNat : Int)) : b.toNat < 128 := by
  rcases Nat.lt_or_ge b.toNat 123 with h1 | h1
  · omega
  · rw [valI_high _ (by omega)] at h; omega
theorem alnum_ascii {l : List UInt8} {n k : Int} (h : alnumL l n k = true) (hk : 0 ≤ k) : asciiL l = true := by
  unfold alnumL at h
  unfold asciiL
  simp only [Bool.and_eq_true, decide_eq_true_eq, List.all_eq_true] at h ⊢
  intro b hb
  exact valI_ascii (Int.le_trans hk (h.2 b hb))

end Go.Proofs.YtcaicdjlfgpbfaaDoor
