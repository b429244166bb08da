/-
  Walks: identifiers, and what consists of letters and digits, in package ident and in its reference.
-/
import Derived.Test.YtcaicdjlfgpbfaaWIdent1
namespace Go.Proofs.Ytcaicdjlfgpbfaa
open Go.RowKit

theorem width_pos (s : ByteArray) (pos : Nat) (h : pos < s.size) : 1 ≤ (Utf8.decode s pos).2 := by
  by_cases ha : (s[pos]'h).toNat < 128
  · rw [decode_ascii s pos h ha]
    exact Nat.le_refl _
  · exact (decode_high s pos h (by omega)).2

theorem bytes_at (s : ByteArray) (k : Nat) (h : k < s.size) : s.data.toList.take (k + 1) = s.data.toList.take k ++ [s[k]] := by
  rw [List.take_succ_eq_append_getElem (by simpa using h)]; rfl

theorem all_take_succ (s : ByteArray) (k : Nat) (h : k < s.size) (p : UInt8 → Bool) : (s.data.toList.take (k + 1)).all p = ((s.data.toList.take k).all p && p s[k]) := by
  rw [bytes_at s k h, List.all_append]; simp

theorem all_full (s : ByteArray) (p : UInt8 → Bool) (k : Nat) (h : ¬ k < s.size) : (s.data.toList.take k).all p = s.data.toList.all p := by
  rw [List.take_of_length_le (by simp; omega)]

theorem all_false_at (s : ByteArray) (k : Nat) (h : k < s.size) (p : UInt8 → Bool) (hp : p s[k] = false) : s.data.toList.all p = false := by
  rw [List.all_eq_false]
  exact ⟨s[k], by show s.data[k] ∈ _; simp, by simp [hp]⟩

/-- what a rune tells of an identifier is what its first byte tells -/
theorem okC_decode (s : ByteArray) (pos : Nat) (h : pos < s.size) : okC ((Utf8.decode s pos).1 : Int) = okC ((s[pos]'h).toNat : Int) := by
  by_cases ha : (s[pos]'h).toNat < 128
  · rw [decode_ascii s pos h ha]
  · rw [okC_high _ (by have := (decode_high s pos h (by omega)).1; omega), okC_high _ (by omega)]
theorem okC_width (s : ByteArray) (pos : Nat) (h : pos < s.size) : okC ((Utf8.decode s pos).1 : Int) = true → (Utf8.decode s pos).2 = 1 := by
  by_cases ha : (s[pos]'h).toNat < 128
  · rw [decode_ascii s pos h ha]; intro _; rfl
  · rw [okC_high _ (by have := (decode_high s pos h (by omega)).1; omega)]; intro x; cases x

theorem okC_t1 {r : Int} (h : (r == 45) = true) : okC r = true := by simp [okC, h]
theorem okC_t2 {r : Int} (h : (r == 95) = true) : okC r = true := by simp [okC, h]
theorem okC_t3 {r : Int} (h : (r == 46) = true) : okC r = true := by simp [okC, h]
theorem okC_t4 {r : Int} (h : (r == 58) = true) : okC r = true := by simp [okC, h]
theorem okC_t5 {r : Int} (h : (r == 42) = true) : okC r = true := by simp [okC, h]
theorem okC_t6 {r : Int} (h : 0 ≤ valI r) : okC r = true := by simp [okC, h]
theorem okC_f {r : Int} (h1 : (r == 45) = false) (h2 : (r == 95) = false) (h3 : (r == 46) = false) (h4 : (r == 58) = false) (h5 : (r == 42) = false) (hv : valI r < 0) : okC r = false := by
  simp [okC, h1, h2, h3, h4, h5]; omega
theorem valI_decode (s : ByteArray) (pos : Nat) (h : pos < s.size) : valI ((Utf8.decode s pos).1 : Int) = valI ((s[pos]'h).toNat : Int) := by
  by_cases ha : (s[pos]'h).toNat < 128
  · rw [decode_ascii s pos h ha]
  · rw [valI_high _ (by have := (decode_high s pos h (by omega)).1; omega), valI_high _ (by omega)]
theorem valI_width (s : ByteArray) (pos : Nat) (h : pos < s.size) : 0 ≤ valI ((Utf8.decode s pos).1 : Int) → (Utf8.decode s pos).2 = 1 := by
  by_cases ha : (s[pos]'h).toNat < 128
  · rw [decode_ascii s pos h ha]; intro _; rfl
  · rw [valI_high _ (by have := (decode_high s pos h (by omega)).1; omega)]; intro x; omega

set_option maxHeartbeats 800000 in
theorem valid_any (s : ByteArray) (w : World) (hs : s.size ≤ maxLen) :
    Calls Try.prog 25 #[.string s] w fun e w' => e = .returned (.bool (validL s.data.toList)) ∧ Below w.heap.size w w' := by
  unfold maxLen at hs
  have hll : s.data.toList.length = s.size := by simp
  by_cases hlo : s.size < 1
  · have hv : validL s.data.toList = false := by unfold validL; rw [hll]; simp; omega
    have HV := Lib.hid hv
    clear hv hll
    go_enter Try.func25, Try.ntmps25
    go_wp2
    go_ret
    exact ⟨ret_bool (by rw [HV.out]), Below.refl _ _⟩
  · by_cases hhi : 36 < s.size
    · have hv : validL s.data.toList = false := by unfold validL; rw [hll]; simp; omega
      have HV := Lib.hid hv
      clear hv hll
      go_enter Try.func25, Try.ntmps25
      go_wp2
      go_ret
      exact ⟨ret_bool (by rw [HV.out]), Below.refl _ _⟩
    · have hv : validL s.data.toList = s.data.toList.all (fun b => okC b.toNat) := by
        unfold validL; rw [hll]; simp; intros; omega
      have HV := Lib.hid hv
      clear hv hll
      go_enter Try.func25, Try.ntmps25
      go_wp2
      go_loopw [] (fun wr => ∃ pos : Nat, wr.heap[w.heap.size]? = some (.stringIter s pos) ∧ Below w.heap.size w wr ∧ Hid ((s.data.toList.take pos).all (fun b => okC b.toNat) = true)) (fun wr => s.size - wr.iterPos w.heap.size)
      case atStart => exact ⟨0, World.iter_heap w s 0, (Below.refl _ _).alloc (Nat.le_refl _) _, rfl⟩
      case round =>
        obtain ⟨pos, hit, hbw, H⟩ := hrel
        have hpos0 := iterPos_of hit
        by_cases hp : pos < s.size
        · have hnx : ∀ ty, (Instr.next (.pointer (some ⟨w.heap.size, 0, none⟩)) true ty).run Try.prog wr = _ := fun ty => Lib.run_next_any_at wr w.heap.size s pos ty hit hp
          have hwd := width_pos s pos hp
          have hok := okC_decode s pos hp
          have hit2 := Lib.iterAt_heap wr w.heap.size s pos (pos + (Utf8.decode s pos).2) hit
          have hbw2 := Lib.below_iterAt hbw (k := w.heap.size) (Nat.le_refl _) s (pos + (Utf8.decode s pos).2)
          have hr1 := decode_le s pos
          have hone := okC_width s pos hp
          generalize wr.iterAt w.heap.size s (pos + (Utf8.decode s pos).2) = W1 at hnx hit2 hbw2
          generalize hr : ((Utf8.decode s pos).1 : Int) = r at hnx hok hone
          have hr0 : 0 ≤ r := by omega
          have hr2 : r ≤ 2147483647 := by omega
          generalize (Utf8.decode s pos).2 = wd at hwd hit2 hone
          have HO := Lib.hid hok
          have H1 := Lib.hid hone
          clear hr hr1 hit hbw hok hone
          go_wp2_with (go_at_call 33; refine (value_any _ _ (by omega) (by omega)).mono ?_; rintro e w' ⟨rfl, rfl⟩)
          all_goals try (
            have hk : okC r = true := by first | exact okC_t1 ‹(r == 45) = true› | exact okC_t2 ‹(r == 95) = true› | exact okC_t3 ‹(r == 46) = true› | exact okC_t4 ‹(r == 58) = true› | exact okC_t5 ‹(r == 42) = true› | exact okC_t6 ‹0 ≤ valI r›
            have hw1 := H1.out hk
            subst hw1
            have hb : okC (s[pos].toNat : Int) = true := by rw [← HO.out]; exact hk
            go_roundw
            case rel => exact ⟨pos + 1, hit2, hbw2, by show _ = true; rw [all_take_succ s pos hp, H.out, hb]; rfl⟩
            case measure => rw [iterPos_of hit2, hpos0]; omega)
          have hf : okC r = false := okC_f ‹(r == 45) = false› ‹(r == 95) = false› ‹(r == 46) = false› ‹(r == 58) = false› ‹(r == 42) = false› ‹valI r < 0›
          have hb : okC (s[pos].toNat : Int) = false := by rw [← HO.out]; exact hf
          go_ret
          exact ⟨ret_bool (by rw [HV.out, all_false_at s pos hp _ hb]), hbw2⟩
        · have hnx : ∀ ty, (Instr.next (.pointer (some ⟨w.heap.size, 0, none⟩)) true ty).run Try.prog wr = _ := fun ty => Lib.run_next_end_at wr w.heap.size s pos ty hit hp
          have hall := H.out
          rw [all_full s _ pos hp] at hall
          have HA := Lib.hid hall
          clear hall
          go_wp2
          go_ret
          exact ⟨ret_bool (by rw [HV.out, HA.out]), hbw⟩

theorem alnum_len {s : ByteArray} {n least : Int} (h : ((s.size : Int) != n) = true) : alnumL s.data.toList n least = false := by
  have h' : ¬ (s.size : Int) = n := by simpa using h
  have hll : s.data.toList.length = s.size := by simp
  unfold alnumL; rw [hll]; simp [h']
theorem alnum_all {s : ByteArray} {n least : Int} (h : ((s.size : Int) != n) = false) : alnumL s.data.toList n least = s.data.toList.all (fun b => decide (least ≤ valI b.toNat)) := by
  have h' : (s.size : Int) = n := by simpa using h
  have hll : s.data.toList.length = s.size := by simp
  unfold alnumL; rw [hll]; simp [h']

end Go.Proofs.Ytcaicdjlfgpbfaa
