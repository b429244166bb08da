/-
  Walks: package series: Valid and Energy.
-/
import Derived.Test.YtpknjblgbpndlaaDoorPSer
import Derived.Test.YtpknjblgbpndlaaDoorWLaw5f
import Derived.Laws.Shifts
import Derived.Laws.BitsLemmas
namespace Go.Proofs.YtpknjblgbpndlaaDoor
open Go.RowKit Go.Lib Go.Maps
set_option linter.unusedVariables false

theorem i64_mask20 (n : Int) : bits .and .i64 n 1048575 = n % 1048576 := by
  have hm : (BitVec.ofInt 64 1048575).toNat = 2 ^ 20 - 1 := by decide
  have key : (BitVec.ofInt 64 n &&& BitVec.ofInt 64 1048575).toNat = (n % ((2 ^ 64 : Nat) : Int)).toNat % 2 ^ 20 := by
    rw [BitVec.toNat_and, BitVec.toNat_ofInt, hm, Nat.and_two_pow_sub_one_eq_mod]
  show IntKind.i64.wrap ((BitVec.ofInt 64 n &&& BitVec.ofInt 64 1048575).toNat : Nat) = n % 1048576
  rw [key, IntKind.wrap_i64]
  omega

theorem old_allocS {w : World} {b : Nat} (h : b < w.heap.size) (o : Obj) (j : Nat) : (w.alloc o).cell? ⟨b, j, none⟩ = w.cell? ⟨b, j, none⟩ := World.cell?_of_block (a := ⟨b, j, none⟩) (Below.heap_alloc _ _ _ h)

set_option maxRecDepth 100000 in
theorem isTime_any (t : Int) (w : World) : Calls Tryd.prog 25 #[.int .i64 t] w fun e w' => e = .returned (.bool (timeB t)) ∧ w = w' := by
  by_cases h1 : 0 ≤ t
  · by_cases h2 : t ≤ 268435456
    · have H := Lib.hid (timeB_iff.2 ⟨h1, h2⟩)
      go_enter Tryd.func25, Tryd.ntmps25
      go_wp2_with fail
      go_ret
      exact ⟨ret_bool (by rw [H.out]; try (simp; omega)), rfl⟩
    · have H : Hid (timeB t = false) := by unfold Hid timeB maxT; simp; omega
      go_enter Tryd.func25, Tryd.ntmps25
      go_wp2_with fail
      go_ret
      exact ⟨ret_bool (by rw [H.out]; try (simp; omega)), rfl⟩
  · have H : Hid (timeB t = false) := by unfold Hid timeB maxT; simp; omega
    go_enter Tryd.func25, Tryd.ntmps25
    go_wp2_with fail
    go_ret
    exact ⟨ret_bool (by rw [H.out]; try (simp; omega)), rfl⟩

set_option maxRecDepth 100000 in
theorem isValue_any (t : Int) (w : World) : Calls Tryd.prog 26 #[.int .i64 t] w fun e w' => e = .returned (.bool (valB t)) ∧ w = w' := by
  by_cases h1 : -1099511627776 ≤ t
  · by_cases h2 : t ≤ 1099511627776
    · have H := Lib.hid (valB_iff.2 ⟨h1, h2⟩)
      go_enter Tryd.func26, Tryd.ntmps26
      go_wp2_with fail
      go_ret
      exact ⟨ret_bool (by rw [H.out]; try (simp; omega)), rfl⟩
    · have H : Hid (valB t = false) := by unfold Hid valB; simp; omega
      go_enter Tryd.func26, Tryd.ntmps26
      go_wp2_with fail
      go_ret
      exact ⟨ret_bool (by rw [H.out]; try (simp; omega)), rfl⟩
  · have H : Hid (valB t = false) := by unfold Hid valB; simp; omega
    go_enter Tryd.func26, Tryd.ntmps26
    go_wp2_with fail
    go_ret
    exact ⟨ret_bool (by rw [H.out]; try (simp; omega)), rfl⟩

set_option maxRecDepth 100000 in
theorem serSpan_any (a b : Int) (w : World) (a0 : 0 ≤ a) (ab : a ≤ b) (b1 : b ≤ 268435456) : Calls Tryd.prog 30 #[.agg #[.int .i64 a, .int .i64 b]] w fun e w' => e = .returned (.bool true) ∧ Below w.heap.size w w' := by
  go_enter Tryd.func30, Tryd.ntmps30
  go_wp2_with fail
  go_ret
  exact ⟨ret_bool (by first | rfl | (simp; omega)), below_alloc (Below.refl _ _) _⟩

/-- what Valid says of a series -/
def SerPost (w : World) (L : List (Int × Int)) (e : Ending) (w' : World) : Prop := ∃ c : Int, e = .returned (.int .i64 c) ∧ (c = 0 ↔ serOk L) ∧ Below w.heap.size w w'

set_option maxRecDepth 100000 in
set_option maxHeartbeats 6400000 in
theorem serValid_any (L : List (Int × Int)) (v : Value) (w : World) (hL : IsSl w 2 v (L.map encP)) : Calls Tryd.prog 10 #[v] w (SerPost w L) := by
  obtain ⟨A, c, rfl, hlc, hcm, hsl⟩ := hL
  rw [List.length_map] at hlc
  unfold maxLen at hcm
  simp only [List.length_map]
  by_cases hbig : 512 < L.length
  · have HN : Hid (¬ serOk L) := fun h => by have := h.1; omega
    have hi : (512 : Int) < (L.length : Int) := by omega
    go_enter Tryd.func10, Tryd.ntmps10
    go_wp2_with fail
    go_ret
    exact ⟨3, rfl, ⟨fun h => by omega, fun h => absurd h HN.out⟩, Below.refl _ _⟩
  have hi : ¬ (512 : Int) < (L.length : Int) := by omega
  have HB : Hid (L.length ≤ 512) := by unfold Hid; omega
  clear hbig
  go_enter Tryd.func10, Tryd.ntmps10
  go_wp2_with fail
  go_loopw [10] (fun i wr => ∃ n : Nat, n ≤ L.length ∧ i = .int .i64 n ∧ Hid (OkTo L n) ∧ Below w.heap.size w wr) (fun i _ => L.length - (intOf i).toNat)
  case atStart => exact ⟨0, by omega, rfl, OkTo.zero _, Below.refl _ _⟩
  case round =>
    obtain ⟨k, hk, rfl, HO, hbw⟩ := hrel
    obtain ⟨hc, hf⟩ := bcell hbw
    by_cases hlt : k < L.length
    · have hki : (k : Int) < (L.length : Int) := by omega
      obtain ⟨g, off, rfl, hb, c0, c1⟩ := span_at (hsl.below hbw) (List.getElem?_eq_getElem hlt)
      by_cases ht : timeB L[k].1 = true
      · by_cases hvv : valB L[k].2 = true
        · have T1 := Lib.hid ht
          have T2 := Lib.hid hvv
          rcases Nat.eq_zero_or_pos k with hk0 | hk0
          · subst hk0
            have HO2 := Lib.hid (OkTo.first hlt ht hvv)
            clear ht hvv
            generalize hx : L[0] = x at *
            clear hx
            simp only [Nat.zero_mul, Nat.add_zero] at c0 c1
            go_wp2_with (first | (go_at_call 25; refine (isTime_any x.1 _).mono ?_; rintro e w' ⟨rfl, rfl⟩; rw [T1.out]) | (go_at_call 26; refine (isValue_any x.2 _).mono ?_; rintro e w' ⟨rfl, rfl⟩; rw [T2.out]))
            go_quiet (fail)
            go_wp2_with fail
            go_roundw
            case measure => simp [intOf]; omega
            case rel => exact ⟨0 + 1, by omega, by go_num, HO2, below_drewN (below_alloc hbw _) _⟩
          · obtain ⟨m, rfl⟩ : ∃ m, k = m + 1 := ⟨k - 1, by omega⟩
            obtain ⟨g2, off2, eg, hb2, d0, d1⟩ := span_at (hsl.below hbw) (List.getElem?_eq_getElem (show m < L.length by omega))
            injection eg with eg
            injection eg with eg1 eg2 _
            subst eg1
            subst eg2
            by_cases hgap : L[m].1 < L[m + 1].1
            · have HO2 := Lib.hid (HO.out.step hlt ht hvv hgap)
              clear ht hvv
              generalize hx : L[m + 1] = x at *
              generalize hy : L[m] = y at *
              clear hx hy
              generalize hkm : m + 1 = k at *
              have hw : IntKind.i64.wrap ((k : Int) - 1) = (m : Int) := by rw [show (k : Int) - 1 = (m : Int) by omega]; exact IntWalk.i64_in _ (by omega)
              have hw2 : (0 : Int) ≤ (m : Int) := by omega
              have hw3 : (m : Int) < (L.length : Int) := by omega
              have g6 : decide (0 < k) = true := by simp; omega
              have y1 := old_allocS (w := wr) (b := g) (by omega)
              clear hkm
              go_wp2_with (first | (go_at_call 25; refine (isTime_any x.1 _).mono ?_; rintro e w' ⟨rfl, rfl⟩; rw [T1.out]) | (go_at_call 26; refine (isValue_any x.2 _).mono ?_; rintro e w' ⟨rfl, rfl⟩; rw [T2.out]))
              have g5 : decide (x.1 ≤ y.1) = false := by simp; omega
              go_quiet (fail)
              go_wp2_with fail
              go_roundw
              case measure => simp [intOf]; omega
              case rel => exact ⟨k + 1, by omega, by go_num, HO2, below_drewN (below_alloc hbw _) _⟩
            · have HN : Hid (¬ serOk L) := fun h => hgap (h.2.gap (j := m) (by omega) (by omega))
              clear ht hvv
              generalize hx : L[m + 1] = x at *
              generalize hy : L[m] = y at *
              clear hx hy
              generalize hkm : m + 1 = k at *
              have hw : IntKind.i64.wrap ((k : Int) - 1) = (m : Int) := by rw [show (k : Int) - 1 = (m : Int) by omega]; exact IntWalk.i64_in _ (by omega)
              have hw2 : (0 : Int) ≤ (m : Int) := by omega
              have hw3 : (m : Int) < (L.length : Int) := by omega
              have g6 : decide (0 < k) = true := by simp; omega
              have y1 := old_allocS (w := wr) (b := g) (by omega)
              clear hkm
              go_wp2_with (first | (go_at_call 25; refine (isTime_any x.1 _).mono ?_; rintro e w' ⟨rfl, rfl⟩; rw [T1.out]) | (go_at_call 26; refine (isValue_any x.2 _).mono ?_; rintro e w' ⟨rfl, rfl⟩; rw [T2.out]))
              have g5 : decide (x.1 ≤ y.1) = true := by simp; omega
              go_quiet (fail)
              go_wp2_with fail
              go_ret
              exact ⟨1, rfl, ⟨fun h => by omega, fun h => absurd h HN.out⟩, below_drewN (below_alloc hbw _) _⟩
        · have HN : Hid (¬ serOk L) := fun h => hvv (h.2.at hlt hlt).2
          have T1 := Lib.hid ht
          have T2 : Hid (valB L[k].2 = false) := by unfold Hid; simpa using hvv
          clear ht hvv
          generalize L[k] = x at *
          go_wp2_with (first | (go_at_call 25; refine (isTime_any x.1 _).mono ?_; rintro e w' ⟨rfl, rfl⟩; rw [T1.out]) | (go_at_call 26; refine (isValue_any x.2 _).mono ?_; rintro e w' ⟨rfl, rfl⟩; rw [T2.out]))
          go_ret
          exact ⟨2, rfl, ⟨fun h => by omega, fun h => absurd h HN.out⟩, below_alloc hbw _⟩
      · have HN : Hid (¬ serOk L) := fun h => ht (h.2.at hlt hlt).1
        have T1 : Hid (timeB L[k].1 = false) := by unfold Hid; simpa using ht
        clear ht
        generalize L[k] = x at *
        go_wp2_with (go_at_call 25; refine (isTime_any x.1 _).mono ?_; rintro e w' ⟨rfl, rfl⟩; rw [T1.out])
        go_ret
        exact ⟨2, rfl, ⟨fun h => by omega, fun h => absurd h HN.out⟩, below_alloc hbw _⟩
    · have hki : ¬ (k : Int) < (L.length : Int) := by omega
      have hkl : k = L.length := by omega
      have HK : Hid (serOk L) := ⟨HB.out, hkl ▸ HO.out⟩
      clear hkl
      go_wp2_with fail
      go_ret
      exact ⟨0, rfl, ⟨fun _ => HK.out, fun _ => rfl⟩, hbw⟩

end Go.Proofs.YtpknjblgbpndlaaDoor
