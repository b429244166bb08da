/-
  Walks: the key of a token in package list; two tokens compared by their keys.
-/
import Derived.Test.YtcaicdjlfgpbfaaWToken3
import Derived.Test.YtcaicdjlfgpbfaaPList
import Derived.Shelf.SlSortCmp.QuietGrown
namespace Go.Proofs.Ytcaicdjlfgpbfaa
open Go.RowKit Go.Lib Go.Joins
attribute [local go_sem] after_cell
set_option linter.unusedVariables false

/-- what is only drawn and made -/
def GrownW (w w' : World) : Prop := ∃ q os, w' = Sort.grow (w.drewN q) os
theorem grown_of {w w' : World} (h : Below w.heap.size w w') (hd : w.drawn ≤ w'.drawn) : GrownW w w' := by
  refine ⟨w'.drawn - w.drawn, w'.heap.extract w.heap.size w'.heap.size, ?_⟩
  have hh : w'.heap = w.heap ++ w'.heap.extract w.heap.size w'.heap.size := by
    apply Array.ext_getElem?
    intro i
    have hs := h.size
    by_cases hi : i < w.heap.size
    · rw [h.block i hi, Array.getElem?_append_left hi]
    · rw [Array.getElem?_append_right (by omega), Array.getElem?_extract]
      by_cases hi2 : i < w'.heap.size
      · rw [if_pos (by omega)]
        congr 1; omega
      · rw [if_neg (by omega), Array.getElem?_eq_none (by omega)]
  obtain ⟨a, b, c, d, e⟩ := w
  obtain ⟨a', b', c', d', e'⟩ := w'
  obtain ⟨h1, h2, h3, h4, h5⟩ := h
  simp only at h1 h2 h3 hd hh
  subst h1 h2 h3
  unfold Sort.grow World.drewN
  simp only [World.mk.injEq, and_true, true_and]
  exact ⟨hh, by omega⟩
theorem GrownW.below {w w' : World} (h : GrownW w w') : Below w.heap.size w w' := by
  obtain ⟨q, os, rfl⟩ := h
  refine ⟨rfl, rfl, rfl, by simp [Sort.grow, World.drewN], fun k hk => ?_⟩
  simp [Sort.grow, World.drewN, Array.getElem?_append_left hk]
theorem GrownW.alloc {w w' : World} {o : Obj} (h : GrownW (w.alloc o) w') : GrownW w w' := by
  obtain ⟨q, os, rfl⟩ := h
  exact ⟨q, #[o] ++ os, by rw [Sort.alloc_eq_grow, show (Sort.grow w #[o]).drewN q = Sort.grow (w.drewN q) #[o] from rfl, Sort.grow_grow]⟩
theorem bytes_convD {P : Program} (w : World) (src dst e : TypeId) (s : ByteArray) (hs : P.underlying src = some .string) (hd : P.underlying dst = some (.slice e)) (he : P.underlying e = some (.int .u8)) :
    ∃ (c : Nat) (w1 : World), (convert src dst (.string s)).run P w = .ok (.slice (some ⟨w.heap.size, 0, none⟩) s.size c) w1 ∧ Below w.heap.size w w1 ∧ w1.heap.size = w.heap.size + 1 ∧
      Row w1 w.heap.size s.size (fun j => .int .u8 ((s.data.toList.getD j 0).toNat : Int)) ∧ w.drawn ≤ w1.drawn :=
  ⟨_, _, run_bytes_of_string w src dst e s hs hd he, ((Below.refl _ _).drew).alloc (Nat.le_refl _) _, by simp, bytes_row w e s _, Nat.le_succ _⟩

set_option maxHeartbeats 800000 in
theorem lkey_any (s : ByteArray) (w : World) (hs : s.size ≤ maxLen) :
    Calls Try.prog 14 #[.string s] w fun e w' => e = .returned (.string (capS s)) ∧ GrownW w w' := by
  unfold maxLen at hs
  obtain ⟨c, w1, hcv, hb1, hz1, hrow, hd1⟩ := bytes_convD (P := Try.prog) w 9 58 5 s Try.underlying9 Try.underlying58 Try.underlying5
  have HZ := Lib.hid hz1
  clear hz1
  go_enter Try.func14, Try.ntmps14
  go_wp2_with fail
  go_loopw [10] (fun i wr => ∃ k : Nat, k ≤ s.size ∧ i = .int .i64 k ∧ Below w.heap.size w wr ∧ Row wr w.heap.size s.size (capRow s k) ∧ Hid (w.drawn ≤ wr.drawn)) (fun i _ => s.size - (intOf i).toNat)
  case atStart => exact ⟨0, by omega, rfl, hb1, by rw [capRow_zero]; exact hrow, hd1⟩
  case round =>
    obtain ⟨k, hk, rfl, hbw, hr, HD⟩ := hrel
    clear hcv
    by_cases hlt : k < s.size
    · obtain ⟨hb0, hb1⟩ := byte_lt s k hlt
      have hc := hr.cell hlt
      rw [capRow_at s k hlt] at hc
      have hf := hr.frozen hlt
      have HS := Lib.hid (capRow_succ s k hlt)
      have HM := Lib.hid (capRow_same s k hlt)
      generalize hx : (s[k].toNat : Int) = x at *
      clear hx
      by_cases hin : 97 ≤ x ∧ x ≤ 122
      · obtain ⟨g1, g2⟩ := hin
        have HC : Hid (capI x = x - 97 + 65) := by unfold Hid capI; rw [if_pos ⟨g1, g2⟩]; omega
        go_wp2_with fail
        go_roundw
        case rel => exact ⟨k + 1, by omega, by go_num, hbw.setCell (Nat.le_refl _) _, (hr.set k _).congr (by rw [← HC.out]; exact HS.out), HD⟩
        case measure => simp [intOf]; omega
      · have HC : Hid (capI x = x) := by unfold Hid capI; rw [if_neg hin]
        have hin' : decide (97 ≤ x) = false ∨ decide (x ≤ 122) = false := by simp; omega
        by_cases g1 : 97 ≤ x
        · have g2 : 122 < x := by omega
          clear hin hin'
          go_wp2_with fail
          go_roundw
          case rel => exact ⟨k + 1, by omega, by go_num, hbw, hr.congr (HM.out HC.out), HD⟩
          case measure => simp [intOf]; omega
        · have g2 : x < 97 := by omega
          clear hin hin' g1
          go_wp2_with fail
          go_roundw
          case rel => exact ⟨k + 1, by omega, by go_num, hbw, hr.congr (HM.out HC.out), HD⟩
          case measure => simp [intOf]; omega
    · have hbk := bytes_back (P := Try.prog) wr 58 9 5 w.heap.size s.size c (capL s.data.toList) Try.underlying58 Try.underlying5 Try.underlying9 (by simp [capL]) _ hr (capRow_full s k hlt)
      go_wp2_with fail
      go_ret
      exact ⟨rfl, grown_of hbw HD.out⟩

def cmpB (x y : List UInt8) : Int := if Op.bytesLess x y = true then -1 else if Op.bytesLess y x = true then 1 else 0
theorem cmpB_key (a b : Tok) : cmpB (capS a.id).data.toList (capS b.id).data.toList = cmpK a b := by
  rw [capS_data, capS_data]; rfl

set_option maxHeartbeats 800000 in
theorem compare_any (x y : ByteArray) (w : World) :
    Calls Try.prog 29 #[.string x, .string y] w fun e w' => e = .returned (.int .i64 (cmpB x.data.toList y.data.toList)) ∧ w = w' := by
  unfold cmpB
  have hxx : (x.toList != x.toList) = false := by simp
  have hyy : (y.toList != y.toList) = false := by simp
  rw [← Lib.toList_data, ← Lib.toList_data]
  cases h1 : Op.bytesLess x.toList y.toList with
  | true =>
    go_enter Try.func29, Try.ntmps29
    go_wp2
    go_ret
    exact ⟨rfl, rfl⟩
  | false =>
    cases h2 : Op.bytesLess y.toList x.toList with
    | true =>
      have hq : (x.toList == y.toList) = false := beq_eq_false_iff_ne.2 fun e => by rw [e, less_irrefl] at h2; cases h2
      go_enter Try.func29, Try.ntmps29
      go_wp2
      go_ret
      exact ⟨rfl, rfl⟩
    | false =>
      have hq : (x.toList == y.toList) = true := by
        by_cases e : x.toList = y.toList
        · rw [e]; simp
        · rw [less_tri _ _ h1 e] at h2; cases h2
      go_enter Try.func29, Try.ntmps29
      go_wp2
      go_ret
      exact ⟨rfl, rfl⟩

set_option maxHeartbeats 1600000 in
theorem byKey_any (a b : Tok) (w : World) (ha : a.id.size ≤ maxLen) (hb : b.id.size ≤ maxLen) :
    Calls Try.prog 17 #[.agg #[.string a.id, .string a.group, .string a.contract, .int .i64 a.kind, .int .i64 a.status, .int .i64 a.expiry], .agg #[.string b.id, .string b.group, .string b.contract, .int .i64 b.kind, .int .i64 b.status, .int .i64 b.expiry]] w fun e w' => e = .returned (.int .i64 (cmpK a b)) ∧ GrownW w w' := by
  have hmix : Try.prog.follows .mixedOrders = true := by kernel_rfl
  obtain ⟨W0, hW0, hc0, hc1⟩ : ∃ W0, W0 = (w.alloc (.cells #[.string a.id, .string a.group, .string a.contract, .int .i64 a.kind, .int .i64 a.status, .int .i64 a.expiry] 24)).alloc (.cells #[.string b.id, .string b.group, .string b.contract, .int .i64 b.kind, .int .i64 b.status, .int .i64 b.expiry] 24) ∧
      (∀ n os, (Sort.grow (W0.drewN n) os).cell? ⟨w.heap.size, 0, none⟩ = some (.string a.id)) ∧ (∀ n os, (Sort.grow (W0.drewN n) os).cell? ⟨w.heap.size + 1, 0, none⟩ = some (.string b.id)) := by
    refine ⟨_, rfl, fun n os => cell_grown (by simp; omega) ?_ n os, fun n os => cell_grown (by simp) ?_ n os⟩
    · rw [World.cell?_alloc_old _ _ _ (by simp)]
      exact World.cell?_alloc_mark w _ _ (0, 0) 0
    · have := World.cell?_alloc_mark (w.alloc (.cells #[.string a.id, .string a.group, .string a.contract, .int .i64 a.kind, .int .i64 a.status, .int .i64 a.expiry] 24)) #[.string b.id, .string b.group, .string b.contract, .int .i64 b.kind, .int .i64 b.status, .int .i64 b.expiry] 24 (0, 0) 0
      simp
  have K1 := Lib.hid (fun n os => lkey_any a.id (Sort.grow (W0.drewN n) os) ha)
  have K2 := Lib.hid (fun n os => lkey_any b.id (Sort.grow (W0.drewN n) os) hb)
  have KC := Lib.hid (fun n os => compare_any (capS a.id) (capS b.id) (Sort.grow (W0.drewN n) os))
  go_enter Try.func17, Try.ntmps17
  go_wp2_with fail
  rw [← hW0]
  have HW := Lib.hid hW0
  clear hW0
  go_quiet_grown (first
    | (go_at_call 14; first | with_reducible exact Calls.grown_of (K1.out _ _) | with_reducible exact Calls.grown_of (K2.out _ _))
    | (go_at_call 29; exact Calls.grown_of ((KC.out _ _).mono fun e w' ⟨h1, h2⟩ => ⟨h1, 0, #[], by rw [← h2, Sort.grow_empty]; rfl⟩)))
  go_wp2_with fail
  go_ret
  refine ⟨by rw [cmpB_key]; rfl, ?_⟩
  have h : GrownW W0 (Sort.grow (W0.drewN nq) osq) := ⟨nq, osq, rfl⟩
  rw [HW.out] at h ⊢
  exact h.alloc.alloc

end Go.Proofs.Ytcaicdjlfgpbfaa
