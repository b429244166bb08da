/-
  Walks: a power is added to a load.
-/
import Derived.Test.YtkjggfhbnhpdnaaDoorWSite9
import Derived.Laws.BitsAllLaws
namespace Go.Proofs.YtkjggfhbnhpdnaaDoor
open Go.RowKit Go.Lib Go.Maps
set_option linter.unusedVariables false

theorem phase_bits {ph : Int} (h1 : 1 ≤ ph) (h7 : ph ≤ 7) : bits .and .i64 ph 1 = ph % 2 ∧ bits .and .i64 ph 2 = 2 * (ph / 2 % 2) ∧ bits .and .i64 ph 4 = 4 * (ph / 4 % 2) := by
  have h : ph = 1 ∨ ph = 2 ∨ ph = 3 ∨ ph = 4 ∨ ph = 5 ∨ ph = 6 ∨ ph = 7 := by omega
  rcases h with rfl | rfl | rfl | rfl | rfl | rfl | rfl <;> exact ⟨by kernel_rfl, by kernel_rfl, by kernel_rfl⟩

theorem blk_eq {w : World} {g : Nat} {T : TypeId} {a b : List Value} (h : Blk w g T a) (e : a = b) : Blk w g T b := e ▸ h

theorem set4_eq {cur X : List Value} {off : Nat} {v0 v1 v2 v3 : Value} (hX : X.length = cur.length) (hl : off + 4 ≤ cur.length) (h0 : X[off]? = some v0) (h1 : X[off + 1]? = some v1) (h2 : X[off + 2]? = some v2) (h3 : X[off + 3]? = some v3)
    (ho : ∀ j, (j < off ∨ off + 4 ≤ j) → X[j]? = cur[j]?) : X = setAll cur off [v0, v1, v2, v3] := by
  apply List.ext_getElem?
  intro j
  rw [setAll_get _ _ _ (by simpa using hl)]
  by_cases hj : off ≤ j ∧ j < off + 4
  · rw [if_pos (by simpa using hj)]
    have hh : j = off ∨ j = off + 1 ∨ j = off + 2 ∨ j = off + 3 := by omega
    rcases hh with rfl | rfl | rfl | rfl
    · rw [h0, Nat.sub_self]; rfl
    · rw [h1, show off + 1 - off = 1 by omega]; rfl
    · rw [h2, show off + 2 - off = 2 by omega]; rfl
    · rw [h3, show off + 3 - off = 3 by omega]; rfl
  · rw [if_neg (by simpa using hj), ho j (by omega)]

theorem grown_set {w w' : World} {g : Nat} (h : w.grownBy w' (some g)) (k : Nat) (v : Value) : w.grownBy (w'.setCell ⟨g, k, none⟩ v) (some g) :=
  ⟨h.os, h.tape, h.output, by simpa [World.setCell] using h.size, fun j hj hne => (Below.heap_setCell w' ⟨g, k, none⟩ v j (fun e => hne (by rw [e]))).trans (h.block j hj hne)⟩

theorem set_part {cur : List Value} {off : Nat} (hl : off + 4 ≤ cur.length) (a b c t : Int) : (setAll cur off (⟨a, b, c, t⟩ : CapR).cells).length = cur.length ∧ (setAll cur off (⟨a, b, c, t⟩ : CapR).cells)[off]? = some (.int .i64 a) ∧ (setAll cur off (⟨a, b, c, t⟩ : CapR).cells)[off + 1]? = some (.int .i64 b) ∧ (setAll cur off (⟨a, b, c, t⟩ : CapR).cells)[off + 2]? = some (.int .i64 c) ∧
    (setAll cur off (⟨a, b, c, t⟩ : CapR).cells)[off + 3]? = some (.int .i64 t) := by
  have hl4 : (⟨a, b, c, t⟩ : CapR).cells.length = 4 := rfl
  have hg := setAll_get (⟨a, b, c, t⟩ : CapR).cells cur off (by rw [hl4]; exact hl)
  refine ⟨setAll_len _ _ _, ?_, ?_, ?_, ?_⟩
  · rw [hg, hl4, if_pos (by omega), Nat.sub_self]; rfl
  · rw [hg, hl4, if_pos (by omega), show off + 1 - off = 1 by omega]; rfl
  · rw [hg, hl4, if_pos (by omega), show off + 2 - off = 2 by omega]; rfl
  · rw [hg, hl4, if_pos (by omega), show off + 3 - off = 3 by omega]; rfl
theorem set_again {cur : List Value} {off : Nat} (hl : off + 4 ≤ cur.length) (x y : CapR) : setAll (setAll cur off x.cells) off y.cells = setAll cur off y.cells := by
  have h1 : x.cells.length = 4 := rfl
  have h2 : y.cells.length = 4 := rfl
  apply List.ext_getElem?
  intro j
  rw [setAll_get y.cells _ off (by rw [h2, setAll_len]; exact hl), setAll_get x.cells _ off (by rw [h1]; exact hl), setAll_get y.cells _ off (by rw [h2]; exact hl), h1, h2]
  split <;> rfl
theorem set_same {cur : List Value} {off : Nat} (hl : off + 4 ≤ cur.length) {a b c t : Int} (k0 : cur[off]? = some (.int .i64 a)) (k1 : cur[off + 1]? = some (.int .i64 b)) (k2 : cur[off + 2]? = some (.int .i64 c)) (k3 : cur[off + 3]? = some (.int .i64 t)) : cur = setAll cur off (⟨a, b, c, t⟩ : CapR).cells :=
  set4_eq rfl hl k0 k1 k2 k3 (fun _ _ => rfl)

theorem add_c (c : CapR) (ph p : Int) (h1 : ph % 2 = 0 ∨ ph % 2 = 1) (h2 : ph / 2 % 2 = 0 ∨ ph / 2 % 2 = 1) (h4 : ph / 4 % 2 = 0 ∨ ph / 4 % 2 = 1) : (⟨c.a + p * (ph % 2), c.b + p * (ph / 2 % 2), c.c + p * (ph / 4 % 2), c.t + p * (ph % 2) + p * (ph / 2 % 2) + p * (ph / 4 % 2)⟩ : CapR) = addC c ph p := by
  apply CapR.ext' <;> simp only [addC]
  rcases h1 with h | h <;> rcases h2 with h' | h' <;> rcases h4 with h'' | h'' <;> rw [h, h', h''] <;> omega

set_option maxRecDepth 100000 in
set_option maxHeartbeats 6400000 in
theorem add_any (g off : Nat) (T : TypeId) (cur : List Value) (c : CapR) (ph p n : Int) (w : World) (hB : Blk w g T cur) (hl : off + 4 ≤ cur.length) (k0 : cur[off]? = some (.int .i64 c.a)) (k1 : cur[off + 1]? = some (.int .i64 c.b)) (k2 : cur[off + 2]? = some (.int .i64 c.c)) (k3 : cur[off + 3]? = some (.int .i64 c.t))
    (hc : CapOk n c) (hn : n ≤ 1099511627776) (h1 : 1 ≤ ph) (h7 : ph ≤ 7) (hp0 : 0 ≤ p) (hp1 : p ≤ 1048576) :
    Calls Tryd.prog 32 #[.pointer (some ⟨g, off, none⟩), .int .i64 ph, .int .i64 p] w fun e w' => e = .returned (.tuple #[]) ∧ Blk w' g T (setAll cur off (addC c ph p).cells) ∧ w.grownBy w' (some g) := by
  obtain ⟨q1, q2, q4⟩ := phase_bits h1 h7
  have HADD := Lib.hid (add_c c ph p (by omega) (by omega) (by omega))
  obtain ⟨a0, a1, b0, b1, c0, c1, ht⟩ := hc
  have HT := Lib.hid ht
  have t0 : 0 ≤ c.t := by omega
  have t1 : c.t ≤ 3298534883328 := by omega
  clear ht
  have hg := World.grownBy.refl w (some g)
  have e0 : ph % 2 = 0 ∨ ph % 2 = 1 := by omega
  have e1 : ph / 2 % 2 = 0 ∨ ph / 2 % 2 = 1 := by omega
  have e2 : ph / 4 % 2 = 0 ∨ ph / 4 % 2 = 1 := by omega
  generalize ph % 2 = m0 at *
  generalize ph / 2 % 2 = m1 at *
  generalize ph / 4 % 2 = m2 at *
  have u0 : 0 ≤ c.a + p * m0 ∧ c.a + p * m0 ≤ 2199023255552 := by rcases e0 with rfl | rfl <;> omega
  have u1 : 0 ≤ c.t + p * m0 ∧ c.t + p * m0 ≤ 6597069766656 := by rcases e0 with rfl | rfl <;> omega
  have u2 : 0 ≤ c.t + p * m0 + p * m1 ∧ c.t + p * m0 + p * m1 ≤ 9597069766656 := by rcases e0 with rfl | rfl <;> rcases e1 with rfl | rfl <;> omega
  have HA1 : Hid (∃ a t : Int, c.a + p * m0 = a ∧ c.t + p * m0 = t ∧ 0 ≤ t ∧ t ≤ 6597069766656) := ⟨_, _, rfl, rfl, u1⟩
  have HB := Lib.hid hB
  have HK := Lib.hid (And.intro k0 (And.intro k1 (And.intro k2 k3)))
  have f0 := hB.free off
  have f3 := hB.free (off + 3)
  have x0 := (hB.cell off).trans k0
  have x3 := (hB.cell (off + 3)).trans k3
  clear hB k0 k1 k2 k3 u0 u1 h1 h7
  go_enter Tryd.func32, Tryd.ntmps32
  go_upto_if 8 with fail
  go_cut [] (fun wx => Blk wx g T (setAll cur off (⟨c.a + p * m0, c.b, c.c, c.t + p * m0⟩ : CapR).cells) ∧ w.grownBy wx (some g))
  case first =>
    rcases e0 with rfl | rfl
    · go_wp2_with fail
      go_meet
      obtain ⟨k0, k1, k2, k3⟩ := HK.out
      exact ⟨blk_eq HB.out (by simp only [Int.mul_zero, Int.add_zero]; exact set_same hl k0 k1 k2 k3), hg⟩
    · go_wp2_with fail
      go_meet
      obtain ⟨k0, k1, k2, k3⟩ := HK.out
      refine ⟨?_, grown_set (grown_set hg _ _) _ _⟩
      apply blk_eq
      · exact (HB.out.set _ _).set _ _
      · refine set4_eq (by simp) hl ?_ ?_ ?_ ?_ (fun j hj => by (repeat rw [List.getElem?_set_ne (by omega)]))
        · simp [List.getElem?_set]; first | done | omega
        · simp [k1]
        · simp [k2]
        · simp [List.getElem?_set]; first | done | omega
  case rest =>
    obtain ⟨hB1, hg1⟩ := hcut
    obtain ⟨hl1, k0, k1, k2, k3⟩ := set_part hl (c.a + p * m0) c.b c.c (c.t + p * m0)
    rw [← hl1] at hl
    have f0' := hB1.free (off + 1)
    have f3' := hB1.free (off + 3)
    have x0' := (hB1.cell (off + 1)).trans k1
    have x3' := (hB1.cell (off + 3)).trans k3
    have HS := Lib.hid (fun y => set_again (hl1 ▸ hl) (⟨c.a + p * m0, c.b, c.c, c.t + p * m0⟩ : CapR) y)
    clear f0 f3 x0 x3 HB HK e0
    generalize setAll cur off (⟨c.a + p * m0, c.b, c.c, c.t + p * m0⟩ : CapR).cells = cur1 at *
    generalize c.a + p * m0 = A at *
    obtain ⟨v0, v1⟩ := u2
    have v2 : 0 ≤ c.t + p * m0 ∧ c.t + p * m0 ≤ 6597069766656 := by obtain ⟨a, t, _, h, h1, h2⟩ := HA1.out; omega
    obtain ⟨v2, v3⟩ := v2
    clear HA1
    generalize c.t + p * m0 = B at *
    have HB := Lib.hid hB1
    have HK := Lib.hid (And.intro k0 (And.intro k1 (And.intro k2 k3)))
    clear hB1 k0 k1 k2 k3
    go_upto_if 29 with fail
    go_cut [] (fun wx => Blk wx g T (setAll cur1 off (⟨A, c.b + p * m1, c.c, B + p * m1⟩ : CapR).cells) ∧ w.grownBy wx (some g))
    case first =>
      rcases e1 with rfl | rfl
      · go_wp2_with fail
        go_meet
        obtain ⟨k0, k1, k2, k3⟩ := HK.out
        exact ⟨blk_eq HB.out (by simp only [Int.mul_zero, Int.add_zero]; exact set_same hl k0 k1 k2 k3), hg1⟩
      · go_wp2_with fail
        go_meet
        obtain ⟨k0, k1, k2, k3⟩ := HK.out
        refine ⟨?_, grown_set (grown_set hg1 _ _) _ _⟩
        apply blk_eq
        · exact (HB.out.set _ _).set _ _
        · refine set4_eq (by simp) hl ?_ ?_ ?_ ?_ (fun j hj => by (repeat rw [List.getElem?_set_ne (by omega)]))
          · simp [k0]
          · simp [List.getElem?_set]; first | done | omega
          · simp [k2]
          · simp [List.getElem?_set]; first | done | omega
    case rest =>
      clear hg1 f0' f3' x0' x3' HB HK e1
      obtain ⟨hB2, hg2⟩ := hcut
      obtain ⟨hl2, k0, k1, k2, k3⟩ := set_part hl A (c.b + p * m1) c.c (B + p * m1)
      have HS2 := Lib.hid (fun y => set_again hl (⟨A, c.b + p * m1, c.c, B + p * m1⟩ : CapR) y)
      rw [← hl2] at hl
      have f0 := hB2.free (off + 2)
      have f3 := hB2.free (off + 3)
      have x0 := (hB2.cell (off + 2)).trans k2
      have x3 := (hB2.cell (off + 3)).trans k3
      generalize setAll cur1 off (⟨A, c.b + p * m1, c.c, B + p * m1⟩ : CapR).cells = cur2 at *
      generalize c.b + p * m1 = D at *
      generalize B + p * m1 = E at *
      have HB := Lib.hid hB2
      have HK := Lib.hid (And.intro k0 (And.intro k1 (And.intro k2 k3)))
      have HF : Hid (∀ y : CapR, setAll cur off y.cells = setAll cur2 off y.cells) := fun y => by rw [← HS.out, ← HS2.out]
      clear hB2 k0 k1 k2 k3
      rcases e2 with rfl | rfl
      · go_wp2_with fail
        go_end0
        rw [← HADD.out, HF.out]
        obtain ⟨k0, k1, k2, k3⟩ := HK.out
        exact ⟨rfl, blk_eq HB.out (by simp only [Int.mul_zero, Int.add_zero]; exact set_same hl k0 k1 k2 k3), hg2⟩
      · go_wp2_with fail
        go_end0
        rw [← HADD.out, HF.out]
        obtain ⟨k0, k1, k2, k3⟩ := HK.out
        refine ⟨rfl, ?_, grown_set (grown_set hg2 _ _) _ _⟩
        apply blk_eq
        · exact (HB.out.set _ _).set _ _
        · refine set4_eq (by simp) hl ?_ ?_ ?_ ?_ (fun j hj => by (repeat rw [List.getElem?_set_ne (by omega)]))
          · simp [k0]
          · simp [k1]
          · simp [List.getElem?_set]; first | done | omega
          · simp [List.getElem?_set]; first | done | omega

end Go.Proofs.YtkjggfhbnhpdnaaDoor
