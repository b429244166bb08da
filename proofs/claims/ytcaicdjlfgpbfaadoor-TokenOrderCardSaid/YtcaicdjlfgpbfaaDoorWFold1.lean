/-
  unicode.SimpleFold, walked: it returns foldR of any rune, where its tables lie in memory.
-/
import Derived.Test.YtcaicdjlfgpbfaaDoorPOrb2
import Derived.Test.YtcaicdjlfgpbfaaDoorKept
import Derived.Test.YtcaicdjlfgpbfaaDoorShelf
import Derived.Deep.LoopGhost
import Derived.Deep.DeepMust
namespace Go.Proofs.YtcaicdjlfgpbfaaDoor
open Go.RowKit Go.Lib
set_option linter.unusedVariables false
set_option linter.unusedSimpArgs false

def orbB (i : Nat) : Nat := (orbL.getD i (0, 0)).2
/-- what unicode's tables and utf8's hold in a world -/
structure FoldV (w : World) : Prop where
  cas : CaseVar 2 caseA w
  utf : Lib.Utf8Tabs 3 4 w
  asc : ∀ i, i < 128 → w.cell? ⟨0, i, none⟩ = some (.int .u16 ((ascL.getD i 0 : Nat) : Int))
  orb : ∃ R o cap, w.cell? ⟨1, 0, none⟩ = some (.slice (some ⟨R, o, none⟩) 94 cap) ∧ ∀ i, i < 94 → w.cell? ⟨R, o + i * 2, none⟩ = some (.int .u16 (orbA i : Int)) ∧ w.cell? ⟨R, o + i * 2 + 1, none⟩ = some (.int .u16 (orbB i : Int))
theorem FoldV.below {w w' : World} (h : FoldV w) (hb : Below w.heap.size w w') : FoldV w' := by
  have k : ∀ {a : Addr} {v : Value}, w.cell? a = some v → w'.cell? a = some v := fun {a v} hc => (hb.cell (World.block_lt_of_cell? w a hc)).trans hc
  obtain ⟨R, o, cap, h1, h2⟩ := h.orb
  exact ⟨CaseVar_below h.cas hb, Utf8Tabs_below h.utf hb, fun i hi => k (h.asc i hi), R, o, cap, k h1, fun i hi => ⟨k (h2 i hi).1, k (h2 i hi).2⟩⟩
theorem asc_small (i : Nat) (hi : i < 128) : ascL.getD i 0 < 65536 := by
  have : ((List.range 128).all fun i => decide (ascL.getD i 0 < 65536)) = true := by decide +kernel
  rw [List.all_eq_true] at this
  simpa using this i (by rw [List.mem_range]; exact hi)
theorem orb_small (i : Nat) (hi : i < 94) : orbA i < 65536 ∧ orbB i < 65536 := by
  have : ((List.range 94).all fun i => decide (orbA i < 65536 ∧ orbB i < 65536)) = true := by decide +kernel
  rw [List.all_eq_true] at this
  simpa using this i (by rw [List.mem_range]; exact hi)

set_option maxRecDepth 100000 in
set_option maxHeartbeats 6400000 in
theorem simpleFold_any (r : Int) (w : World) (hV : FoldV w) :
    Calls Tryd.prog 29 #[.int .i32 r] w fun e w' => e = .returned (.int .i32 (foldR r)) ∧ ∃ q, w' = w.drewN q := by
  by_cases h1 : r < 0
  · rw [show foldR r = r by unfold foldR; rw [if_pos (.inl h1)]]
    go_enter Tryd.func29, Tryd.ntmps29
    go_wp2_with fail
    go_ret
    exact ⟨rfl, 0, rfl⟩
  by_cases h2 : 1114111 < r
  · rw [show foldR r = r by unfold foldR; rw [if_pos (.inr h2)]]
    go_enter Tryd.func29, Tryd.ntmps29
    go_wp2_with fail
    go_ret
    exact ⟨rfl, 0, rfl⟩
  have h12 : ¬ (r < 0 ∨ 1114111 < r) := by omega
  by_cases h3 : r < 128
  · obtain ⟨k, rfl⟩ : ∃ k : Nat, r = k := ⟨r.toNat, by omega⟩
    have e : foldR (k : Int) = ((ascL.getD k 0 : Nat) : Int) := by unfold foldR; rw [if_neg h12, if_pos h3]; simp
    have hc := hV.asc k (by omega)
    have hs := asc_small k (by omega)
    rw [e]
    generalize ascL.getD k 0 = A at *
    clear e
    have hAz : (A : Int) < 65536 := by omega
    have hw : wrap32 (A : Int) = (A : Int) := by unfold wrap32; omega
    go_enter Tryd.func29, Tryd.ntmps29
    go_wp2_with fail
    go_ret
    exact ⟨by simp <;> omega, 0, rfl⟩
  obtain ⟨R, o, cap, hg, hO⟩ := hV.orb
  obtain ⟨R2, o2, cap2, hg2, hT⟩ := hV.cas
  clear hV
  have HO := Lib.hid hO
  have cL := Tryd.unicode_lookupCaseRange caseA R2 o2 cap2 r w hT caseA_ok2.ok (by rw [caseA_size]; omega)
  have HL := Lib.hid cL
  clear cL hO
  obtain ⟨F, hF⟩ : ∃ F, foldR r = F := ⟨_, rfl⟩
  rw [hF]
  have HF := Lib.hid hF
  have h3' : ¬ r < 128 := h3
  have HN := Lib.hid (And.intro h12 h3')
  clear hF h3' h12
  go_enter Tryd.func29, Tryd.ntmps29
  go_wp2_with fail
  go_loopg [3, 4] 95 (fun g s3 s4 wx => w = wx ∧ ∃ lo hi : Nat, s3 = .int .i64 lo ∧ s4 = .int .i64 hi ∧ lo ≤ hi ∧ hi ≤ 94 ∧ hi - lo < g ∧ Hid (∀ i, i < lo → i < 94 → (orbA i : Int) < r) ∧ Hid (∀ i, hi ≤ i → i < 94 → r ≤ (orbA i : Int)))
  case atStart => exact ⟨rfl, 0, 94, rfl, rfl, by omega, by omega, by omega, fun i h => by omega, fun i h h' => by omega⟩
  case round =>
    obtain ⟨rfl, lo, hi, rfl, rfl, hlh, hhn, hgk, HA, HB⟩ := hrel
    by_cases hlt : lo < hi
    · obtain ⟨g', rfl⟩ : ∃ g', gk = g' + 1 := ⟨gk - 1, by omega⟩
      have hz : (lo : Int) < (hi : Int) := by omega
      obtain ⟨m, hm⟩ : ∃ m, (lo + hi) / 2 = m := ⟨_, rfl⟩
      have hmr : lo ≤ m ∧ m < hi := by omega
      have hmz : ((lo : Int) + (hi : Int)) / 2 = (m : Int) := by omega
      have hm94 : (m : Int) < 94 := by omega
      obtain ⟨c0, c1⟩ := HO.out m (by omega)
      have hs := (orb_small m (by omega)).1
      by_cases hb : (orbA m : Int) < r
      · have HA' : Hid (∀ i, i < m + 1 → i < 94 → (orbA i : Int) < r) := fun i h h' => by
          have := orb_le (show i ≤ m by omega) (by omega)
          omega
        generalize hA : orbA m = A at *
        clear hA c1
        go_wp2_with fail
        go_roundg g'
        case measure => omega
        case rel => exact ⟨rfl, m + 1, hi, by go_num, rfl, by omega, by omega, by omega, HA', HB⟩
      · have HB' : Hid (∀ i, m ≤ i → i < 94 → r ≤ (orbA i : Int)) := fun i h h' => by
          have := orb_le (show m ≤ i by omega) h'
          omega
        generalize hA : orbA m = A at *
        clear hA c1
        go_wp2_with fail
        go_roundg g'
        case measure => omega
        case rel => exact ⟨rfl, lo, m, rfl, rfl, by omega, by omega, by omega, HA, HB'⟩
    · have hz : ¬ ((lo : Int) < (hi : Int)) := by omega
      obtain rfl : lo = hi := by omega
      by_cases hf : lo < 94 ∧ (orbA lo : Int) = r
      · obtain ⟨hf1, hf2⟩ := hf
        have e : foldR r = (orbB lo : Int) := by
          unfold foldR
          rw [if_neg (by have := HN.out; omega), if_neg (by have := HN.out; omega), orb_found hf1 hf2]
          rfl
        rw [HF.out] at e
        obtain ⟨c0, c1⟩ := HO.out lo hf1
        obtain ⟨hs, hs'⟩ := orb_small lo hf1
        have hfz : (lo : Int) < 94 := by omega
        have hfe : ((orbA lo : Int) == r) = true := by simpa using hf2
        generalize orbA lo = A at *
        generalize orbB lo = B at *
        subst e
        go_wp2_with fail
        go_ret
        exact ⟨by simp <;> omega, 0, rfl⟩
      · have ho : orbF r = none := orb_none HA.out HB.out (fun h e => hf ⟨h, e⟩)
        have e : foldR r = if toW caseA 1 r ≠ r then toW caseA 1 r else toW caseA 0 r := by
          unfold foldR
          rw [if_neg (by have := HN.out; omega), if_neg (by have := HN.out; omega), ho]
        rw [HF.out] at e
        unfold toW at e
        clear HF ho HA HB
        have HG : Hid (lo < 94 → w.cell? ⟨R, o + lo * 2, none⟩ = some (.int .u16 (orbA lo : Int)) ∧ orbA lo < 65536) := fun h => ⟨(HO.out lo h).1, (orb_small lo h).1⟩
        clear HO
        cases hi : lookupIdx caseA r (caseA.size + 1) 0 caseA.size with
        | none =>
          have cL := HL.out
          rw [hi] at cL
          clear HL
          rw [hi] at e
          simp only [ne_eq, not_true_eq_false, if_false] at e
          replace e := e.symm
          subst e
          by_cases hf1 : lo < 94
          · have hfz : (lo : Int) < 94 := by omega
            obtain ⟨c0, hs⟩ := HG.out hf1
            have hfe : ((orbA lo : Int) == r) = false := by simpa using fun e => hf ⟨hf1, e⟩
            clear hf HG
            generalize orbA lo = A at *
            go_wp2_with fail
            refine cL.mono ?_
            rintro e w1 ⟨rfl, rfl⟩
            go_wp2_with fail
            go_ret
            exact ⟨rfl, 0, rfl⟩
          · have hfz : ¬ ((lo : Int) < 94) := by omega
            clear hf HG
            go_wp2_with fail
            refine cL.mono ?_
            rintro e w1 ⟨rfl, rfl⟩
            go_wp2_with fail
            go_ret
            exact ⟨rfl, 0, rfl⟩
        | some i =>
          have cL := HL.out
          rw [hi] at cL
          clear HL
          obtain ⟨hil, hlo, hhi⟩ := lookupIdx_some caseA r _ _ _ i hi
          have cC := fun (c : Nat) (hc : c < 3) (q : Nat) => Tryd.unicode_convertCase c hc r R2 (o2 + i * 5) (caseA.getD i (0, 0, 0, 0, 0)) (w.drewN q) hlo hhi (caseA_ok2 i hil).2 ((hT.drewN q) i hil).1 ((hT.drewN q).delta i hil c hc)
          have C1 := Lib.hid (cC 1 (by omega))
          have C0 := Lib.hid (cC 0 (by omega))
          rw [hi] at e
          simp only [] at e
          clear cC hi hil hlo hhi hT
          generalize wrap32 (convertR 1 r (caseA.getD i (0, 0, 0, 0, 0))) = X at *
          generalize wrap32 (convertR 0 r (caseA.getD i (0, 0, 0, 0, 0))) = Y at *
          by_cases hX : X = r
          · replace hX := hX.symm
            subst hX
            simp only [ne_eq, not_true_eq_false, if_false] at e
            replace e := e.symm
            subst e
            by_cases hf1 : lo < 94
            · have hfz : (lo : Int) < 94 := by omega
              obtain ⟨c0, hs⟩ := HG.out hf1
              have hfe : ((orbA lo : Int) == r) = false := by simpa using fun e => hf ⟨hf1, e⟩
              clear hf HG
              generalize orbA lo = A at *
              go_wp2_with fail
              refine cL.mono ?_
              rintro e w1 ⟨rfl, rfl⟩
              go_wp2_with fail
              refine (C1.out 0).mono ?_
              rintro e w1 ⟨rfl, q1, rfl⟩
              go_wp2_with fail
              refine (C0.out q1).mono ?_
              rintro e w1 ⟨rfl, q2, rfl⟩
              go_wp2_with fail
              go_ret
              exact ⟨rfl, _, rfl⟩
            · have hfz : ¬ ((lo : Int) < 94) := by omega
              clear hf HG
              go_wp2_with fail
              refine cL.mono ?_
              rintro e w1 ⟨rfl, rfl⟩
              go_wp2_with fail
              refine (C1.out 0).mono ?_
              rintro e w1 ⟨rfl, q1, rfl⟩
              go_wp2_with fail
              refine (C0.out q1).mono ?_
              rintro e w1 ⟨rfl, q2, rfl⟩
              go_wp2_with fail
              go_ret
              exact ⟨rfl, _, rfl⟩
          · have hXb : (X == r) = false := by simpa using hX
            simp only [ne_eq, hX, not_false_eq_true, if_true] at e
            replace e := e.symm
            subst e
            by_cases hf1 : lo < 94
            · have hfz : (lo : Int) < 94 := by omega
              obtain ⟨c0, hs⟩ := HG.out hf1
              have hfe : ((orbA lo : Int) == r) = false := by simpa using fun e => hf ⟨hf1, e⟩
              clear hf HG
              generalize orbA lo = A at *
              go_wp2_with fail
              refine cL.mono ?_
              rintro e w1 ⟨rfl, rfl⟩
              go_wp2_with fail
              refine (C1.out 0).mono ?_
              rintro e w1 ⟨rfl, q1, rfl⟩
              go_wp2_with fail
              go_ret
              exact ⟨rfl, _, rfl⟩
            · have hfz : ¬ ((lo : Int) < 94) := by omega
              clear hf HG
              go_wp2_with fail
              refine cL.mono ?_
              rintro e w1 ⟨rfl, rfl⟩
              go_wp2_with fail
              refine (C1.out 0).mono ?_
              rintro e w1 ⟨rfl, q1, rfl⟩
              go_wp2_with fail
              go_ret
              exact ⟨rfl, _, rfl⟩

end Go.Proofs.YtcaicdjlfgpbfaaDoor
