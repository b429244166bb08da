/-
  Walks: the law TokenOrder.
-/
import Derived.Test.YtcaicdjlfgpbfaaDoorWOrd1
import Derived.Test.YtcaicdjlfgpbfaaDoorWFold2
import Derived.Test.YtcaicdjlfgpbfaaDoorWToken12
import Derived.Test.YtcaicdjlfgpbfaaDoorPFinds
import Derived.Test.YtcaicdjlfgpbfaaDoorPOrd
import Derived.Test.YtcaicdjlfgpbfaaDoorAscCase
import Derived.Deep.RegionLaw
namespace Go.Proofs.YtcaicdjlfgpbfaaDoor
open Go.RowKit Go.Lib Go.Joins
attribute [local go_sem] after_cell
set_option linter.unusedVariables false

def encU (x : Nat) : List Value := [.int .u8 (x : Int)]
theorem encU_len (x : Nat) : (encU x).length = 1 := rfl
theorem byte_at {w : World} {A : Option Addr} {l : List Nat} (h : SlAt w 1 A (l.map encU)) {k : Nat} (hk : k < l.length) : ∃ b off, A = some ⟨b, off, none⟩ ∧ b < w.heap.size ∧ w.cell? ⟨b, off + k, none⟩ = some (.int .u8 (l[k] : Int)) := by
  obtain ⟨b, off, e, hb, hc⟩ := h k (encU l[k]) (by rw [List.getElem?_map, List.getElem?_eq_getElem hk]; rfl)
  exact ⟨b, off, e, hb, by have := hc 0 _ rfl; simpa using this⟩
/-- the first n of them are pairwise of other keys, as far as they are valid; and none is long -/
def DistI (l : List Tok) (n : Nat) : Prop := ∀ (i k : Nat) (hi : i < l.length) (hk : k < l.length), i < n → k < i → validT l[i] = 0 → validT l[k] = 0 → keyT l[i] ≠ keyT l[k]
def SmallI (l : List Tok) (n : Nat) : Prop := ∀ (i : Nat) (hi : i < l.length), i < n → l[i].small
theorem DistI.all {l : List Tok} (h : DistI l l.length) : DistT l := by
  unfold DistT
  rw [List.pairwise_iff_getElem]
  intro i j hi hj hij hvi hvj e
  exact h j i hj hi hj hij hvj hvi e.symm
/-- beside the token i, the first k -/
def DistK (l : List Tok) (i k : Nat) : Prop := ∀ (j : Nat) (hi : i < l.length) (hj : j < l.length), j < k → validT l[i] = 0 → validT l[j] = 0 → keyT l[i] ≠ keyT l[j]
theorem DistI.next {l : List Tok} {i : Nat} (h : DistI l i) (hk : DistK l i i) : DistI l (i + 1) := fun a b ha hb h1 h2 => by
  by_cases e : a = i
  · subst e; exact hk b ha hb h2
  · exact h a b ha hb (by omega) h2

theorem GoodT.puts : ∀ (l a : List Tok), GoodT a → (∀ x ∈ l, x.fits) → GoodT (l.foldl putTL a)
  | [], a, h, _ => h
  | x :: l, a, h, hl => GoodT.puts l _ (h.put (hl x (by simp))) (fun y hy => hl y (by simp [hy]))
theorem puts_next {l : List Tok} {k : Nat} (hk : k < l.length) (a : List Tok) : (l.take (k + 1)).foldl putTL a = putTL ((l.take k).foldl putTL a) l[k] := by
  rw [List.take_succ_eq_append_getElem hk, List.foldl_append]; rfl
theorem puts_full {l : List Tok} {k : Nat} (hk : ¬ k < l.length) (a : List Tok) : (l.take k).foldl putTL a = l.foldl putTL a := by
  rw [List.take_of_length_le (by omega)]
theorem puts_from {l : List Tok} (hd : DistT l) (hl : l.length ≤ 128) : ∀ x ∈ putAll l, x ∈ l ∧ validT x = 0 := fun x hx => by
  have h1 := (putAll_is l [] .nil (fun x hx => by simp at hx) (fun a ha => by simp at ha) hd (by simpa using hl)).2 x
  have := h1.1 hx
  simpa using this
theorem own_free2 {w : World} {base n size g c : Nat} {e : TypeId} {xs : List Value} (h : w.ownsRow base e size (.slice (some ⟨g, 0, none⟩) n c) n xs) (j : Nat) : w.frozen? ⟨g, j, none⟩ = false := by
  rcases h.2 with ⟨h1, hx⟩ | ⟨g2, cap, cur, h1, hg, hh, _⟩
  · cases h1
  · injection h1 with h2 _ _
    injection h2 with h2
    injection h2 with h2 _ _
    subst h2
    exact frozen_of_row w g j cur e hh

set_option maxRecDepth 100000 in
set_option maxHeartbeats 12800000 in
theorem lawOrder (l : List Tok) (O : List Nat) (v vo : Value) (w : World) (hv : IsSl w 6 v (l.map Tok.cells)) (hs : ∀ x ∈ l, x.fits) (ho : IsSl w 1 vo (O.map encU)) (hO : ∀ x ∈ O, x < 256) (hV : FoldV w) :
    Calls Tryd.prog 4 #[v, vo] w fun e w' => e = .returned (.bool true) ∧ Below w.heap.size w w' := by
  obtain ⟨A, c, rfl, hlc, hcm, hsl⟩ := islen' hv
  obtain ⟨Ao, co, rfl, hloc, hocm, hso⟩ := islen' ho
  have HS := Lib.hid hs
  have HO := Lib.hid hO
  have HV := Lib.hid hV
  have HV0 := Lib.hid hv
  unfold maxLen at hcm hocm
  have hom : O.length ≤ 9223372036854775807 := by omega
  clear hs hO hV hv ho
  by_cases hlen : 128 < l.length
  · have hlz : (128 : Int) < (l.length : Int) := by omega
    go_enter Tryd.func4, Tryd.ntmps4
    go_wp2_with fail
    refine (tokExample_any _).mono ?_
    rintro e w9 ⟨rfl, hb9⟩
    go_wp2_with fail
    go_ret
    exact ⟨rfl, hb9⟩
  have hlen' : l.length ≤ 128 := by omega
  have hlz : ¬ (128 : Int) < (l.length : Int) := by omega
  clear hlen hcm hlc
  go_enter Tryd.func4, Tryd.ntmps4
  go_wp2_with fail
  go_loopw [20] (fun i wr => ∃ k : Nat, k ≤ l.length ∧ i = .int .i64 k ∧ Below w.heap.size w wr ∧ Hid (DistI l k) ∧ Hid (SmallI l k)) (fun i _ => l.length - (intOf i).toNat)
  case atStart => exact ⟨0, by omega, rfl, Below.refl _ _, fun i k _ _ h => by omega, fun i _ h => by omega⟩
  case round =>
    obtain ⟨i, hi, rfl, hbw, HD, HM⟩ := hrel
    obtain ⟨hc, hf⟩ := bcell hbw
    by_cases hlt : i < l.length
    · have hki : (i : Int) < (l.length : Int) := by omega
      have hxf := HS.out _ (List.getElem_mem hlt)
      obtain ⟨b, off, rfl, hbb, c0, c1, c2, c3, c4, c5⟩ := tok_at hsl hlt
      obtain ⟨T, hT⟩ : ∃ T, T = l[i] := ⟨_, rfl⟩
      have HT := Lib.hid hT
      rw [← hT] at c0 c1 c2 c3 c4 c5 hxf
      clear hT
      cases hq : longTB T with
      | true =>
        go_wp2_with fail
        refine (longTok_any T _ hxf).mono ?_
        rintro e w2 ⟨rfl, hb2⟩
        rw [hq]
        go_wp2_with fail
        refine (tokExample_any _).mono ?_
        rintro e w9 ⟨rfl, hb9⟩
        go_wp2_with fail
        go_ret
        exact ⟨rfl, below_step hbw (below_step hb2 hb9)⟩
      | false =>
        have hsm := (longT_iff T).1 hq
        have HM2 : Hid (SmallI l (i + 1)) := fun j hj h => by
          by_cases e : j = i
          · subst e; rw [← HT.out]; exact hsm
          · exact HM.out j hj (by omega)
        go_wp2_with fail
        refine (longTok_any T _ hxf).mono ?_
        rintro e w2 ⟨rfl, hb2⟩
        rw [hq]
        have hbw2 := below_step hbw hb2
        clear hc hf hb2 hbw HM
        generalize wr = wm at *
        go_wp2_with fail
        go_loopw [30] (fun j wr => ∃ k : Nat, k ≤ i ∧ j = .int .i64 k ∧ Below w.heap.size w wr ∧ Hid (DistK l i k)) (fun j _ => i - (intOf j).toNat)
        case atStart => exact ⟨0, by omega, rfl, hbw2, fun j _ _ h => by omega⟩
        case round =>
          clear hbw2
          obtain ⟨k, hk, rfl, hbw, HK⟩ := hrel
          by_cases hlk : k < i
          · have hkz : (k : Int) < (i : Int) := by omega
            have hkl : (k : Int) < (l.length : Int) := by omega
            obtain ⟨b', off', eb, hbb', d0, d1, d2, d3, d4, d5⟩ := tok_at hsl (k := k) (by omega)
            injection eb with eb
            injection eb with eb1 eb2 eb3
            subst eb1 eb2
            obtain ⟨X, hX⟩ : ∃ X, X = l[k] := ⟨_, rfl⟩
            have HX := Lib.hid hX
            have hxs : X.small := by rw [hX]; exact HM2.out k (by omega) (by omega)
            rw [← hX] at d0
            clear hX d1 d2 d3 d4 d5
            obtain ⟨hc, hf⟩ := bcell hbw
            have HE := Lib.hid (fun w' (hb : Below w.heap.size w w') => equalFold_any T.id X.id w' (HV.out.below hb) hsm.1 hxs.1)
            go_wp2_with fail
            go_region_law ((first
              | (go_simp; go_at_call 14; refine (HE.out _ (by first | exact hbw | exact hbw.drew)).mono ?_; rintro e w4 ⟨eq, rfl, hb4, hne⟩)
              | (go_simp; fail)))
            all_goals
              have hbw4 : Below w.heap.size w w4 := below_step hbw.drew hb4
              clear hc hf hb4
              cases eq with
              | true =>
                go_wp2_with fail
                refine (tokExample_any _).mono ?_
                rintro e w9 ⟨rfl, hb9⟩
                go_wp2_with fail
                go_ret
                exact ⟨rfl, below_step hbw4 hb9⟩
              | false =>
                have HK2 : Hid (DistK l i (k + 1)) := fun j hi' hj h v1 v2 => by
                  by_cases e : j = k
                  · subst e
                    rw [← HT.out] at v1 ⊢
                    rw [← HX.out] at v2 ⊢
                    exact hne rfl (valid_asc (valid_id v1)) (valid_asc (valid_id v2))
                  · exact HK.out j hi' hj (by omega) v1 v2
                go_wp2_with fail
                go_roundw
                case measure => simp [intOf]; omega
                case rel => exact ⟨k + 1, by omega, by go_num, hbw4, HK2⟩
          · have hkz : ¬ (k : Int) < (i : Int) := by omega
            have HD2 : Hid (DistI l (i + 1)) := by
              have := HK.out
              rw [show k = i by omega] at this
              exact HD.out.next this
            clear HK HD
            go_wp2_with fail
            go_roundw
            case measure => simp [intOf]; omega
            case rel => exact ⟨i + 1, by omega, by go_num, hbw, HD2, HM2⟩
    · have hki : ¬ (i : Int) < (l.length : Int) := by omega
      obtain rfl : i = l.length := by omega
      clear hlt hi hc hf
      go_wp2_with fail
      refine (cloneTok_any l _ _ (HV0.out.below hbw) hlen').mono ?_
      rintro e w1 ⟨A1, c1, rfl, hM1, hb1⟩
      have hbw1 := below_step hbw hb1
      obtain ⟨B, hB⟩ : ∃ B, wr.heap.size = B := ⟨_, rfl⟩
      have hBw : w.heap.size ≤ B := by rw [← hB]; exact hbw.size
      rw [hB] at hM1
      have HM1 : Hid (∃ M, M.Perm l ∧ MutT w1 B A1 l.length c1 M) := ⟨l, .refl _, hM1⟩
      clear hM1 hb1 hbw hB
      generalize wr = wm at *
      go_wp2_with fail
      go_loopw [51] (fun j wr => ∃ k : Nat, k ≤ l.length ∧ j = .int .i64 k ∧ Below w.heap.size w wr ∧ Hid (∃ M, M.Perm l ∧ MutT wr B A1 l.length c1 M)) (fun j _ => l.length - (intOf j).toNat)
      case atStart => exact ⟨0, by omega, rfl, hbw1, HM1⟩
      case round =>
        clear HM1 hbw1
        obtain ⟨k, hk, rfl, hbw, HP⟩ := hrel
        by_cases hlt : k < l.length
        · have hkz : (k : Int) < (l.length : Int) := by omega
          obtain ⟨hc, hf⟩ := bcell hbw
          by_cases hko : k < O.length
          · have hkoz : (k : Int) < (O.length : Int) := by omega
            obtain ⟨bo, oo, rfl, hbo, cO⟩ := byte_at hso hko
            have hx := HO.out _ (List.getElem_mem hko)
            generalize O[k] = x at *
            obtain ⟨q, hq⟩ : ∃ q, x % l.length = q := ⟨_, rfl⟩
            have hql : q < l.length := by rw [← hq]; exact Nat.mod_lt _ (by omega)
            have hqz : (q : Int) < (l.length : Int) := by omega
            have hrem : (x : Int).tmod (l.length : Int) = (q : Int) := by rw [← hq]; rfl
            have hxz : (x : Int) < 256 := by omega
            have hx0 : IntKind.i64.wrap (x : Int) = (x : Int) := IntWalk.i64_in _ (by omega)
            have hlne : ((l.length : Int) == 0) = false := beq_eq_false_iff_ne.2 (by omega)
            obtain ⟨M, hP, hM⟩ := HP.out
            obtain ⟨g, rfl, hBg, hgl, hown⟩ := hM.own (by omega)
            have hMl := hM.len
            obtain ⟨_, _, e1, _, _, hsm⟩ := islen' hM.sl
            injection e1 with e1 e2 e6
            subst e1
            clear e2 e6
            obtain ⟨b1, o1, e3, hb1, x0, x1, x2, x3, x4, x5⟩ := tok_at hsm (k := k) (by omega)
            obtain ⟨b2, o2, e4, hb2, y0, y1, y2, y3, y4, y5⟩ := tok_at hsm (k := q) (by omega)
            injection e3 with e3
            injection e3 with e3 e5
            subst e3 e5
            injection e4 with e4
            injection e4 with e4 e5
            subst e4 e5
            have hfz := own_free2 hown
            rw [Nat.zero_add] at x0 x1 x2 x3 x4 x5 y0 y1 y2 y3 y4 y5
            have HSW := Lib.hid ((swap_perm (l := M) (i := k) (k := q) (by omega) (by omega)).trans hP)
            by_cases hkq : k = q
            · subst hkq
              clear y0 y1 y2 y3 y4 y5
              generalize hMX : M[k] = X at *
              clear hMX
              have hown2 := storeRow_own (W := wr) X.cells _ (k * 6) _ _ (storeRow_own (W := wr) X.cells wr (k * 6) _ _ hown)
              rw [set_row Tok.cells_len (by omega) M k (by omega) X, set_row Tok.cells_len (by omega) (M.set k X) k (by rw [List.length_set]; omega) X] at hown2
              have hbw2 : Hid (Below w.heap.size w (storeRow (storeRow wr g (k * 6) X.cells) g (k * 6) X.cells)) := storeRow_below (by omega) _ _ _ (storeRow_below (by omega) _ _ _ hbw)
              have HP2 : Hid (∃ M, M.Perm l ∧ MutT (storeRow (storeRow wr g (k * 6) X.cells) g (k * 6) X.cells) B (some ⟨g, 0, none⟩) l.length c1 M) :=
                ⟨(M.set k X).set k X, HSW.out, by rw [List.length_set, List.length_set]; exact hMl, IsSl.of_own Tok.cells_len hown2 (by rw [List.length_set, List.length_set]; exact hMl), fun _ => ⟨g, rfl, hBg, by rw [storeRow_size, storeRow_size]; exact hgl, hown2⟩⟩
              clear hown2
              go_wp2_with fail
              go_region
              generalize hw5 : World.setCell _ _ _ = w5
              rw [show storeRow (storeRow wr g (k * 6) X.cells) g (k * 6) X.cells = w5 from hw5] at hbw2 HP2
              clear hw5 x0 x1 x2 x3 x4 x5  hfz hc hf hown hsm hM
              have hbw3 : Below w.heap.size w w5.drew := hbw2.out.drew
              have HP3 : Hid (∃ M, M.Perm l ∧ MutT w5.drew B (some ⟨g, 0, none⟩) l.length c1 M) := by
                obtain ⟨M2, h1, h2⟩ := HP2.out
                exact ⟨M2, h1, h2.below (Below.refl _ _).drew⟩
              clear hbw2 HP2
              go_wp2_with fail
              go_roundw
              case measure => simp [intOf]; omega
              case rel => exact ⟨k + 1, by omega, by go_num, hbw3, HP3⟩
            · have hne1 : k * 6 ≠ q * 6 := by omega
              generalize hMX : M[k] = X at *
              generalize hMY : M[q] = Y at *
              clear hMX hMY
              have hown2 := storeRow_own (W := wr) X.cells _ (q * 6) _ _ (storeRow_own (W := wr) Y.cells wr (k * 6) _ _ hown)
              rw [set_row Tok.cells_len (by omega) M k (by omega) Y, set_row Tok.cells_len (by omega) (M.set k Y) q (by rw [List.length_set]; omega) X] at hown2
              have hbw2 : Hid (Below w.heap.size w (storeRow (storeRow wr g (k * 6) Y.cells) g (q * 6) X.cells)) := storeRow_below (by omega) _ _ _ (storeRow_below (by omega) _ _ _ hbw)
              have HP2 : Hid (∃ M, M.Perm l ∧ MutT (storeRow (storeRow wr g (k * 6) Y.cells) g (q * 6) X.cells) B (some ⟨g, 0, none⟩) l.length c1 M) :=
                ⟨(M.set k Y).set q X, HSW.out, by rw [List.length_set, List.length_set]; exact hMl, IsSl.of_own Tok.cells_len hown2 (by rw [List.length_set, List.length_set]; exact hMl), fun _ => ⟨g, rfl, hBg, by rw [storeRow_size, storeRow_size]; exact hgl, hown2⟩⟩
              clear hown2
              go_wp2_with fail
              go_region
              generalize hw5 : World.setCell _ _ _ = w5
              rw [show storeRow (storeRow wr g (k * 6) Y.cells) g (q * 6) X.cells = w5 from hw5] at hbw2 HP2
              clear hw5 x0 x1 x2 x3 x4 x5 y0 y1 y2 y3 y4 y5 hfz hc hf hown hsm hM
              have hbw3 : Below w.heap.size w w5.drew := hbw2.out.drew
              have HP3 : Hid (∃ M, M.Perm l ∧ MutT w5.drew B (some ⟨g, 0, none⟩) l.length c1 M) := by
                obtain ⟨M2, h1, h2⟩ := HP2.out
                exact ⟨M2, h1, h2.below (Below.refl _ _).drew⟩
              clear hbw2 HP2
              go_wp2_with fail
              go_roundw
              case measure => simp [intOf]; omega
              case rel => exact ⟨k + 1, by omega, by go_num, hbw3, HP3⟩
          · have hkoz : ¬ (k : Int) < (O.length : Int) := by omega
            go_wp2_with fail
            go_roundw
            case measure => simp [intOf]; omega
            case rel => exact ⟨k + 1, by omega, by go_num, hbw, HP⟩
        · obtain rfl : k = l.length := by omega
          obtain ⟨M, hP, hM⟩ := HP.out
          obtain ⟨hPO, hSO⟩ := put_order hP.symm HD.out.all hlen'
          have HSM := Lib.hid (puts_from HD.out.all hlen')
          have HPO := Lib.hid hPO
          have HSO := Lib.hid hSO
          obtain ⟨_, _, e1, _, _, hsm⟩ := islen' hM.sl
          injection e1 with e1 e2 e6
          subst e1
          have hMl := hM.len
          have HFM : Hid (∀ x ∈ M, x.fits) := fun x hx => HS.out x (hP.mem_iff.1 hx)
          clear hPO hSO e2 e6 hM hP HP HD hlt
          generalize wr = w3 at *
          go_wp2_with fail
          go_loopw [10, 11, 83] (fun ua ub j wr => ∃ k : Nat, k ≤ l.length ∧ j = .int .i64 k ∧ Below w3.heap.size w3 wr ∧ Hid (IsSl wr 6 ua (((l.take k).foldl putTL []).map Tok.cells)) ∧ Hid (IsSl wr 6 ub (((M.take k).foldl putTL []).map Tok.cells))) (fun _ _ j _ => l.length - (intOf j).toNat)
          case atStart => exact ⟨0, by omega, rfl, Below.refl _ _, IsSl.nil _ _, IsSl.nil _ _⟩
          case round =>
            obtain ⟨k, hk, rfl, hbx, HA, HB⟩ := hrel
            have hbwx := below_step hbw hbx
            obtain ⟨hc, hf⟩ := bcell hbwx
            obtain ⟨hc3, hf3⟩ := bcell hbx
            by_cases hlt : k < l.length
            · have hkz : (k : Int) < (l.length : Int) := by omega
              have hkM : k < M.length := by omega
              have HNA := Lib.hid (puts_next hlt [])
              have HNB := Lib.hid (puts_next hkM [])
              have HGA := Lib.hid (GoodT.puts (l.take k) [] .nil (fun x hx => HS.out x (List.mem_of_mem_take hx)))
              have HGB := Lib.hid (GoodT.puts (M.take k) [] .nil (fun x hx => HFM.out x (List.mem_of_mem_take hx)))
              have hxf := HS.out _ (List.getElem_mem hlt)
              have hyf := HFM.out _ (List.getElem_mem hkM)
              obtain ⟨b, off, rfl, hbb, x0, x1, x2, x3, x4, x5⟩ := tok_at hsl hlt
              obtain ⟨b', off', rfl, hbb', y0, y1, y2, y3, y4, y5⟩ := tok_at hsm hkM
              generalize (l.take k).foldl putTL [] = LA at *
              generalize (M.take k).foldl putTL [] = LB at *
              generalize l[k] = X at *
              generalize M[k] = Y at *
              have hgx := hbx.size
              go_wp2_with fail
              refine (tput_any LA _ X _ (by have := HGA.out.len; omega) HA.out HGA.out.fits hxf).mono ?_
              rintro e w4 ⟨ua, rfl, ha, hb4⟩
              have HA2 := Lib.hid ha
              have HB2 := Lib.hid (HB.out.below hb4)
              replace hbx := below_step hbx hb4
              clear hc hf hc3 hf3 ha hb4 hbwx HA HB
              obtain ⟨hc3, hf3⟩ := bcell hbx
              go_wp2_with fail
              refine (tput_any LB _ Y _ (by have := HGB.out.len; omega) HB2.out HGB.out.fits hyf).mono ?_
              rintro e w5 ⟨ub, rfl, hbq, hb5⟩
              have HB3 : Hid (IsSl w5 6 ub (((M.take (k + 1)).foldl putTL []).map Tok.cells)) := by unfold Hid; rw [HNB.out]; exact hbq
              have HA3 : Hid (IsSl w5 6 ua (((l.take (k + 1)).foldl putTL []).map Tok.cells)) := by unfold Hid; rw [HNA.out]; exact HA2.out.below hb5
              replace hbx := below_step hbx hb5
              clear hc3 hf3 hbq hb5 HA2 HB2
              go_wp2_with fail
              go_roundw
              case measure => simp [intOf]; omega
              case rel => exact ⟨k + 1, by omega, by go_num, hbx, HA3, HB3⟩
            · have hkz : ¬ (k : Int) < (l.length : Int) := by omega
              have ha := HA.out
              have hb := HB.out
              rw [puts_full hlt] at ha
              rw [puts_full (by omega)] at hb
              rw [show M.foldl putTL [] = putAll l from HPO.out.symm] at hb
              rw [show l.foldl putTL [] = putAll l from rfl] at ha
              have HGL : Hid (GoodT (putAll l)) := GoodT.puts l [] .nil HS.out
              generalize putAll l = L at *
              have hLl := HGL.out.len
              clear HA HB hc hf hc3 hf3 HPO
              obtain ⟨A5, c5, rfl, hlc5, hcm5, hsl5⟩ := islen' ha
              have HU := Lib.hid ha
              have HW := Lib.hid hb
              have HMS : Hid (∀ x ∈ L, x.small ∧ asciiL x.id.data.toList = true) := fun x hx => by
                obtain ⟨h1, h2⟩ := HSM.out x hx
                obtain ⟨j, hj, e⟩ := List.mem_iff_getElem.1 h1
                exact ⟨by rw [← e]; exact HM.out j hj hj, valid_asc (valid_id h2)⟩
              clear ha hb hlc5 hcm5 hbx HM HSM
              generalize wr = w6 at *
              go_wp2_with fail
              go_loopw [13] (fun j wr => ∃ k : Nat, k ≤ L.length ∧ j = .int .i64 ((k : Int) + 1) ∧ Below w6.heap.size w6 wr) (fun j _ => 1 + L.length - (intOf j).toNat)
              case atStart => exact ⟨0, by omega, rfl, Below.refl _ _⟩
              case round =>
                clear hlt hkz hk
                obtain ⟨k, hk, rfl, hbx⟩ := hrel
                have hbwy := below_step hbwx hbx
                by_cases hlt : k + 1 < L.length
                · have hkz : (k : Int) + 1 < (L.length : Int) := by omega
                  have hkz0 : (0 : Int) ≤ (k : Int) := by omega
                  have hkz2 : (k : Int) < (L.length : Int) := by omega
                  have hkz1 : (0 : Int) ≤ (k : Int) + 1 := by omega
                  have hkn : ((k : Int) + 1).toNat = k + 1 := by omega
                  have hkw : IntKind.i64.wrap ((k : Int) + 1 - 1) = (k : Int) := by rw [show (k : Int) + 1 - 1 = k by omega]; exact IntWalk.i64_in _ (by omega)
                  have hkw1 : IntKind.i64.wrap (k : Int) = (k : Int) := IntWalk.i64_in _ (by omega)
                  obtain ⟨b, off, rfl, hbb, x0, x1, x2, x3, x4, x5⟩ := tok_at hsl5 (k := k) (by omega)
                  obtain ⟨b', off', eb, hbb', y0, y1, y2, y3, y4, y5⟩ := tok_at hsl5 hlt
                  injection eb with eb
                  injection eb with eb1 eb2 eb3
                  subst eb1 eb2
                  have hle : lessT L[k] L[k + 1] = true := List.pairwise_iff_getElem.1 HSO.out k (k + 1) (by omega) hlt (by omega)
                  have hm1 := HMS.out _ (List.getElem_mem (show k < L.length by omega))
                  have hm2 := HMS.out _ (List.getElem_mem hlt)
                  generalize L[k + 1] = Y at *
                  generalize L[k] = X at *
                  have C1 := Lib.hid (fun w' => upperA_any X.id w' hm1.1.1 hm1.2)
                  have C2 := Lib.hid (fun w' => upperA_any Y.id w' hm2.1.1 hm2.2)
                  have hbs : Op.bytesLess (capS X.id).toList (capS Y.id).toList = true := by
                    rw [Lib.toList_data, Lib.toList_data, capS_data, capS_data]; exact hle
                  obtain ⟨hc, hf⟩ := bcell hbx
                  clear x1 x2 x3 x4 x5 y1 y2 y3 y4 y5 hm1 hm2 hle eb3 hbb'
                  have hbr := Below.refl wr.heap.size wr
                  have hgb : b < wr.heap.size := Nat.lt_of_lt_of_le hbb hbx.size
                  go_wp2_with fail
                  go_region_held3 (fun w' => (∀ b o, b < wr.heap.size → w'.cell? ⟨b, o, none⟩ = wr.cell? ⟨b, o, none⟩) ∧ Below wr.heap.size wr w') (first | exact ⟨(bcell (W := wr) (by assumption)).1, by assumption⟩ | exact ⟨(bcell (W := wr) (Below.drew (by assumption))).1, Below.drew (by assumption)⟩) ((first | (go_at_call 11; first | (with_reducible refine (C1.out _).mono ?_; rintro e w4 ⟨rfl, hb4⟩; have hb4' := below_step (w := wr) (And.right (by assumption)) hb4) | (with_reducible refine (C2.out _).mono ?_; rintro e w5 ⟨rfl, hb5⟩; have hb5' := below_step (w := wr) (And.right (by assumption)) hb5))))
                  all_goals
                    first
                      | (have _z : Below w4.heap.size w4 w5 := hb5; generalize w5 = wl at *)
                      | (generalize w4 = wl at *)
                    have hbl : Below wr.heap.size wr wl := by assumption
                    clear hc hf
                    go_wp2_with fail
                    go_roundw
                    case measure => simp [intOf]; omega
                    case rel => exact ⟨k + 1, by omega, by go_num, below_step hbx hbl⟩
                · have hkz : ¬ (k : Int) + 1 < (L.length : Int) := by omega
                  go_wp2_with fail
                  refine (tokEqual_any L L _ _ _ (by omega) (by omega) (HU.out.below hbx) (HW.out.below hbx)).mono ?_
                  rintro e w7 ⟨rfl, hb7⟩
                  replace hb7 := drewN_below hb7
                  rw [tokEqL_t rfl]
                  go_wp2_with fail
                  refine (tokExample_any _).mono ?_
                  rintro e w9 ⟨rfl, hb9⟩
                  go_wp2_with fail
                  go_ret
                  exact ⟨rfl, below_step hbwy (below_step hb7 hb9)⟩

end Go.Proofs.YtcaicdjlfgpbfaaDoor
