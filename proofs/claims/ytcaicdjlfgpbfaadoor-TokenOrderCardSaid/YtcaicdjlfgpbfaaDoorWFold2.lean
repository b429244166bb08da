/-
  strings.EqualFold of any two texts, walked: it returns with some answer; of ASCII texts: whether their capitals are the same.
-/
import Derived.Test.YtcaicdjlfgpbfaaDoorWFold1
import Derived.Test.YtcaicdjlfgpbfaaDoorPFold
import Derived.Test.YtcaicdjlfgpbfaaDoorAsc
import Derived.Lib.OthersKept
import Derived.Lib.DecodeN
import Derived.ScopeJumps
namespace Go.Proofs.YtcaicdjlfgpbfaaDoor
open Go.RowKit Go.Lib
set_option linter.unusedVariables false
set_option linter.unusedSimpArgs false

theorem dN_le (n b0 b1 b2 b3 : Nat) (hn : 1 ≤ n) : 1 ≤ (decodeN n b0 b1 b2 b3).2 ∧ (decodeN n b0 b1 b2 b3).2 ≤ n := by
  unfold decodeN
  repeat' split
  all_goals (simp only; omega)
theorem dGo_le (s : ByteArray) : (decodeGo s).2 ≤ s.size := by
  unfold decodeGo
  split
  · simp
  · rw [decode_at]; exact (dN_le _ _ _ _ _ (by omega)).2
theorem dAt_pos (s : ByteArray) (pos : Nat) (h : pos < s.size) : 1 ≤ (Utf8.decode s pos).2 := by
  rw [decode_at]; exact (dN_le _ _ _ _ _ (by omega)).1
/-- the frame at the label -/
def foldA (u : Nat → Value) : Array Value := #[u 0, u 1, u 2, u 3, u 4, u 5, u 6, u 7, u 8, u 9, u 10, u 11, u 12, u 13, u 14, u 15, u 16, u 17, u 18, u 19, u 20, u 21, u 22, u 23, u 24, u 25, u 26, u 27, u 28, u 29, u 30, u 31, u 32, u 33, u 34, u 35, u 36, u 37, u 38, u 39, u 40, u 41, u 42, u 43, u 44, u 45, u 46, u 47, u 48, u 49, u 50, u 51, u 52, u 53, u 54, u 55, u 56, u 57, u 58, u 59, u 60, u 61, u 62, u 63, u 64, u 65, u 66, u 67, u 68, u 69, u 70, u 71, u 72, u 73, u 74, u 75, u 76, u 77, u 78, u 79, u 80, u 81, u 82, u 83, u 84, u 85, u 86, u 87, u 88, u 89, u 90, u 91, u 92, u 93, u 94, u 95, u 96, u 97, u 98, u 99, u 100, u 101, u 102, u 103, u 104, u 105, u 106, u 107, u 108, u 109, u 110, u 111, u 112, u 113, u 114, u 115, u 116, u 117, u 118, u 119, u 120, u 121, u 122]
def foldB (s t : ByteArray) (i : Nat) (u : Nat → Value) : Array Value := #[.string s, .string t, u 2, u 3, u 4, .int .i64 (i : Int), u 6, u 7, u 8, u 9, u 10, u 11, u 12, u 13, u 14, u 15, u 16, u 17, u 18, u 19, u 20, u 21, u 22, u 23, u 24, u 25, u 26, u 27, u 28, u 29, u 30, u 31, u 32, u 33, u 34, u 35, u 36, u 37, u 38, u 39, u 40, u 41, u 42, u 43, u 44, u 45, u 46, u 47, u 48, u 49, u 50, u 51, u 52, u 53, u 54, u 55, u 56, u 57, u 58, u 59, u 60, u 61, u 62, u 63, u 64, u 65, u 66, u 67, u 68, u 69, u 70, u 71, u 72, u 73, u 74, u 75, u 76, u 77, u 78, u 79, u 80, u 81, u 82, u 83, u 84, u 85, u 86, u 87, u 88, u 89, u 90, u 91, u 92, u 93, u 94, u 95, u 96, u 97, u 98, u 99, u 100, u 101, u 102, u 103, u 104, u 105, u 106, u 107, u 108, u 109, u 110, u 111, u 112, u 113, u 114, u 115, u 116, u 117, u 118, u 119, u 120, u 121, u 122]
theorem foldA_is (u : Nat → Value) : foldA u = (Array.range 123).map u := by kernel_rfl
theorem foldB_is {s t : ByteArray} {i : Nat} (u : Nat → Value) (h0 : u 0 = .string s) (h1 : u 1 = .string t) (h5 : u 5 = .int .i64 i) : foldA u = foldB s t i u := by
  unfold foldA foldB
  rw [h0, h1, h5]
theorem foldA_of {a : Array Value} (h : a.size = 123) : a = foldA (fun k => a.getD k undef) := by
  rw [foldA_is]
  apply Array.ext
  · rw [Array.size_map, Array.size_range, h]
  · intro i h1 h2
    rw [Array.getElem_map, Array.getElem_range]
    simp [Array.getD, h1]
theorem foldB_of {a : Array Value} {s t : ByteArray} {i : Nat} (h : a.size = 123) (h0 : a.getD 0 undef = .string s) (h1 : a.getD 1 undef = .string t) (h5 : a.getD 5 undef = .int .i64 i) : ∃ u, a = foldB s t i u := by
  exact ⟨fun k => a.getD k undef, (foldA_of h).trans (foldB_is _ h0 h1 h5)⟩
def foldJ (s t : ByteArray) (w : World) (a' : Act) (w' : World) : Prop :=
  w' = w ∧ ∃ i : Nat, i ≤ s.size ∧ i ≤ t.size ∧ ∃ u, a' = { tmps := foldB s t i u, defers := [] }
theorem foldJ_of {s t : ByteArray} {w : World} {a : Array Value} (i : Nat) (hs : i ≤ s.size) (ht : i ≤ t.size) (h : a.size = 123) (h0 : a.getD 0 undef = .string s) (h1 : a.getD 1 undef = .string t) (h5 : a.getD 5 undef = .int .i64 i) : foldJ s t w { tmps := a, defers := [] } w := by
  obtain ⟨u, hu⟩ := foldB_of h h0 h1 h5
  exact ⟨rfl, i, hs, ht, u, by rw [hu]⟩

set_option maxRecDepth 100000 in
set_option maxHeartbeats 6400000 in
theorem equalFold_some (s t : ByteArray) (w : World) (hV : FoldV w) (hs : s.size ≤ 4096) (ht : t.size ≤ 4096) :
    Calls Tryd.prog 14 #[.string s, .string t] w fun e w' => (∃ b, e = .returned (.bool b)) ∧ Below w.heap.size w w' := by
  obtain ⟨M, hM⟩ : ∃ M : Nat, min (s.size : Int) (t.size : Int) = (M : Int) := ⟨min s.size t.size, by omega⟩
  have hMs : M ≤ s.size := by omega
  have hMt : M ≤ t.size := by omega
  have HV := Lib.hid hV
  clear hV
  go_enter Tryd.func14, Tryd.ntmps14
  go_wp2_with fail
  refine wp_scope_jumps 0 (foldJ s t w) (fun _ _ => 0) rfl ?_ ?_
  · go_wp2_with fail
    go_loopg [5] M (fun g s5 wx => w = wx ∧ ∃ i : Nat, i + g = M ∧ s5 = .int .i64 i)
    case atStart => exact ⟨rfl, 0, by omega, rfl⟩
    case round =>
      obtain ⟨rfl, i, hig, rfl⟩ := hrel
      clear hM
      cases gk with
      | zero =>
        have hiM : ¬ ((i : Int) < (M : Int)) := by omega
        obtain rfl : i = M := by omega
        go_wp2_with fail
        simp only [Exit.jump]
        go_ret
        exact ⟨⟨_, rfl⟩, Below.refl _ _⟩
      | succ g =>
        have hiM : (i : Int) < (M : Int) := by omega
        have hisz : (i : Int) < (s.size : Int) := by omega
        have hitz : (i : Int) < (t.size : Int) := by omega
        obtain ⟨x, hx⟩ : ∃ x : UInt8, s[i]'(by omega) = x := ⟨_, rfl⟩
        obtain ⟨y, hy⟩ : ∃ y : UInt8, t[i]'(by omega) = y := ⟨_, rfl⟩
        obtain ⟨c, hc⟩ : ∃ c : Int, bits .or .u8 (x.toNat : Int) (y.toNat : Int) = c := ⟨_, rfl⟩
        by_cases h128 : 128 ≤ c
        rotate_left 1
        · go_wp2_with fail
          all_goals first
            | (go_roundg g
               case measure => omega
               case rel => exact ⟨rfl, i + 1, by omega, by go_num⟩)
            | (simp only [Exit.jump]
               go_ret
               exact ⟨⟨_, rfl⟩, Below.refl _ _⟩)
        · go_wp2_with fail
          go_step3
          exact ⟨rfl, foldJ_of i (by omega) (by omega) rfl rfl rfl rfl⟩
  · rintro a' w' ⟨rfl, i, his, hit, u, rfl⟩
    have his' : (i : Int) ≤ (s.size : Int) := by omega
    have hit' : (i : Int) ≤ (t.size : Int) := by omega
    unfold foldB
    go_wp2_with fail
    clear hM hMs hMt his' hit'
    obtain ⟨S, hS⟩ : ∃ S, s.extract i s.size = S := ⟨_, rfl⟩
    obtain ⟨T, hT⟩ : ∃ T, t.extract i t.size = T := ⟨_, rfl⟩
    have hTl : T.size ≤ 4096 := by rw [← hT, ByteArray.size_extract]; omega
    rw [hS, hT]
    clear hS hT
    have hn0 := w'.iter_heap S 0
    have hb0 : Below w'.heap.size w' (w'.iter S 0) := by unfold World.iter; exact below_alloc (Below.refl _ _) _
    have hg0 : w'.heap.size < (w'.iter S 0).heap.size := (Array.getElem?_eq_some_iff.1 hn0).1
    generalize w'.iter S 0 = W1 at *
    go_loopg [1] S.size (fun g s1 wx => ∃ (pos : Nat) (T : ByteArray), s1 = .string T ∧ T.size ≤ 4096 ∧ S.size ≤ pos + g ∧ Below w'.heap.size w' wx ∧ wx.heap[w'.heap.size]? = some (.stringIter S pos) ∧ w'.heap.size < wx.heap.size)
    case atStart => exact ⟨0, T, rfl, hTl, by omega, hb0, hn0, hg0⟩
    case round =>
      clear hTl
      obtain ⟨pos, T, rfl, hTl, hpg, hbw, hit, hgw⟩ := hrel
      by_cases hp : pos < S.size
      · have hnx := fun ty => run_next_any_at (P := Tryd.prog) wr w'.heap.size S pos ty hit hp
        have hpp := dAt_pos S pos hp
        have hit2 := iterAt_heap wr w'.heap.size S pos (pos + (Utf8.decode S pos).2) hit
        have hbw2 := below_iterAt hbw (k := w'.heap.size) (Nat.le_refl _) S (pos + (Utf8.decode S pos).2)
        have hgw2 : w'.heap.size < (wr.iterAt w'.heap.size S (pos + (Utf8.decode S pos).2)).heap.size := by rw [iterAt_size]; exact hgw
        generalize wr.iterAt w'.heap.size S (pos + (Utf8.decode S pos).2) = W2 at *
        generalize (Utf8.decode S pos).1 = R1 at *
        by_cases hTz : T.size = 0
        · have hTz' : (T.size : Int) = 0 := by omega
          go_wp2_with fail
          simp only [Exit.jump]
          go_ret
          exact ⟨⟨_, rfl⟩, hbw2⟩
        have hTz' : ((T.size : Int) == 0) = false := by simpa using hTz
        have cD := Tryd.utf8_DecodeRuneInString T W2 (HV.out.below hbw2).utf
        have hdl := dGo_le T
        go_wp2_with fail
        refine cD.mono ?_
        rintro e w3 ⟨rfl, hb3⟩
        clear cD
        generalize (decodeGo T).1 = R2 at *
        generalize (decodeGo T).2 = K at *
        have hK0 : (0 : Int) ≤ (K : Int) := by omega
        have hKT : (K : Int) ≤ (T.size : Int) := by omega
        obtain ⟨T2, hT2⟩ : ∃ T2, T.extract K T.size = T2 := ⟨_, rfl⟩
        have hTs : T2.size ≤ 4096 := by rw [← hT2, ByteArray.size_extract]; omega
        have hbw3 := below_step hbw2 hb3
        have hit3 := blk_below hit2 hb3 hgw2
        have hgw3 : w'.heap.size < w3.heap.size := Nat.lt_of_lt_of_le hgw2 hb3.size
        obtain ⟨g, rfl⟩ : ∃ g, gk = g + 1 := ⟨gk - 1, by omega⟩
        clear hb3 hnx hit2 hbw2 hgw2 hTz hTz'
        by_cases heq : R2 = R1
        · have heqb : ((R2 : Int) == (R1 : Int)) = true := beq_iff_eq.2 (by omega)
          go_wp2_with fail
          go_roundg g
          case measure => omega
          case rel => exact ⟨_, _, rfl, hTs, by omega, hbw3, hit3, hgw3⟩
        have heqb : ((R2 : Int) == (R1 : Int)) = false := beq_eq_false_iff_ne.2 (by omega)
        by_cases hlt : R2 < R1
        · have hltz : (R2 : Int) < (R1 : Int) := by omega
          by_cases hlo : R1 < 128
          · have hloz : (R1 : Int) < 128 := by omega
            go_wp2_with fail
            all_goals first
              | (go_roundg g
                 case measure => omega
                 case rel => exact ⟨_, _, rfl, hTs, by omega, hbw3, hit3, hgw3⟩)
              | (simp only [Exit.jump]
                 go_ret
                 exact ⟨⟨_, rfl⟩, hbw3⟩)
          · have hloz : ¬ ((R1 : Int) < 128) := by omega
            go_wp2_with fail
            refine (simpleFold_any (R2 : Int) w3 (HV.out.below hbw3)).mono ?_
            rintro e w4 ⟨rfl, q, rfl⟩
            obtain ⟨k, hk1, hk4, hk⟩ := back_some (R2 : Int)
            have hb4 : Below w3.heap.size w3 (w3.drewN q) := below_drewN (Below.refl _ _) q
            have hone : foldR (R2 : Int) = itF 1 (R2 : Int) := rfl
            rw [hone]
            generalize w3.drewN q = w4 at *
            go_wp2_with fail
            go_loopg [13] (k - 1) (fun g s13 wx => ∃ j : Nat, 1 ≤ j ∧ j + g = k ∧ s13 = .int .i32 (itF j (R2 : Int)) ∧ Below w3.heap.size w3 wx)
            case atStart => exact ⟨1, by omega, by omega, rfl, hb4⟩
            case round =>
              obtain ⟨j, hj1, hjk, rfl, hbx⟩ := hrel
              by_cases he : itF j (R2 : Int) = (R2 : Int)
              · have heb : (itF j (R2 : Int) != (R2 : Int)) = false := by simpa using he
                generalize itF j (R2 : Int) = X at *
                go_wp2_with fail
                all_goals first
                  | (go_roundg g
                     case measure => omega
                     case rel => exact ⟨_, _, rfl, hTs, by omega, below_step hbw3 hbx, blk_below hit3 hbx hgw3, Nat.lt_of_lt_of_le hgw3 hbx.size⟩)
                  | (simp only [Exit.jump]
                     go_ret
                     exact ⟨⟨_, rfl⟩, below_step hbw3 hbx⟩)
              · have heb : (itF j (R2 : Int) != (R2 : Int)) = true := by simpa using he
                have hsu := itF_succ j (R2 : Int)
                obtain ⟨g1, rfl⟩ : ∃ g1, gk = g1 + 1 := by
                  cases gk with
                  | zero => exact absurd (by rw [show j = k by omega]; exact hk) he
                  | succ g1 => exact ⟨g1, rfl⟩
                generalize itF j (R2 : Int) = X at *
                by_cases hXb : X < (R1 : Int)
                · go_wp2_with fail
                  refine (simpleFold_any X wr (HV.out.below (below_step hbw3 hbx))).mono ?_
                  rintro e w5 ⟨rfl, q5, rfl⟩
                  have hb5 : Below w3.heap.size w3 (wr.drewN q5) := below_step hbx (below_drewN (Below.refl _ _) q5)
                  go_wp2_with fail
                  go_roundg g1
                  case measure => omega
                  case rel => exact ⟨j + 1, by omega, by omega, by rw [hsu], hb5⟩
                · skip
                  go_wp2_with fail
                  all_goals first
                    | (go_roundg g
                       case measure => omega
                       case rel => exact ⟨_, _, rfl, hTs, by omega, below_step hbw3 hbx, blk_below hit3 hbx hgw3, Nat.lt_of_lt_of_le hgw3 hbx.size⟩)
                    | (simp only [Exit.jump]
                       go_ret
                       exact ⟨⟨_, rfl⟩, below_step hbw3 hbx⟩)
        · have hltz : ¬ ((R2 : Int) < (R1 : Int)) := by omega
          by_cases hlo : R2 < 128
          · have hloz : (R2 : Int) < 128 := by omega
            go_wp2_with fail
            all_goals first
              | (go_roundg g
                 case measure => omega
                 case rel => exact ⟨_, _, rfl, hTs, by omega, hbw3, hit3, hgw3⟩)
              | (simp only [Exit.jump]
                 go_ret
                 exact ⟨⟨_, rfl⟩, hbw3⟩)
          · have hloz : ¬ ((R2 : Int) < 128) := by omega
            go_wp2_with fail
            refine (simpleFold_any (R1 : Int) w3 (HV.out.below hbw3)).mono ?_
            rintro e w4 ⟨rfl, q, rfl⟩
            obtain ⟨k, hk1, hk4, hk⟩ := back_some (R1 : Int)
            have hb4 : Below w3.heap.size w3 (w3.drewN q) := below_drewN (Below.refl _ _) q
            have hone : foldR (R1 : Int) = itF 1 (R1 : Int) := rfl
            rw [hone]
            generalize w3.drewN q = w4 at *
            go_wp2_with fail
            go_loopg [13] (k - 1) (fun g s13 wx => ∃ j : Nat, 1 ≤ j ∧ j + g = k ∧ s13 = .int .i32 (itF j (R1 : Int)) ∧ Below w3.heap.size w3 wx)
            case atStart => exact ⟨1, by omega, by omega, rfl, hb4⟩
            case round =>
              obtain ⟨j, hj1, hjk, rfl, hbx⟩ := hrel
              by_cases he : itF j (R1 : Int) = (R1 : Int)
              · have heb : (itF j (R1 : Int) != (R1 : Int)) = false := by simpa using he
                generalize itF j (R1 : Int) = X at *
                go_wp2_with fail
                all_goals first
                  | (go_roundg g
                     case measure => omega
                     case rel => exact ⟨_, _, rfl, hTs, by omega, below_step hbw3 hbx, blk_below hit3 hbx hgw3, Nat.lt_of_lt_of_le hgw3 hbx.size⟩)
                  | (simp only [Exit.jump]
                     go_ret
                     exact ⟨⟨_, rfl⟩, below_step hbw3 hbx⟩)
              · have heb : (itF j (R1 : Int) != (R1 : Int)) = true := by simpa using he
                have hsu := itF_succ j (R1 : Int)
                obtain ⟨g1, rfl⟩ : ∃ g1, gk = g1 + 1 := by
                  cases gk with
                  | zero => exact absurd (by rw [show j = k by omega]; exact hk) he
                  | succ g1 => exact ⟨g1, rfl⟩
                generalize itF j (R1 : Int) = X at *
                by_cases hXb : X < (R2 : Int)
                · go_wp2_with fail
                  refine (simpleFold_any X wr (HV.out.below (below_step hbw3 hbx))).mono ?_
                  rintro e w5 ⟨rfl, q5, rfl⟩
                  have hb5 : Below w3.heap.size w3 (wr.drewN q5) := below_step hbx (below_drewN (Below.refl _ _) q5)
                  go_wp2_with fail
                  go_roundg g1
                  case measure => omega
                  case rel => exact ⟨j + 1, by omega, by omega, by rw [hsu], hb5⟩
                · skip
                  go_wp2_with fail
                  all_goals first
                    | (go_roundg g
                       case measure => omega
                       case rel => exact ⟨_, _, rfl, hTs, by omega, below_step hbw3 hbx, blk_below hit3 hbx hgw3, Nat.lt_of_lt_of_le hgw3 hbx.size⟩)
                    | (simp only [Exit.jump]
                       go_ret
                       exact ⟨⟨_, rfl⟩, below_step hbw3 hbx⟩)
      · have hnx := fun ty => run_next_end_at (P := Tryd.prog) wr w'.heap.size S pos ty hit hp
        go_wp2_with fail
        simp only [Exit.jump]
        go_ret
        exact ⟨⟨_, rfl⟩, hbw⟩

/-- of two ASCII texts: whether their capitals are the same -/
theorem equalFold_ascii (s t : ByteArray) (w : World) (hs : s.size ≤ 4096) (ha : asciiL s.data.toList = true) (hb : asciiL t.data.toList = true) :
    Calls Tryd.prog 14 #[.string s, .string t] w fun e w' => e = .returned (.bool (decide (capL s.data.toList = capL t.data.toList))) ∧ Below w.heap.size w w' :=
  (Tryd.strings_EqualFold s t w (by omega) (ascii_at ha) (ascii_at hb)).mono fun e w' ⟨he, hw⟩ => ⟨by rw [he, fold_caps], hw ▸ Below.refl _ _⟩
/-- in every case: some answer; and if it is false, and both are ASCII, the capitals differ -/
theorem equalFold_any (s t : ByteArray) (w : World) (hV : FoldV w) (hs : s.size ≤ 4096) (ht : t.size ≤ 4096) :
    Calls Tryd.prog 14 #[.string s, .string t] w fun e w' => ∃ b, e = .returned (.bool b) ∧ Below w.heap.size w w' ∧ (b = false → asciiL s.data.toList = true → asciiL t.data.toList = true → capL s.data.toList ≠ capL t.data.toList) := by
  by_cases h : asciiL s.data.toList = true ∧ asciiL t.data.toList = true
  · exact (equalFold_ascii s t w hs h.1 h.2).mono fun e w' ⟨he, hw⟩ => ⟨_, he, hw, fun hd _ _ => of_decide_eq_false hd⟩
  · exact (equalFold_some s t w hV hs ht).mono fun e w' ⟨⟨b, he⟩, hw⟩ => ⟨b, he, hw, fun _ h1 h2 => absurd ⟨h1, h2⟩ h⟩

end Go.Proofs.YtcaicdjlfgpbfaaDoor
