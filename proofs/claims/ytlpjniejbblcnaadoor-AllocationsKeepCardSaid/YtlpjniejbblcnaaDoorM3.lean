/-
  Walks: capitals and comparisons, in package ident and in its reference.
  Walks: Valid of the reference of package site.
  Walks: a feeder's error, of the reference.
  Walks: a point's error, of the reference.
  Walks: Valid of the reference of package site.
  Plain facts: what the feeders of a site carry.
  Rows of integers that the call owns. No function of the program is named here.
-/
import Derived.Test.YtlpjniejbblcnaaDoorM2
import Derived.Test.YtlpjniejbblcnaaDoorM1
import Derived.Test.YtlpjniejbblcnaaDoorProg

namespace Go.Proofs.YtlpjniejbblcnaaDoor
open Go.RowKit
set_option linter.unusedVariables false

/-- a row of bytes of which the first k are capitals -/
def capRow (s : ByteArray) (k : Nat) (j : Nat) : Value := if j < k then .int .u8 (((capL s.data.toList).getD j 0).toNat : Int) else .int .u8 ((s.data.toList.getD j 0).toNat : Int)

theorem capRow_zero (s : ByteArray) : capRow s 0 = fun j => .int .u8 ((s.data.toList.getD j 0).toNat : Int) := by funext j; simp [capRow]
theorem capRow_at (s : ByteArray) (k : Nat) (h : k < s.size) : capRow s k k = .int .u8 (s[k].toNat : Int) := by
  have h' : k < s.data.size := h
  simp only [capRow, Nat.lt_irrefl, if_false, List.getD_eq_getElem?_getD]
  rw [List.getElem?_eq_getElem (by simpa using h)]; rfl
theorem capRow_succ (s : ByteArray) (k : Nat) (h : k < s.size) (j : Nat) (hj : j < s.size) : (if j = k then Value.int .u8 (capI (s[k].toNat : Int)) else capRow s k j) = capRow s (k + 1) j := by
  by_cases e : j = k
  · subst e
    have h' : j < s.data.size := h
    simp only [capRow, if_true, Nat.lt_succ_self, capL, List.getD_eq_getElem?_getD, List.getElem?_map]
    rw [List.getElem?_eq_getElem (by simpa using h)]
    simp only [Option.map_some, Option.getD_some]
    rw [capU_capI]; rfl
  · simp only [e, if_false, capRow]
    by_cases e2 : j < k
    · rw [if_pos e2, if_pos (by omega)]
    · rw [if_neg e2, if_neg (by omega)]
theorem capRow_full (s : ByteArray) (k : Nat) (h : ¬ k < s.size) (j : Nat) (hj : j < s.size) : capRow s k j = .int .u8 (((capL s.data.toList).getD j 0).toNat : Int) := by
  unfold capRow; rw [if_pos (by omega)]

set_option maxHeartbeats 800000 in
theorem refCapitals_any (s : ByteArray) (w : World) (hs : s.size ≤ maxLen) :
    Calls Tryd.prog 93 #[.string s] w fun e w' => e = .returned (.string (capS s)) ∧ Below w.heap.size w w' := by
  unfold maxLen at hs
  obtain ⟨c, w1, hcv, hb1, hz1, hrow⟩ := bytes_conv (P := Tryd.prog) w 9 32 5 s Tryd.underlying9 Tryd.underlying32 Tryd.underlying5
  have HZ := Lib.hid hz1
  clear hz1
  go_enter Tryd.func93, Tryd.ntmps93
  go_wp2
  go_loopw [4] (fun i wr => ∃ k : Nat, k ≤ s.size ∧ i = .int .i64 k ∧ Below w.heap.size w wr ∧ Row wr w.heap.size s.size (capRow s k)) (fun i _ => s.size - (intOf i).toNat)
  case atStart => exact ⟨0, by omega, rfl, hb1, by rw [capRow_zero]; exact hrow⟩
  case round =>
    obtain ⟨k, hk, rfl, hbw, hr⟩ := hrel
    clear hcv
    by_cases hlt : k < s.size
    · obtain ⟨hb0, hb1⟩ := byte_lt s k hlt
      have hc := hr.cell hlt
      rw [capRow_at s k hlt] at hc
      have hf := hr.frozen hlt
      go_wp2_with (go_at_call 82; refine (refCapital_any _ _ (by omega) (by omega)).mono ?_; rintro e w' ⟨rfl, rfl⟩)
      go_roundw
      case rel => exact ⟨k + 1, by omega, by go_num, hbw.setCell (Nat.le_refl _) _, (hr.set k _).congr (capRow_succ s k hlt)⟩
      case measure => simp [intOf]; omega
    · have hbk := bytes_back (P := Tryd.prog) wr 32 9 5 w.heap.size s.size c (capL s.data.toList) Tryd.underlying32 Tryd.underlying5 Tryd.underlying9 (by simp [capL]) _ hr (capRow_full s k hlt)
      go_wp2
      go_ret
      exact ⟨rfl, hbw⟩

theorem str_eq (a b : ByteArray) : (a.toList == b.toList) = decide (a.data.toList = b.data.toList) := by
  rw [Lib.toList_data, Lib.toList_data]
  by_cases h : a.data.toList = b.data.toList
  · simp [h]
  · have : (a.data.toList == b.data.toList) = false := by simpa using h
    rw [this]; simp [h]
theorem capS_data (s : ByteArray) : (capS s).data.toList = capL s.data.toList := by simp [capS]
theorem str_eq_cap (a b : ByteArray) : ((capS a).toList == (capS b).toList) = sameS a b := by rw [str_eq, capS_data, capS_data]; rfl

set_option maxHeartbeats 800000 in
theorem refSame_any (a b : ByteArray) (w : World) (ha : a.size ≤ maxLen) (hb : b.size ≤ maxLen) :
    Calls Tryd.prog 83 #[.string a, .string b] w fun e w' => e = .returned (.bool (sameS a b)) ∧ Below w.heap.size w w' := by
  go_enter Tryd.func83, Tryd.ntmps83
  go_wp2_with fail
  refine (refCapitals_any a _ ha).mono ?_
  rintro e w1 ⟨rfl, hb1⟩
  go_wp2_with fail
  refine (refCapitals_any b _ hb).mono ?_
  rintro e w2 ⟨rfl, hb2⟩
  go_wp2_with fail
  go_ret
  refine ⟨?_, hb1.trans (hb2.mono hb1.size)⟩
  exact ret_bool (str_eq_cap a b)

theorem same_len {a b : ByteArray} (h : ((a.size : Int) != b.size) = true) : sameS a b = false := by
  have h' : a.size ≠ b.size := by simp at h; omega
  unfold sameS
  simp
  intro e
  have := congrArg List.length e
  simp [capL] at this
  exact h' this
theorem same_at {a b : ByteArray} {k : Nat} (ha : k < a.size) (hb : k < b.size) (h : capI (a[k].toNat : Int) ≠ capI (b[k].toNat : Int)) : sameS a b = false := by
  unfold sameS
  simp
  intro e
  apply h
  have ha' : k < a.data.toList.length := by simpa using ha
  have hb' : k < b.data.toList.length := by simpa using hb
  have e1 : (capL a.data.toList)[k]? = (capL b.data.toList)[k]? := by rw [e]
  simp only [capL, List.getElem?_map, List.getElem?_eq_getElem ha', List.getElem?_eq_getElem hb', Option.map_some, Option.some.injEq] at e1
  have e2 : capU a[k] = capU b[k] := e1
  rw [← capU_capI, ← capU_capI, e2]
theorem same_all {a b : ByteArray} (hl : a.size = b.size) (h : ∀ k (ha : k < a.size) (hb : k < b.size), capI (a[k].toNat : Int) = capI (b[k].toNat : Int)) : sameS a b = true := by
  unfold sameS
  simp only [decide_eq_true_eq]
  apply List.ext_getElem
  · simpa [capL] using hl
  · intro k h1 h2
    simp only [capL, List.length_map, Array.length_toList] at h1 h2
    have := h k h1 h2
    rw [← capU_capI, ← capU_capI] at this
    simp only [capL, List.getElem_map]
    apply UInt8.toNat_inj.1
    have e1 : a[k] = a.data.toList[k] := rfl
    have e2 : b[k] = b.data.toList[k] := rfl
    rw [← e1, ← e2]
    omega

set_option maxHeartbeats 800000 in
theorem same_any (a b : ByteArray) (w : World) (ha : a.size ≤ maxLen) :
    Calls Tryd.prog 37 #[.string a, .string b] w fun e w' => e = .returned (.bool (sameS a b)) ∧ ∃ n, w' = w.drewN n := by
  unfold maxLen at ha
  cases hn : ((a.size : Int) != b.size) with
  | true =>
    have HV := Lib.hid (same_len hn)
    go_enter Tryd.func37, Tryd.ntmps37
    go_wp2
    go_ret
    exact ⟨ret_bool (by rw [HV.out]), 0, rfl⟩
  | false =>
    have hl : a.size = b.size := by simp at hn; omega
    have HL := Lib.hid hl
    have hle : a.size ≤ b.size := by omega
    clear hl
    go_enter Tryd.func37, Tryd.ntmps37
    go_wp2
    go_loopw [13] (fun i wr => ∃ k : Nat, k ≤ a.size ∧ i = .int .i64 k ∧ Hid (∃ n, wr = w.drewN n) ∧ Hid (∀ j (ha : j < a.size) (hb : j < b.size), j < k → capI (a[j].toNat : Int) = capI (b[j].toNat : Int))) (fun i _ => a.size - (intOf i).toNat)
    case atStart => exact ⟨0, by omega, rfl, ⟨0, rfl⟩, fun j _ _ h => by omega⟩
    case round =>
      obtain ⟨k, hk, rfl, HW, H⟩ := hrel
      by_cases hlt : k < a.size
      · have hlb : k < b.size := by omega
        obtain ⟨hb0, hb1⟩ := byte_lt a k hlt
        obtain ⟨hb2, hb3⟩ := byte_lt b k hlb
        cases he : (capI (a[k].toNat : Int) != capI (b[k].toNat : Int)) with
        | true =>
          have hs := same_at hlt hlb (by simpa using he)
          have HS := Lib.hid hs
          clear hs
          go_wp2
          go_quiet (first | (go_at_call 55; first | exact quiet_left (capital_any _ _ hb0 hb1) | exact quiet_left (capital_any _ _ hb2 hb3)))
          go_wp2
          go_ret
          exact ⟨ret_bool (by rw [HS.out]), drewN_more HW _⟩
        | false =>
          have HE := Lib.hid he
          go_wp2
          go_quiet (first | (go_at_call 55; first | exact quiet_left (capital_any _ _ hb0 hb1) | exact quiet_left (capital_any _ _ hb2 hb3)))
          go_wp2
          go_roundw
          case rel => exact ⟨k + 1, by omega, by go_num, drewN_more HW _, fun j hj1 hj2 hj => by
            by_cases e : j = k
            · subst e; have := HE.out; simpa using this
            · exact H.out j hj1 hj2 (by omega)⟩
          case measure => simp [intOf]; omega
      · have hs := same_all HL.out (fun j h1 h2 => H.out j h1 h2 (by omega))
        have HS := Lib.hid hs
        clear hs
        go_wp2
        go_ret
        exact ⟨ret_bool (by rw [HS.out]), HW.out⟩

theorem small_max {n : Nat} (h : n ≤ 4096) : n ≤ maxLen := by unfold maxLen; omega
theorem drewN_below {w w' : World} (h : ∃ n, w' = w.drewN n) : Below w.heap.size w w' := by
  obtain ⟨n, rfl⟩ := h
  exact below_drewN (Below.refl _ _) n

end Go.Proofs.YtlpjniejbblcnaaDoor

namespace Go.Proofs.YtlpjniejbblcnaaDoor
open Go.RowKit Go.Lib Go.Maps
set_option linter.unusedVariables false

theorem same_key {a b : ByteArray} : sameS a b = decide (keyN a = keyN b) := by unfold sameS keyN; rfl
theorem keysF_mem {F : List Feed} {k n : Nat} (hk : k < n) (hn : n ≤ F.length) : keyN (F[k]'(by omega)).name ∈ keysF (F.take n) := by
  unfold keysF
  refine List.mem_map.2 ⟨F[k]'(by omega), ?_, rfl⟩
  exact List.mem_take_iff_getElem.2 ⟨k, by omega, rfl⟩
theorem keysP_mem {P : List Pnt} {k n : Nat} (hk : k < n) (hn : n ≤ P.length) : keyN (P[k]'(by omega)).name ∈ keysP (P.take n) := by
  unfold keysP
  refine List.mem_map.2 ⟨P[k]'(by omega), ?_, rfl⟩
  exact List.mem_take_iff_getElem.2 ⟨k, by omega, rfl⟩

set_option maxRecDepth 100000 in
set_option maxHeartbeats 3200000 in
theorem known_any (s : ByteArray) (F : List Feed) (P : List Pnt) (fv pv : Value) (n m : Nat) (name : ByteArray) (w : World) (hF : IsSl w 5 fv (F.map Feed.cells)) (hP : IsSl w 5 pv (P.map Pnt.cells)) (hn : n ≤ F.length) (hm : m ≤ P.length) (hl1 : F.length ≤ 1000000) (hl2 : P.length ≤ 1000000)
    (hfF : ∀ f ∈ F, f.fits) (hfP : ∀ p ∈ P, p.fits) (hnm : name.size ≤ maxLen) :
    Calls Tryd.prog 73 #[.agg #[.string s, fv, pv], .int .i64 n, .int .i64 m, .string name] w
      fun e w' => e = .returned (.bool (decide (keyN name ∈ keysF (F.take n) ++ keysP (P.take m)))) ∧ Below w.heap.size w w' := by
  obtain ⟨A, c, rfl, hlc, hcm, hsl⟩ := islen' hF
  obtain ⟨B, d, rfl, hld, hdm, hsp⟩ := islen' hP
  obtain ⟨W0, hW0, hb0, hg0, hx0⟩ := box1 w #[.string s, .slice A F.length c, .slice B P.length d] 30
  have HSL := Lib.hid (hsl.below hb0)
  have HSP := Lib.hid (hsp.below hb0)
  have HFF := Lib.hid hfF
  have HFP := Lib.hid hfP
  clear hF hP hsl hsp hfF hfP hlc hld hcm hdm
  go_enter Tryd.func73, Tryd.ntmps73
  go_wp2_with fail
  rw [← hW0]
  clear hW0
  go_loopw [9] (fun i wr => ∃ k : Nat, k ≤ n ∧ i = .int .i64 k ∧ Below W0.heap.size W0 wr ∧ Hid (¬ keyN name ∈ keysF (F.take k))) (fun i _ => n - (intOf i).toNat)
  case atStart => exact ⟨0, by omega, rfl, Below.refl _ _, by show ¬ _; simp [keysF]⟩
  case round =>
    obtain ⟨k, hk, rfl, hbw, HM⟩ := hrel
    obtain ⟨hc, hf⟩ := bcell hbw
    by_cases hlt : k < n
    · have hki : (k : Int) < (n : Int) := by omega
      have hkF : k < F.length := by omega
      have hkF2 : (k : Int) < (F.length : Int) := by omega
      obtain ⟨b, off, rfl, hbb, c0, c1, c2, c3, c4⟩ := feed_at (HSL.out.below hbw) hkF
      have HKM := Lib.hid (keysF_mem hlt hn)
      have HKS := Lib.hid (keysF_step hkF)
      have hft := HFF.out _ (List.getElem_mem hkF)
      generalize F[k] = x at *
      go_wp2_with fail
      refine (refSame_any x.name name _ hft hnm).mono ?_
      rintro e w3 ⟨rfl, hb3⟩
      replace hbw := hbw.trans (hb3.mono hbw.size)
      cases hq : sameS x.name name with
      | true =>
        have hk2 : keyN x.name = keyN name := by rw [same_key] at hq; simpa using hq
        have HE : Hid (decide (keyN name ∈ keysF (F.take n) ++ keysP (P.take m)) = true) := by
          unfold Hid
          rw [← hk2]
          simpa using .inl HKM.out
        go_wp2_with fail
        go_ret
        exact ⟨ret_bool (by rw [HE.out]), below_step hb0 hbw⟩
      | false =>
        have hk2 : ¬ keyN x.name = keyN name := by rw [same_key] at hq; simpa using hq
        have HM2 : Hid (¬ keyN name ∈ keysF (F.take (k + 1))) := by
          unfold Hid
          rw [HKS.out]
          simp only [List.mem_append, List.mem_singleton, not_or]
          exact ⟨HM.out, fun h => hk2 h.symm⟩
        go_wp2_with fail
        go_roundw
        case measure => simp [intOf]; omega
        case rel => exact ⟨k + 1, by omega, by go_num, hbw, HM2⟩
    · have hkn : k = n := by omega
      subst hkn
      clear HSL hc hf
      go_wp2_with fail
      go_loopw [10] (fun i wr => ∃ q : Nat, q ≤ m ∧ i = .int .i64 q ∧ Below W0.heap.size W0 wr ∧ Hid (¬ keyN name ∈ keysP (P.take q))) (fun i _ => m - (intOf i).toNat)
      case atStart => exact ⟨0, by omega, rfl, hbw, by show ¬ _; simp [keysP]⟩
      case round =>
      clear hbw
      obtain ⟨q, hqm, rfl, hbw, HQ⟩ := hrel
      obtain ⟨hc, hf⟩ := bcell hbw
      by_cases hlt2 : q < m
      · have hki : (q : Int) < (m : Int) := by omega
        have hkP : q < P.length := by omega
        have hkP2 : (q : Int) < (P.length : Int) := by omega
        obtain ⟨b, off, rfl, hbb, c0, c1, c2, c3, c4⟩ := pnt_at (HSP.out.below hbw) hkP
        have HKM := Lib.hid (keysP_mem hlt2 hm)
        have HKS := Lib.hid (keysP_step hkP)
        have hft := HFP.out _ (List.getElem_mem hkP)
        generalize P[q] = x at *
        go_wp2_with fail
        refine (refSame_any x.name name _ hft hnm).mono ?_
        rintro e w3 ⟨rfl, hb3⟩
        replace hbw := hbw.trans (hb3.mono hbw.size)
        cases hq : sameS x.name name with
        | true =>
          have hk2 : keyN x.name = keyN name := by rw [same_key] at hq; simpa using hq
          have HE : Hid (decide (keyN name ∈ keysF (F.take k) ++ keysP (P.take m)) = true) := by
            unfold Hid
            rw [← hk2]
            simpa using .inr HKM.out
          go_wp2_with fail
          go_ret
          exact ⟨ret_bool (by rw [HE.out]), below_step hb0 hbw⟩
        | false =>
          have hk2 : ¬ keyN x.name = keyN name := by rw [same_key] at hq; simpa using hq
          have HQ2 : Hid (¬ keyN name ∈ keysP (P.take (q + 1))) := by
            unfold Hid
            rw [HKS.out]
            simp only [List.mem_append, List.mem_singleton, not_or]
            exact ⟨HQ.out, fun h => hk2 h.symm⟩
          go_wp2_with fail
          go_roundw
          case measure => simp [intOf]; omega
          case rel => exact ⟨q + 1, by omega, by go_num, hbw, HQ2⟩
      · have hqm2 : q = m := by omega
        subst hqm2
        have HE : Hid (decide (keyN name ∈ keysF (F.take k) ++ keysP (P.take q)) = false) := by
          unfold Hid
          simp only [decide_eq_false_iff_not, List.mem_append, not_or]
          exact ⟨HM.out, HQ.out⟩
        go_wp2_with fail
        go_ret
        exact ⟨ret_bool (by rw [HE.out]), below_step hb0 hbw⟩

end Go.Proofs.YtlpjniejbblcnaaDoor

namespace Go.Proofs.YtlpjniejbblcnaaDoor
open Go.RowKit Go.Lib Go.Maps
set_option linter.unusedVariables false

set_option maxRecDepth 100000 in
set_option maxHeartbeats 6400000 in
theorem refFeeder_any (S : SiteR) (fv pv : Value) (i : Nat) (w : World) (hF : IsSl w 5 fv (S.F.map Feed.cells)) (hP : IsSl w 5 pv (S.P.map Pnt.cells)) (hi : i < S.F.length) (hl1 : S.F.length ≤ 1000000) (hl2 : S.P.length ≤ 1000000) (hfF : ∀ f ∈ S.F, f.fits) (hfP : ∀ p ∈ S.P, p.fits) :
    Calls Tryd.prog 62 #[.agg #[.string S.name, fv, pv], .int .i64 i] w fun e w' => e = .returned (.int .i64 (feedAt S.F i)) ∧ Below w.heap.size w w' := by
  have HIF := Lib.hid hF
  have HIP := Lib.hid hP
  obtain ⟨A, c, rfl, hlc, hcm, hsl⟩ := islen' hF
  obtain ⟨B, d, rfl, hld, hdm, hsp⟩ := islen' hP
  have HFF := Lib.hid hfF
  have HFP := Lib.hid hfP
  have hki : (i : Int) < (S.F.length : Int) := by omega
  obtain ⟨b, off, rfl, hbb, c0, c1, c2, c3, c4⟩ := feed_at hsl hi
  have hft := hfF _ (List.getElem_mem hi)
  have HFE := Lib.hid (feedAt_eq hi)
  have HKN := Lib.hid (fun (name : ByteArray) (w : World) hF hP hnm => known_any S.name S.F S.P (.slice (some ⟨b, off, none⟩) S.F.length c) (.slice B S.P.length d) i 0 name w hF hP (by omega) (by omega) hl1 hl2 hfF hfP hnm)
  clear hF hP hsl hsp hfF hfP hlc hld hcm hdm
  generalize S.F[i] = x at *
  have hks : keysF (S.F.take i) ++ keysP (S.P.take 0) = keysF (S.F.take i) := by simp [keysP]
  rw [hks] at HKN
  obtain ⟨W2, hW2, hb02, hgx3, hgx2, hx02, hx2⟩ := box2 w #[.string S.name, .slice (some ⟨b, off, none⟩) S.F.length c, .slice B S.P.length d] 30 #[.string x.name, .int .i64 x.parent, .int .i64 x.a, .int .i64 x.b, .int .i64 x.c] 26
  generalize keysF (S.F.take i) = ks at *
  go_enter Tryd.func62, Tryd.ntmps62
  go_wp2_with fail
  rw [← hW2]
  clear hbb c0 c1 c2 c3 c4 hW2
  refine (refIdV_any x.name _ hft).mono ?_
  rintro e w3 ⟨rfl, hd3⟩
  have hb3 := drewN_below hd3
  have hb03 := below_step hb02 hb3
  obtain ⟨hc, hf⟩ := bcell hb3
  cases hv : (!validL x.name.data.toList) with
  | true =>
    have HE : Hid (feedAt S.F i = 4) := by unfold Hid; rw [HFE.out, feed_name (by rw [name_bad hv]; simp), name_bad hv]
    rw [show validL x.name.data.toList = false by simpa using hv]
    go_wp2_with fail
    go_ret
    exact ⟨ret_int (by rw [HE.out]), hb03⟩
  | false =>
  rw [show validL x.name.data.toList = true by simpa using hv]
  go_wp2_with fail
  refine (HKN.out x.name _ (HIF.out.below hb03) (HIP.out.below hb03) hft).mono ?_
  rintro e w4 ⟨rfl, hb4⟩
  have hb24 := below_step hb3 hb4
  have hb04 := below_step hb02 hb24
  clear hc hf
  obtain ⟨hc, hf⟩ := bcell hb24
  cases hk : decide (keyN x.name ∈ ks) with
  | true =>
    have hk' : keyN x.name ∈ ks := by simpa using hk
    have HE : Hid (feedAt S.F i = 9) := by unfold Hid; rw [HFE.out, feed_name (by rw [name_old hv hk']; simp), name_old hv hk']
    go_wp2_with fail
    go_ret
    exact ⟨ret_int (by rw [HE.out]), hb04⟩
  | false =>
    have hk' : ¬ keyN x.name ∈ ks := by simpa using hk
    have h0 := name_new hv hk'
    clear hk hk'
    by_cases hp : x.parent < -1 ∨ (i : Int) ≤ x.parent
    · have HE : Hid (feedAt S.F i = 1) := by unfold Hid; rw [HFE.out, feed_parent h0 hp]
      by_cases hp1 : x.parent < -1
      · skip
        go_wp2_with fail
        go_ret
        exact ⟨ret_int (by rw [HE.out]), hb04⟩
      · have hp2 : (i : Int) ≤ x.parent := by omega
        go_wp2_with fail
        go_ret
        exact ⟨ret_int (by rw [HE.out]), hb04⟩
    · have hp1 : ¬ x.parent < -1 := by omega
      have hp2 : ¬ (i : Int) ≤ x.parent := by omega
      cases hpw : (powB x.a && (powB x.b && powB x.c)) with
      | false =>
        have HE : Hid (feedAt S.F i = 2) := by unfold Hid; rw [HFE.out, feed_power h0 hp hpw]
        unfold powB at hpw
        clear hp
        cases ha : (decide (0 ≤ x.a) && decide (x.a ≤ 1048576)) with
        | false =>
          have hbp := ha
          have hcp := ha
          go_wp2_with (go_at_call 64; refine (in_any _ _ _).mono ?_; rintro e w' ⟨rfl, rfl⟩; (first | rw [ha] | rw [hbp] | rw [hcp]))
          go_ret
          exact ⟨ret_int (by rw [HE.out]), hb04⟩
        | true =>
          cases hbp : (decide (0 ≤ x.b) && decide (x.b ≤ 1048576)) with
          | false =>
            have hcp := hbp
            go_wp2_with (go_at_call 64; refine (in_any _ _ _).mono ?_; rintro e w' ⟨rfl, rfl⟩; (first | rw [ha] | rw [hbp] | rw [hcp]))
            go_ret
            exact ⟨ret_int (by rw [HE.out]), hb04⟩
          | true =>
            cases hcp : (decide (0 ≤ x.c) && decide (x.c ≤ 1048576)) with
            | false =>
              go_wp2_with (go_at_call 64; refine (in_any _ _ _).mono ?_; rintro e w' ⟨rfl, rfl⟩; (first | rw [ha] | rw [hbp] | rw [hcp]))
              go_ret
              exact ⟨ret_int (by rw [HE.out]), hb04⟩
            | true => rw [ha, hbp, hcp] at hpw; simp at hpw
      | true =>
        have HE : Hid (feedAt S.F i = 0) := by unfold Hid; rw [HFE.out, feed_ok h0 hp hpw]
        unfold powB at hpw
        have ha := (Bool.and_eq_true_iff.1 hpw).1
        have hbp := (Bool.and_eq_true_iff.1 (Bool.and_eq_true_iff.1 hpw).2).1
        have hcp := (Bool.and_eq_true_iff.1 (Bool.and_eq_true_iff.1 hpw).2).2
        clear hp hpw
        go_wp2_with (go_at_call 64; refine (in_any _ _ _).mono ?_; rintro e w' ⟨rfl, rfl⟩; (first | rw [ha] | rw [hbp] | rw [hcp]))
        go_ret
        exact ⟨ret_int (by rw [HE.out]), hb04⟩

end Go.Proofs.YtlpjniejbblcnaaDoor

namespace Go.Proofs.YtlpjniejbblcnaaDoor
open Go.RowKit Go.Lib Go.Maps
set_option linter.unusedVariables false

set_option maxRecDepth 100000 in
set_option maxHeartbeats 6400000 in
theorem refPoint_any (S : SiteR) (fv pv : Value) (i : Nat) (w : World) (hF : IsSl w 5 fv (S.F.map Feed.cells)) (hP : IsSl w 5 pv (S.P.map Pnt.cells)) (hi : i < S.P.length) (hl1 : S.F.length ≤ 1000000) (hl2 : S.P.length ≤ 1000000) (hfF : ∀ f ∈ S.F, f.fits) (hfP : ∀ p ∈ S.P, p.fits) :
    Calls Tryd.prog 63 #[.agg #[.string S.name, fv, pv], .int .i64 i] w fun e w' => e = .returned (.int .i64 (pntAt S.F S.P i)) ∧ Below w.heap.size w w' := by
  have HIF := Lib.hid hF
  have HIP := Lib.hid hP
  obtain ⟨A, c, rfl, hlc, hcm, hsl⟩ := islen' hF
  obtain ⟨B, d, rfl, hld, hdm, hsp⟩ := islen' hP
  have hki : (i : Int) < (S.P.length : Int) := by omega
  obtain ⟨b, off, rfl, hbb, c0, c1, c2, c3, c4⟩ := pnt_at hsp hi
  have hft := hfP _ (List.getElem_mem hi)
  have HFE := Lib.hid (pntAt_eq (F := S.F) hi)
  have HKN := Lib.hid (fun (name : ByteArray) (w : World) hF hP hnm => known_any S.name S.F S.P (.slice A S.F.length c) (.slice (some ⟨b, off, none⟩) S.P.length d) S.F.length i name w hF hP (by omega) (by omega) hl1 hl2 hfF hfP hnm)
  clear hF hP hsl hsp hfF hfP hlc hld hcm hdm
  generalize S.P[i] = x at *
  rw [List.take_length] at HKN
  obtain ⟨W2, hW2, hb02, hgx3, hgx2, hx02, hx2⟩ := box2 w #[.string S.name, .slice A S.F.length c, .slice (some ⟨b, off, none⟩) S.P.length d] 30 #[.string x.name, .int .i64 x.feeder, .int .i64 x.phases, .int .i64 x.rated, .int .i64 x.least] 34
  generalize keysF S.F ++ keysP (S.P.take i) = ks at *
  go_enter Tryd.func63, Tryd.ntmps63
  go_wp2_with fail
  rw [← hW2]
  clear hbb c0 c1 c2 c3 c4 hW2
  refine (refIdV_any x.name _ hft).mono ?_
  rintro e w3 ⟨rfl, hd3⟩
  have hb3 := drewN_below hd3
  have hb03 := below_step hb02 hb3
  obtain ⟨hc, hf⟩ := bcell hb3
  cases hv : (!validL x.name.data.toList) with
  | true =>
    have HE : Hid (pntAt S.F S.P i = 4) := by unfold Hid; rw [HFE.out, pnt_name (by rw [name_bad hv]; simp), name_bad hv]
    rw [show validL x.name.data.toList = false by simpa using hv]
    go_wp2_with fail
    go_ret
    exact ⟨ret_int (by rw [HE.out]), hb03⟩
  | false =>
  rw [show validL x.name.data.toList = true by simpa using hv]
  go_wp2_with fail
  refine (HKN.out x.name _ (HIF.out.below hb03) (HIP.out.below hb03) hft).mono ?_
  rintro e w4 ⟨rfl, hb4⟩
  have hb24 := below_step hb3 hb4
  have hb04 := below_step hb02 hb24
  clear hc hf
  obtain ⟨hc, hf⟩ := bcell hb24
  cases hk : decide (keyN x.name ∈ ks) with
  | true =>
    have hk' : keyN x.name ∈ ks := by simpa using hk
    have HE : Hid (pntAt S.F S.P i = 9) := by unfold Hid; rw [HFE.out, pnt_name (by rw [name_old hv hk']; simp), name_old hv hk']
    go_wp2_with fail
    go_ret
    exact ⟨ret_int (by rw [HE.out]), hb04⟩
  | false =>
    have hk' : ¬ keyN x.name ∈ ks := by simpa using hk
    have h0 := name_new hv hk'
    clear hk hk'
    by_cases hp : x.feeder < 0 ∨ (S.F.length : Int) ≤ x.feeder ∨ x.phases < 1 ∨ 7 < x.phases
    · have HE : Hid (pntAt S.F S.P i = 1) := by unfold Hid; rw [HFE.out, pnt_inv h0 hp]
      by_cases hp1 : x.feeder < 0
      · skip
        go_wp2_with fail
        go_ret
        exact ⟨ret_int (by rw [HE.out]), hb04⟩
      · by_cases hp2 : (S.F.length : Int) ≤ x.feeder
        · skip
          go_wp2_with fail
          go_ret
          exact ⟨ret_int (by rw [HE.out]), hb04⟩
        · by_cases hp3 : x.phases < 1
          · skip
            go_wp2_with fail
            go_ret
            exact ⟨ret_int (by rw [HE.out]), hb04⟩
          · have hp4 : 7 < x.phases := by omega
            go_wp2_with fail
            go_ret
            exact ⟨ret_int (by rw [HE.out]), hb04⟩
    · have hp1 : ¬ x.feeder < 0 := by omega
      have hp2 : ¬ (S.F.length : Int) ≤ x.feeder := by omega
      have hp3 : ¬ x.phases < 1 := by omega
      have hp4 : ¬ 7 < x.phases := by omega
      cases ha : (decide (0 ≤ x.rated) && decide (x.rated ≤ 1048576)) with
      | false =>
        have HE : Hid (pntAt S.F S.P i = 2) := by unfold Hid; rw [HFE.out, pnt_range h0 hp (.inl ha)]
        have hbp := ha
        clear hp
        go_wp2_with (go_at_call 64; refine (in_any _ _ _).mono ?_; rintro e w' ⟨rfl, rfl⟩; (first | rw [ha] | rw [hbp]))
        go_ret
        exact ⟨ret_int (by rw [HE.out]), hb04⟩
      | true =>
        cases hbp : (decide (0 ≤ x.least) && decide (x.least ≤ x.rated)) with
        | false =>
          have HE : Hid (pntAt S.F S.P i = 2) := by
            unfold Hid
            rw [HFE.out, pnt_range h0 hp (.inr (by simp at hbp; omega))]
          clear hp
          go_wp2_with (go_at_call 64; refine (in_any _ _ _).mono ?_; rintro e w' ⟨rfl, rfl⟩; (first | rw [ha] | rw [hbp]))
          go_ret
          exact ⟨ret_int (by rw [HE.out]), hb04⟩
        | true =>
          have HE : Hid (pntAt S.F S.P i = 0) := by
            unfold Hid
            have hpr : powB x.rated = true := ha
            have h2 : 0 ≤ x.least ∧ x.least ≤ x.rated := by simpa using hbp
            rw [HFE.out, pnt_ok h0 hp (by rw [hpr]; simp; omega)]
          clear hp
          go_wp2_with (go_at_call 64; refine (in_any _ _ _).mono ?_; rintro e w' ⟨rfl, rfl⟩; (first | rw [ha] | rw [hbp]))
          go_ret
          exact ⟨ret_int (by rw [HE.out]), hb04⟩

end Go.Proofs.YtlpjniejbblcnaaDoor

namespace Go.Proofs.YtlpjniejbblcnaaDoor
open Go.RowKit Go.Lib Go.Maps
set_option linter.unusedVariables false

set_option maxRecDepth 100000 in
set_option maxHeartbeats 6400000 in
theorem refSiteValid_any (S : SiteR) (fv pv : Value) (w : World) (hF : IsSl w 5 fv (S.F.map Feed.cells)) (hP : IsSl w 5 pv (S.P.map Pnt.cells)) (hn : S.name.size ≤ maxLen) (hfF : ∀ f ∈ S.F, f.fits) (hfP : ∀ p ∈ S.P, p.fits) :
    Calls Tryd.prog 48 #[.agg #[.string S.name, fv, pv]] w fun e w' => e = .returned (.int .i64 (siteE S)) ∧ Below w.heap.size w w' := by
  have HIF := Lib.hid hF
  have HIP := Lib.hid hP
  obtain ⟨A, c, rfl, hlc, hcm, hsl⟩ := islen' hF
  obtain ⟨B, d, rfl, hld, hdm, hsp⟩ := islen' hP
  obtain ⟨W0, hW0, hb0, hg0, hx0⟩ := box1 w #[.string S.name, .slice A S.F.length c, .slice B S.P.length d] 30
  have HFF := Lib.hid hfF
  have HFP := Lib.hid hfP
  clear hF hP hsl hsp hfF hfP hlc hld hcm hdm
  cases hv : (!validL S.name.data.toList) with
  | true =>
    have HE := Lib.hid (site_name hv)
    go_enter Tryd.func48, Tryd.ntmps48
    go_wp2_with fail
    rw [← hW0]
    clear hW0
    refine (refIdV_any S.name _ hn).mono ?_
    rintro e w1 ⟨rfl, hd1⟩
    rw [show validL S.name.data.toList = false by simpa using hv]
    go_wp2_with fail
    go_ret
    exact ⟨ret_int (by rw [HE.out]), below_step hb0 (drewN_below hd1)⟩
  | false =>
  have hv' : validL S.name.data.toList = true := by simpa using hv
  by_cases hl : 32 < S.F.length ∨ 32 < S.P.length
  · have HE := Lib.hid (site_limit hv hl)
    by_cases hl1 : 32 < S.F.length
    rotate_left 1
    have hl2 : 32 < S.P.length := by omega
    all_goals
      go_enter Tryd.func48, Tryd.ntmps48
      go_wp2_with fail
      rw [← hW0]
      clear hW0
      refine (refIdV_any S.name _ hn).mono ?_
      rintro e w1 ⟨rfl, hd1⟩
      rw [hv']
      have hb1 := drewN_below hd1
      obtain ⟨hc, hf⟩ := bcell hb1
      go_wp2_with fail
      go_ret
      exact ⟨ret_int (by rw [HE.out]), below_step hb0 hb1⟩
  have hl1 : S.F.length ≤ 32 := by omega
  have hl2 : S.P.length ≤ 32 := by omega
  have HSF := Lib.hid (fun (k : Nat) (hk : k < S.F.length) (h0 : firstE (feedAt S.F) k = 0) (he : feedAt S.F k ≠ 0) => site_feed hv hl hk h0 he)
  have HSQ := Lib.hid (fun (hF : firstE (feedAt S.F) S.F.length = 0) (k : Nat) (hk : k < S.P.length) (h0 : firstE (pntAt S.F S.P) k = 0) (he : pntAt S.F S.P k ≠ 0) => site_pnt hv hl hF hk h0 he)
  have HSO := Lib.hid (fun (hF : firstE (feedAt S.F) S.F.length = 0) (hP : firstE (pntAt S.F S.P) S.P.length = 0) => site_ok hv hl hF hP)
  clear hl hv
  go_enter Tryd.func48, Tryd.ntmps48
  go_wp2_with fail
  rw [← hW0]
  clear hW0
  refine (refIdV_any S.name _ hn).mono ?_
  rintro e w1 ⟨rfl, hd1⟩
  rw [hv']
  have hb1 := drewN_below hd1
  clear hd1
  obtain ⟨hc, hf⟩ := bcell hb1
  go_wp2_with fail
  clear hc hf
  go_loopw [3] (fun i wr => ∃ k : Nat, k ≤ S.F.length ∧ i = .int .i64 k ∧ Below W0.heap.size W0 wr ∧ Hid (firstE (feedAt S.F) k = 0)) (fun i _ => S.F.length - (intOf i).toNat)
  case atStart => exact ⟨0, by omega, rfl, hb1, rfl⟩
  case round =>
    obtain ⟨k, hk, rfl, hbw, HZ⟩ := hrel
    obtain ⟨hc, hf⟩ := bcell hbw
    by_cases hlt : k < S.F.length
    · have hki : (k : Int) < (S.F.length : Int) := by omega
      have hb0w := below_step hb0 hbw
      go_wp2_with fail
      refine (refFeeder_any S _ _ k _ (HIF.out.below hb0w) (HIP.out.below hb0w) hlt (by omega) (by omega) HFF.out HFP.out).mono ?_
      rintro e w3 ⟨rfl, hb3⟩
      have hbw3 := hbw.trans (hb3.mono hbw.size)
      cases hne : (feedAt S.F k != 0) with
      | true =>
        have HE := Lib.hid (HSF.out k hlt HZ.out (by simpa using hne))
        go_wp2_with fail
        go_ret
        exact ⟨ret_int (by rw [HE.out]), below_step hb0 hbw3⟩
      | false =>
        have HZ2 := Lib.hid (firstE_go HZ.out (by simpa using hne))
        go_wp2_with fail
        go_roundw
        case measure => simp [intOf]; omega
        case rel => exact ⟨k + 1, by omega, by go_num, hbw3, HZ2.out⟩
    · have hkF : k = S.F.length := by omega
      subst hkF
      have HQ := Lib.hid (HSQ.out HZ.out)
      have HO := Lib.hid (HSO.out HZ.out)
      clear HSF HSQ HSO
      go_wp2_with fail
      clear hc hf
      go_loopw [5] (fun i wr => ∃ q : Nat, q ≤ S.P.length ∧ i = .int .i64 q ∧ Below W0.heap.size W0 wr ∧ Hid (firstE (pntAt S.F S.P) q = 0)) (fun i _ => S.P.length - (intOf i).toNat)
      case atStart => exact ⟨0, by omega, rfl, hbw, rfl⟩
      case round =>
      clear hbw
      obtain ⟨q, hq, rfl, hbw, HY⟩ := hrel
      obtain ⟨hc, hf⟩ := bcell hbw
      by_cases hlt2 : q < S.P.length
      · have hki : (q : Int) < (S.P.length : Int) := by omega
        have hb0w := below_step hb0 hbw
        go_wp2_with fail
        refine (refPoint_any S _ _ q _ (HIF.out.below hb0w) (HIP.out.below hb0w) hlt2 (by omega) (by omega) HFF.out HFP.out).mono ?_
        rintro e w3 ⟨rfl, hb3⟩
        have hbw3 := hbw.trans (hb3.mono hbw.size)
        cases hne : (pntAt S.F S.P q != 0) with
        | true =>
          have HE := Lib.hid (HQ.out q hlt2 HY.out (by simpa using hne))
          go_wp2_with fail
          go_ret
          exact ⟨ret_int (by rw [HE.out]), below_step hb0 hbw3⟩
        | false =>
          have HY2 := Lib.hid (firstE_go HY.out (by simpa using hne))
          go_wp2_with fail
          go_roundw
          case measure => simp [intOf]; omega
          case rel => exact ⟨q + 1, by omega, by go_num, hbw3, HY2.out⟩
      · have hqP : q = S.P.length := by omega
        subst hqP
        have HE := Lib.hid (HO.out HY.out)
        go_wp2_with fail
        go_ret
        exact ⟨ret_int (by rw [HE.out]), below_step hb0 hbw⟩

end Go.Proofs.YtlpjniejbblcnaaDoor

namespace Go.Proofs.YtlpjniejbblcnaaDoor
set_option linter.unusedVariables false

theorem CapR.ext' {x y : CapR} (h1 : x.a = y.a) (h2 : x.b = y.b) (h3 : x.c = y.c) (h4 : x.t = y.t) : x = y := by
  cases x; cases y; simp_all

def zeroC : CapR := ⟨0, 0, 0, 0⟩
/-- a power on some phases, added -/
def addC (c : CapR) (ph p : Int) : CapR := ⟨c.a + p * (ph % 2), c.b + p * (ph / 2 % 2), c.c + p * (ph / 4 % 2), c.t + p * (ph % 2 + ph / 2 % 2 + ph / 4 % 2)⟩
def plusC (x y : CapR) : CapR := ⟨x.a + y.a, x.b + y.b, x.c + y.c, x.t + y.t⟩
theorem plusC_comm (x y : CapR) : plusC x y = plusC y x := by apply CapR.ext' <;> simp only [plusC] <;> omega
theorem plusC_assoc (x y z : CapR) : plusC (plusC x y) z = plusC x (plusC y z) := by apply CapR.ext' <;> simp only [plusC] <;> omega
theorem zero_plusC (x : CapR) : plusC zeroC x = x := by apply CapR.ext' <;> simp only [plusC, zeroC] <;> omega
theorem addC_plus (c : CapR) (ph p : Int) : addC c ph p = plusC c (addC zeroC ph p) := by apply CapR.ext' <;> simp only [plusC, addC, zeroC] <;> omega

/-- the feeders that a want loads -/
def wantPath (F : List Feed) (P : List Pnt) (x : WantR) : List Nat := match P[x.point.toNat]? with
  | some p => pathL F F.length p.feeder
  | none => []
theorem wantPath_eq {F : List Feed} {P : List Pnt} {x : WantR} {k : Nat} (h : k < P.length) (e : x.point = k) : wantPath F P x = pathL F F.length P[k].feeder := by
  unfold wantPath
  rw [e, Int.toNat_natCast, List.getElem?_eq_getElem h]
def addPath (L : List CapR) (path : List Nat) (ph p : Int) : List CapR := path.foldl (fun L f => L.modify f (fun c => addC c ph p)) L
def loadW (F : List Feed) (P : List Pnt) (L : List CapR) (x : WantR × Int) : List CapR := addPath L (wantPath F P x.1) x.1.phases x.2
def loadL (F : List Feed) (P : List Pnt) (l : List (WantR × Int)) : List CapR := l.foldl (loadW F P) (List.replicate F.length zeroC)
def ctr (F : List Feed) (P : List Pnt) (f : Nat) (x : WantR × Int) : CapR := if f ∈ wantPath F P x.1 then addC zeroC x.1.phases x.2 else zeroC
def capAt (F : List Feed) (P : List Pnt) (f : Nat) (l : List (WantR × Int)) : CapR := l.foldl (fun c x => plusC c (ctr F P f x)) zeroC

theorem addPath_len (path : List Nat) (ph p : Int) : ∀ L : List CapR, (addPath L path ph p).length = L.length := by
  induction path with
  | nil => intro L; rfl
  | cons f l ih => intro L; unfold addPath at *; rw [List.foldl_cons, ih, List.length_modify]
theorem loadL_len (F : List Feed) (P : List Pnt) (l : List (WantR × Int)) : (loadL F P l).length = F.length := by
  unfold loadL
  suffices h : ∀ L : List CapR, (l.foldl (loadW F P) L).length = L.length by rw [h]; simp
  induction l with
  | nil => intro L; rfl
  | cons x l ih => intro L; rw [List.foldl_cons, ih]; exact addPath_len _ _ _ _
theorem loadL_snoc (F : List Feed) (P : List Pnt) (l : List (WantR × Int)) (x : WantR × Int) : loadL F P (l ++ [x]) = addPath (loadL F P l) (wantPath F P x.1) x.1.phases x.2 := by
  unfold loadL; rw [List.foldl_append]; rfl

theorem pathL_desc {F : List Feed} {last : Nat} {i : Int} : (pathL F last i).Pairwise (fun a b => b < a) := by
  induction last using Nat.strongRecOn generalizing i with
  | _ last ih =>
    rw [pathL]
    split
    · rename_i h
      rw [List.pairwise_cons]
      exact ⟨fun x hx => pathL_lt x hx, ih _ (by omega)⟩
    · exact List.Pairwise.nil
theorem wantPath_desc (F : List Feed) (P : List Pnt) (x : WantR) : (wantPath F P x).Pairwise (fun a b => b < a) := by
  unfold wantPath
  split
  · exact pathL_desc
  · exact List.Pairwise.nil
theorem wantPath_lt {F : List Feed} {P : List Pnt} {x : WantR} : ∀ f ∈ wantPath F P x, f < F.length := by
  unfold wantPath
  split
  · exact pathL_lt
  · intro f hf; simp at hf

theorem addPath_get {path : List Nat} (hd : path.Pairwise (fun a b => b < a)) (ph p : Int) (f : Nat) : ∀ L : List CapR, (addPath L path ph p)[f]? = if f ∈ path then L[f]?.map (fun c => addC c ph p) else L[f]? := by
  induction path with
  | nil => intro L; simp [addPath]
  | cons g l ih =>
    intro L
    rw [List.pairwise_cons] at hd
    have h := ih hd.2 (L.modify g (fun c => addC c ph p))
    have e : addPath L (g :: l) ph p = addPath (L.modify g (fun c => addC c ph p)) l ph p := rfl
    rw [e, h]
    by_cases hg : f = g
    · subst hg
      have hn : f ∉ l := fun hh => by have := hd.1 f hh; omega
      rw [if_neg hn, if_pos (by simp), List.getElem?_modify]
      simp
    · rw [List.getElem?_modify]
      have : ¬ g = f := fun e => hg e.symm
      by_cases hl : f ∈ l
      · rw [if_pos hl, if_pos (by simp [hl])]; simp [this]
      · rw [if_neg hl, if_neg (by simp [hl, hg])]; simp [this]

theorem addPath_step {F : List Feed} {L : List CapR} {f : Nat} {c : CapR} (h : L[f]? = some c) (ph p : Int) : L.modify f (fun c => addC c ph p) = L.set f (addC c ph p) := by
  apply List.ext_getElem?
  intro j
  rw [List.getElem?_modify, List.getElem?_set]
  have hl : f < L.length := (List.getElem?_eq_some_iff.1 h).1
  by_cases hj : f = j
  · subst hj
    have h2 := (List.getElem?_eq_some_iff.1 h).2
    simp [hl, h2]
  · simp [hj]

theorem loadL_get {F : List Feed} {P : List Pnt} {f : Nat} (hf : f < F.length) (l : List (WantR × Int)) : (loadL F P l)[f]? = some (capAt F P f l) := by
  unfold loadL capAt
  suffices h : ∀ (l : List (WantR × Int)) (L : List CapR) (c : CapR), L[f]? = some c → (l.foldl (loadW F P) L)[f]? = some (l.foldl (fun c x => plusC c (ctr F P f x)) c) by
    exact h l _ _ (by simp [hf])
  intro l
  induction l with
  | nil => intro L c h; exact h
  | cons x l ih =>
    intro L c h
    rw [List.foldl_cons, List.foldl_cons]
    refine ih _ _ ?_
    unfold loadW
    rw [addPath_get (wantPath_desc F P x.1), h]
    unfold ctr
    by_cases hm : f ∈ wantPath F P x.1
    · rw [if_pos hm, if_pos hm, ← addC_plus]; rfl
    · rw [if_neg hm, if_neg hm, plusC_comm, zero_plusC]

theorem capAt_from (F : List Feed) (P : List Pnt) (f : Nat) (l : List (WantR × Int)) : ∀ c : CapR, l.foldl (fun c x => plusC c (ctr F P f x)) c = plusC c (capAt F P f l) := by
  induction l with
  | nil => intro c; unfold capAt; rw [plusC_comm]; simp only [List.foldl_nil]; rw [zero_plusC]
  | cons x l ih =>
    intro c
    unfold capAt
    rw [List.foldl_cons, List.foldl_cons, ih, ih, zero_plusC, plusC_assoc]
theorem capAt_append (F : List Feed) (P : List Pnt) (f : Nat) (l m : List (WantR × Int)) : capAt F P f (l ++ m) = plusC (capAt F P f l) (capAt F P f m) := by
  show (l ++ m).foldl _ zeroC = _
  rw [List.foldl_append, capAt_from]; rfl
theorem capAt_cons (F : List Feed) (P : List Pnt) (f : Nat) (x : WantR × Int) (m : List (WantR × Int)) : capAt F P f (x :: m) = plusC (ctr F P f x) (capAt F P f m) := by
  show (x :: m).foldl _ zeroC = _
  rw [List.foldl_cons, capAt_from, zero_plusC]
theorem loadL_turn (F : List Feed) (P : List Pnt) (l m : List (WantR × Int)) : loadL F P (l ++ m) = loadL F P (m ++ l) := by
  apply List.ext_getElem?
  intro j
  by_cases hj : j < F.length
  · rw [loadL_get hj, loadL_get hj, capAt_append, capAt_append, plusC_comm]
  · rw [List.getElem?_eq_none (by rw [loadL_len]; omega), List.getElem?_eq_none (by rw [loadL_len]; omega)]

/-- a want and its power that are right -/
def maskB (a b : Int) : Bool := decide (bits .andNot .i64 a b = 0)
def wantB (P : List Pnt) (x : WantR × Int) : Bool := match P[x.1.point.toNat]? with
  | some p => decide (0 ≤ x.1.point) && (decide (1 ≤ x.1.phases) && (decide (x.1.phases ≤ 7) && (maskB x.1.phases p.phases && powB x.2)))
  | none => false
structure Right (P : List Pnt) (x : WantR × Int) : Prop where
  p0 : 0 ≤ x.1.point
  p1 : x.1.point.toNat < P.length
  h1 : 1 ≤ x.1.phases
  h7 : x.1.phases ≤ 7
  mask : maskB x.1.phases P[x.1.point.toNat].phases = true
  w0 : 0 ≤ x.2
  w1 : x.2 ≤ 1048576
theorem wantB_iff {P : List Pnt} {x : WantR × Int} : wantB P x = true ↔ Right P x := by
  unfold wantB
  by_cases h : x.1.point.toNat < P.length
  · rw [List.getElem?_eq_getElem h]
    simp only [powB, Bool.and_eq_true, decide_eq_true_eq]
    exact ⟨fun ⟨a, b, c, d, e, f⟩ => ⟨a, h, b, c, d, e, f⟩, fun ⟨a, _, b, c, d, e, f⟩ => ⟨a, b, c, d, e, f⟩⟩
  · rw [List.getElem?_eq_none (by omega)]
    exact ⟨fun h => by simp at h, fun h' => absurd h'.p1 h⟩

theorem bit_01 (x : Int) : 0 ≤ x % 2 ∧ x % 2 ≤ 1 := by omega
theorem addC_bd {ph p : Int} (h0 : 0 ≤ p) (h1 : p ≤ 1048576) : 0 ≤ (addC zeroC ph p).a ∧ (addC zeroC ph p).a ≤ 1048576 ∧ 0 ≤ (addC zeroC ph p).b ∧ (addC zeroC ph p).b ≤ 1048576 ∧ 0 ≤ (addC zeroC ph p).c ∧ (addC zeroC ph p).c ≤ 1048576 ∧ (addC zeroC ph p).t = (addC zeroC ph p).a + (addC zeroC ph p).b + (addC zeroC ph p).c := by
  have e : ∀ b : Int, b % 2 = 0 ∨ b % 2 = 1 := by omega
  simp only [addC, zeroC]
  rcases e ph with h | h <;> rcases e (ph / 2) with h' | h' <;> rcases e (ph / 4) with h'' | h'' <;> rw [h, h', h''] <;> omega

/-- the bounds on what n right wants load -/
structure CapOk (n : Int) (c : CapR) : Prop where
  a0 : 0 ≤ c.a
  a1 : c.a ≤ n
  b0 : 0 ≤ c.b
  b1 : c.b ≤ n
  c0 : 0 ≤ c.c
  c1 : c.c ≤ n
  t : c.t = c.a + c.b + c.c
theorem CapOk.zero : CapOk 0 zeroC := ⟨by decide, by decide, by decide, by decide, by decide, by decide, by decide⟩
theorem CapOk.mono {n m : Int} {c : CapR} (h : CapOk n c) (hm : n ≤ m) : CapOk m c := ⟨h.a0, Int.le_trans h.a1 hm, h.b0, Int.le_trans h.b1 hm, h.c0, Int.le_trans h.c1 hm, h.t⟩
theorem CapOk.plus {n m : Int} {c d : CapR} (h : CapOk n c) (h' : CapOk m d) : CapOk (n + m) (plusC c d) := by
  obtain ⟨a, b, c1, d1, e, f, g⟩ := h
  obtain ⟨a', b', c1', d1', e', f', g'⟩ := h'
  constructor <;> simp only [plusC] <;> omega
theorem CapOk.ctr {F : List Feed} {P : List Pnt} {f : Nat} {x : WantR × Int} (h0 : 0 ≤ x.2) (h1 : x.2 ≤ 1048576) : CapOk 1048576 (ctr F P f x) := by
  unfold Go.Proofs.YtlpjniejbblcnaaDoor.ctr
  split
  · obtain ⟨a, b, c, d, e, g, t⟩ := addC_bd (ph := x.1.phases) h0 h1
    exact ⟨a, b, c, d, e, g, t⟩
  · exact CapOk.zero.mono (by decide)
theorem capAt_ok {F : List Feed} {P : List Pnt} {f : Nat} {l : List (WantR × Int)} (h : ∀ x ∈ l, 0 ≤ x.2 ∧ x.2 ≤ 1048576) : CapOk (l.length * 1048576) (capAt F P f l) := by
  induction l with
  | nil => exact CapOk.zero
  | cons x l ih =>
    rw [capAt_cons]
    have hx := h x (by simp)
    refine ((CapOk.ctr (F := F) (P := P) (f := f) hx.1 hx.2).plus (ih (fun y hy => h y (by simp [hy])))).mono ?_
    rw [List.length_cons]
    omega

/-- the error of a load -/
def loadE (S : SiteR) (W : List WantR) (pw : List Int) : Int :=
  if siteE S ≠ 0 then siteE S else if W.length ≠ pw.length then 1 else if (W.zip pw).all (wantB S.P) = true then 0 else 1
theorem loadE_site {S : SiteR} {W : List WantR} {pw : List Int} (h : siteE S ≠ 0) : loadE S W pw = siteE S := by unfold loadE; rw [if_pos h]
theorem loadE_len {S : SiteR} {W : List WantR} {pw : List Int} (h : siteE S = 0) (hl : W.length ≠ pw.length) : loadE S W pw = 1 := by unfold loadE; rw [if_neg (by simp [h]), if_pos hl]
theorem loadE_bad {S : SiteR} {W : List WantR} {pw : List Int} (h : siteE S = 0) (hl : W.length = pw.length) (hb : (W.zip pw).all (wantB S.P) = false) : loadE S W pw = 1 := by unfold loadE; rw [if_neg (by simp [h]), if_neg (by simp [hl]), hb]; rfl
theorem loadE_ok {S : SiteR} {W : List WantR} {pw : List Int} (h : siteE S = 0) (hl : W.length = pw.length) (hb : (W.zip pw).all (wantB S.P) = true) : loadE S W pw = 0 := by unfold loadE; rw [if_neg (by simp [h]), if_neg (by simp [hl]), hb]; rfl
theorem loadE_zero {S : SiteR} {W : List WantR} {pw : List Int} (h : loadE S W pw = 0) : siteE S = 0 ∧ W.length = pw.length ∧ (W.zip pw).all (wantB S.P) = true := by
  unfold loadE at h
  split at h
  · rename_i h1; exact absurd h h1
  · rename_i h1
    split at h
    · simp at h
    · rename_i h2
      split at h
      · rename_i h3; exact ⟨by simpa using h1, by simpa using h2, h3⟩
      · simp at h
/-- the loads that a call hands back -/
def loadsOf (S : SiteR) (W : List WantR) (pw : List Int) : List CapR := if loadE S W pw = 0 then loadL S.F S.P (W.zip pw) else []
theorem loadsOf_ok {S : SiteR} {W : List WantR} {pw : List Int} (h : loadE S W pw = 0) : loadsOf S W pw = loadL S.F S.P (W.zip pw) := by unfold loadsOf; rw [if_pos h]
theorem loadsOf_no {S : SiteR} {W : List WantR} {pw : List Int} (h : loadE S W pw ≠ 0) : loadsOf S W pw = [] := by unfold loadsOf; rw [if_neg h]

/-- what Fits reports -/
def highB (P : List Pnt) (x : WantR × Int) : Bool := match P[x.1.point.toNat]? with
  | some p => decide (x.1.top < x.2) || decide (p.rated < x.2)
  | none => false
def fitsB (S : SiteR) (C : List CapR) (W : List WantR) (pw : List Int) : Bool :=
  decide (loadE S W pw = 0) && (decide (C.length = S.F.length) && (decide ((overL C (loadsOf S W pw)).length = 0) && !(W.zip pw).any (highB S.P)))

end Go.Proofs.YtlpjniejbblcnaaDoor

namespace Go.Proofs.YtlpjniejbblcnaaDoor
open Go.RowKit Go.Lib Go.Maps
set_option linter.unusedVariables false

theorem intInfo : (Tryd.prog.info? 3).map (fun i => (i.zero, i.size, i.bytes)) = some (some (.int .i64 0), 1, 8) := by kernel_rfl

def encN (k : Nat) : List Value := [.int .i64 (k : Int)]
def encZ (z : Int) : List Value := [.int .i64 z]
theorem encN_len (k : Nat) : (encN k).length = 1 := rfl
theorem encZ_len (z : Int) : (encZ z).length = 1 := rfl
def sliceLen : Value → Nat
  | .slice _ n _ => n
  | _ => 0

section
variable {w : World} {base n size : Nat} {e : TypeId} {v : Value} {xs : List Value}
theorem own_shape (h : w.ownsRow base e size v n xs) : ∃ A cap, v = .slice A n cap := by
  rcases h.2 with ⟨rfl, hx⟩ | ⟨g, cap, cur, rfl, _⟩
  · exact ⟨none, 0, by rw [hx]⟩
  · exact ⟨_, _, rfl⟩
theorem own_len (h : w.ownsRow base e size v n xs) : sliceLen v = n := by
  obtain ⟨A, cap, rfl⟩ := own_shape h; rfl
theorem own_split (h : w.ownsRow base e size v n xs) (hn : 0 < n) : ∃ g cap, v = .slice (some ⟨g, 0, none⟩) n cap ∧ base ≤ g ∧ g < w.heap.size ∧ n ≤ cap ∧ cap ≤ maxLen ∧ ∀ j u, xs[j]? = some u → w.cell? ⟨g, j, none⟩ = some u := by
  have h0 := h
  rcases h.2 with ⟨rfl, hx⟩ | ⟨g, cap, cur, rfl, hg, hh, hnc, hcm, hsz, htake⟩
  · omega
  · refine ⟨g, cap, rfl, hg, (Array.getElem?_eq_some_iff.1 hh).1, hnc, hcm, fun j u hj => ?_⟩
    have hx := h0.cells (g := g) rfl j u hj
    have ea : ((⟨g, 0, none⟩ : Addr).add j) = ⟨g, j, none⟩ := by
      unfold Addr.add
      split
      · first | (simp; done) | (simp; omega)
      · simp
    rw [ea] at hx
    exact hx
end

/-- v lies in no memory of w -/
def Fresh (w : World) (v : Value) : Prop := ∀ b off n c, v = .slice (some ⟨b, off, none⟩) n c → w.heap.size ≤ b
theorem fresh_own {w wr : World} {base n size : Nat} {e : TypeId} {v : Value} {xs : List Value} (h : wr.ownsRow base e size v n xs) (hb : w.heap.size ≤ base) : Fresh w v := by
  intro b off m c hv
  rcases h.2 with ⟨rfl, hx⟩ | ⟨g, cap, cur, rfl, hg, _⟩
  · cases hv
  · injection hv with h1 _ _
    injection h1 with h1
    injection h1 with h1 _ _
    omega

theorem int_at {w : World} {A : Option Addr} {l : List Int} (h : SlAt w 1 A (l.map encZ)) {k : Nat} (hk : k < l.length) :
    ∃ b off, A = some ⟨b, off, none⟩ ∧ b < w.heap.size ∧ w.cell? ⟨b, off + k, none⟩ = some (.int .i64 l[k]) := by
  obtain ⟨b, off, e, hb, hc⟩ := h k (encZ l[k]) (by rw [List.getElem?_map, List.getElem?_eq_getElem hk]; rfl)
  refine ⟨b, off, e, hb, ?_⟩
  have := hc 0 _ rfl
  simpa using this


end Go.Proofs.YtlpjniejbblcnaaDoor
