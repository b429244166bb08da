/-
  Plain facts: capitals and small letters of ASCII text.
  strings.ToUpper and strings.ToLower of ASCII text.
  Walks: the leaves of package site: powers, feeders, names that are taken.
  Walks: Valid of package site.
  Walks: Valid of package limits.
-/
import Derived.Test.YtmappmeojmdekaaGreatDoorM3
import Derived.Lib.Case
import Derived.Test.YtmappmeojmdekaaGreatDoorShelf
import Derived.Test.YtmappmeojmdekaaGreatDoorM11
import Derived.Test.YtmappmeojmdekaaGreatDoorM4
import Derived.Test.YtmappmeojmdekaaGreatDoorM5
import Derived.Deep.AppendLies

namespace Go.Proofs.YtmappmeojmdekaaGreatDoor
set_option linter.unusedVariables false

def asciiL (l : List UInt8) : Bool := l.all (fun b => decide (b.toNat < 128))
theorem ascii_at {s : ByteArray} (h : asciiL s.data.toList = true) : ∀ (j : Nat) (b : UInt8), s.data.toList[j]? = some b → b.toNat < 128 := fun j b hb => by
  have := List.all_eq_true.1 h b (List.mem_of_getElem? hb)
  simpa using this

theorem okC_ascii {b : UInt8} (h : okC b.toNat = true) : b.toNat < 128 := by
  rcases Nat.lt_or_ge b.toNat 123 with h1 | h1
  · omega
  · rw [okC_high _ (by omega)] at h; simp at h
theorem valid_asc {l : List UInt8} (h : validL l = true) : asciiL l = true := by
  unfold validL at h
  simp only [Bool.and_eq_true] at h
  unfold asciiL
  rw [List.all_eq_true] at *
  intro b hb
  simpa using okC_ascii (h.2 b hb)

theorem upperB_capU (b : UInt8) : Lib.upperB b = capU b := by
  unfold Lib.upperB Lib.isLowerB capU
  by_cases h : 97 ≤ b.toNat ∧ b.toNat ≤ 122
  · rw [if_pos h, if_pos]
    simp only [Bool.and_eq_true, decide_eq_true_eq, UInt8.le_iff_toNat_le]
    exact h
  · rw [if_neg h, if_neg]
    simp only [Bool.and_eq_true, decide_eq_true_eq, UInt8.le_iff_toNat_le]
    exact h
theorem upper_cap (l : List UInt8) : Lib.toUpperA l = capL l := by
  unfold Lib.toUpperA capL
  exact List.map_congr_left (fun b _ => upperB_capU b)
theorem cap_lower (b : UInt8) : capU (Lib.lowerB b) = capU b := by
  unfold Lib.lowerB Lib.isUpperB
  split
  · rename_i h
    simp only [Bool.and_eq_true, decide_eq_true_eq, UInt8.le_iff_toNat_le] at h
    have h65 : (65 : UInt8).toNat = 65 := rfl
    have h90 : (90 : UInt8).toNat = 90 := rfl
    have h32 : (32 : UInt8).toNat = 32 := rfl
    have e : (b + 32).toNat = b.toNat + 32 := by rw [UInt8.toNat_add]; omega
    unfold capU
    rw [if_pos (by omega), if_neg (by omega)]
    apply UInt8.toNat_inj.1
    rw [UInt8.toNat_sub_of_le _ _ (by rw [UInt8.le_iff_toNat_le]; omega)]
    omega
  · rfl
theorem cap_lowers (l : List UInt8) : capL (Lib.toLowerA l) = capL l := by
  unfold Lib.toLowerA capL
  rw [List.map_map]
  exact List.map_congr_left (fun b _ => cap_lower b)
theorem capU_ascii {b : UInt8} (h : (capU b).toNat < 128) : b.toNat < 128 := by
  unfold capU at h
  split at h
  · omega
  · exact h
theorem capU_asc {b : UInt8} (h : b.toNat < 128) : (capU b).toNat < 128 := by
  unfold capU
  split
  · rw [UInt8.toNat_sub_of_le _ _ (by rw [UInt8.le_iff_toNat_le]; have : (32 : UInt8).toNat = 32 := rfl; omega)]; omega
  · exact h
theorem cap_ascii {a b : List UInt8} (h : capL a = capL b) (hb : asciiL b = true) : asciiL a = true := by
  unfold asciiL at *
  rw [List.all_eq_true] at *
  intro x hx
  have hm : capU x ∈ capL b := by rw [← h]; exact List.mem_map.2 ⟨x, hx, rfl⟩
  obtain ⟨y, hy, hxy⟩ := List.mem_map.1 hm
  have := hb y hy
  simp only [decide_eq_true_eq] at *
  exact capU_ascii (hxy ▸ capU_asc this)

def lowS (s : ByteArray) : ByteArray := ⟨(Lib.toLowerA s.data.toList).toArray⟩
theorem lowS_data (s : ByteArray) : (lowS s).data.toList = Lib.toLowerA s.data.toList := by simp [lowS]
theorem cap_low (s : ByteArray) : capL (lowS s).data.toList = capL s.data.toList := by rw [lowS_data, cap_lowers]
theorem valI_ascii {b : UInt8} (h : 0 ≤ valI (b.toNat : Int)) : b.toNat < 128 := by
  rcases Nat.lt_or_ge b.toNat 123 with h1 | h1
  · omega
  · rw [valI_high _ (by omega)] at h; omega
theorem alnum_ascii {l : List UInt8} {n k : Int} (h : alnumL l n k = true) (hk : 0 ≤ k) : asciiL l = true := by
  unfold alnumL at h
  unfold asciiL
  simp only [Bool.and_eq_true, decide_eq_true_eq, List.all_eq_true] at h ⊢
  intro b hb
  exact valI_ascii (Int.le_trans hk (h.2 b hb))

end Go.Proofs.YtmappmeojmdekaaGreatDoor

namespace Go.Proofs.YtmappmeojmdekaaGreatDoor
open Go.RowKit Go.Lib
set_option linter.unusedVariables false

theorem upperA_any (s : ByteArray) (w : World) (hs : s.size ≤ 4096) (ha : asciiL s.data.toList = true) :
    Calls Tryz.prog 66 #[.string s] w fun e w' => e = .returned (.string (capS s)) ∧ Below w.heap.size w w' := by
  have h := Tryz.strings_ToUpper_ascii s w (by omega) (ascii_at ha)
  rw [upper_cap] at h
  exact h

end Go.Proofs.YtmappmeojmdekaaGreatDoor

namespace Go.Proofs.YtmappmeojmdekaaGreatDoor
open Go.RowKit Go.Lib Go.Maps
set_option linter.unusedVariables false

theorem isPower_any (n : Int) (w : World) :
    Calls Tryz.prog 45 #[.int .i64 n] w fun e w' => e = .returned (.bool (powB n)) ∧ w = w' := by
  by_cases h0 : 0 ≤ n <;> by_cases h1 : n ≤ 1048576
  all_goals go_enter Tryz.func45, Tryz.ntmps45
  all_goals go_wp2
  all_goals go_ret
  all_goals exact ⟨ret_bool (by simp [powB, h0, h1]), rfl⟩

theorem in_any (x n : Int) (w : World) :
    Calls Tryz.prog 69 #[.int .i64 x, .int .i64 n] w fun e w' => e = .returned (.bool (decide (0 ≤ x) && decide (x ≤ n))) ∧ w = w' := by
  by_cases h0 : 0 ≤ x <;> by_cases h1 : x ≤ n
  all_goals go_enter Tryz.func69, Tryz.ntmps69
  all_goals go_wp2
  all_goals go_ret
  all_goals exact ⟨ret_bool (by simp [h0, h1]), rfl⟩

/-- the map of the names that are taken -/
def Names (w : World) (b : Nat) (ns : List (List UInt8)) : Prop := Taken Tryz.prog 9 4 w b ns
theorem zeroBool (w : World) : (zeroValue 4).run Tryz.prog w = .ok (.bool false) w := by kernel_rfl

theorem name_bad {ns : List (List UInt8)} {s : ByteArray} (h : (!validL s.data.toList) = true) : nameE ns s = 4 := by simp [nameE, h]
theorem name_old {ns : List (List UInt8)} {s : ByteArray} (h : (!validL s.data.toList) = false) (h2 : keyN s ∈ ns) : nameE ns s = 9 := by simp only [nameE, h]; simp [h2]
theorem name_new {ns : List (List UInt8)} {s : ByteArray} (h : (!validL s.data.toList) = false) (h2 : ¬ keyN s ∈ ns) : nameE ns s = 0 := by simp only [nameE, h]; simp [h2]
theorem key_cap (s : ByteArray) : (capS s).data.toList = keyN s := by simp [capS, keyN]
theorem cap_sizeN (s : ByteArray) : (capS s).size = s.size := by
  have h := congrArg List.length (key_cap s)
  simp [keyN, capL] at h
  exact h
theorem valid_len {s : ByteArray} (h : validL s.data.toList = true) : s.size ≤ 36 := by
  unfold validL at h
  simp only [Bool.and_eq_true, decide_eq_true_eq] at h
  simpa using h.1.2

set_option maxRecDepth 100000 in
set_option maxHeartbeats 1600000 in
theorem enter_any (b : Nat) (ns : List (List UInt8)) (s : ByteArray) (w : World) (hs : s.size ≤ maxLen) (hT : Names w b ns) (hn : ns.length ≤ 1000000) :
    Calls Tryz.prog 44 #[.map (some b), .string s] w
      fun e w' => e = .returned (.int .i64 (nameE ns s)) ∧ w.grownBy w' (some b) ∧ (nameE ns s = 0 → Names w' b (keyN s :: ns)) := by
  cases hv : (!validL s.data.toList) with
  | true =>
    have HE := Lib.hid (name_bad (ns := ns) hv)
    go_enter Tryz.func44, Tryz.ntmps44
    go_wp2_with fail
    refine (valid_any s _ hs).mono ?_
    rintro e w1 ⟨rfl, hb1⟩
    rw [show validL s.data.toList = false by simpa using hv]
    go_wp2_with fail
    go_ret
    exact ⟨ret_int (by rw [HE.out]), grown_of_below hb1 _, fun h => by rw [HE.out] at h; simp at h⟩
  | false =>
    have hv' : validL s.data.toList = true := by simpa using hv
    have hl := valid_len hv'
    have ha := valid_asc hv'
    by_cases hm : keyN s ∈ ns
    · have HE := Lib.hid (name_old hv hm)
      have hdm : decide ((capS s).data.toList ∈ ns) = true := by rw [key_cap]; simpa using hm
      go_enter Tryz.func44, Tryz.ntmps44
      go_wp2_with fail
      refine (valid_any s _ hs).mono ?_
      rintro e w1 ⟨rfl, hb1⟩
      rw [hv']
      go_wp2_with fail
      refine (upperA_any s _ (by omega) ha).mono ?_
      rintro e w2 ⟨rfl, hb2⟩
      have hT2 : Names w2 b ns := (hT.below hb1).below hb2
      go_wp2_with (at_lookup; refine wpList_lookup_taken _ rfl _ _ 78 rfl 9 4 Tryz.underlying9 Tryz.underlying78 Tryz.underlying4 zeroBool b ns rfl hT2 (capS s) rfl (by rw [cap_sizeN]; unfold maxLen; omega) ?_; rw [hdm])
      go_ret
      exact ⟨ret_int (by rw [HE.out]), (grown_of_below hb1 _).trans (grown_of_below hb2 _), fun h => by rw [HE.out] at h; simp at h⟩
    · have HE := Lib.hid (name_new hv hm)
      have hdm : decide ((capS s).data.toList ∈ ns) = false := by rw [key_cap]; simpa using hm
      go_enter Tryz.func44, Tryz.ntmps44
      go_wp2_with fail
      refine (valid_any s _ hs).mono ?_
      rintro e w1 ⟨rfl, hb1⟩
      rw [hv']
      go_wp2_with fail
      refine (upperA_any s _ (by omega) ha).mono ?_
      rintro e w2 ⟨rfl, hb2⟩
      have hT2 : Names w2 b ns := (hT.below hb1).below hb2
      have hg2 := (grown_of_below hb1 (some b)).trans (grown_of_below hb2 _)
      go_wp2_with (first
        | (at_lookup; refine wpList_lookup_taken _ rfl _ _ 78 rfl 9 4 Tryz.underlying9 Tryz.underlying78 Tryz.underlying4 zeroBool b ns rfl hT2 (capS s) rfl (by rw [cap_sizeN]; unfold maxLen; omega) ?_; rw [hdm])
        | (at_mapUpdate; refine wpList_update_taken _ rfl _ _ _ 78 rfl 9 4 Tryz.underlying9 Tryz.underlying78 Tryz.underlying4 b ns rfl hT2 (by unfold maxLen; omega) (capS s) rfl (by rw [cap_sizeN]; unfold maxLen; omega) rfl ?_; intro w3 hT3 hg3))
      go_ret
      exact ⟨ret_int (by rw [HE.out]), hg2.trans hg3, fun _ => by rw [← key_cap]; exact hT3⟩

end Go.Proofs.YtmappmeojmdekaaGreatDoor

namespace Go.Proofs.YtmappmeojmdekaaGreatDoor
open Go.RowKit Go.Lib Go.Maps
set_option linter.unusedVariables false

theorem feed_at {w : World} {A : Option Addr} {l : List Feed} (h : SlAt w 5 A (l.map Feed.cells)) {k : Nat} (hk : k < l.length) :
    ∃ b off, A = some ⟨b, off, none⟩ ∧ b < w.heap.size ∧ w.cell? ⟨b, off + k * 5, none⟩ = some (.string l[k].name) ∧ w.cell? ⟨b, off + k * 5 + 1, none⟩ = some (.int .i64 l[k].parent) ∧ w.cell? ⟨b, off + k * 5 + 2, none⟩ = some (.int .i64 l[k].a) ∧
      w.cell? ⟨b, off + k * 5 + 3, none⟩ = some (.int .i64 l[k].b) ∧ w.cell? ⟨b, off + k * 5 + 4, none⟩ = some (.int .i64 l[k].c) := by
  obtain ⟨b, off, e, hb, hc⟩ := h k l[k].cells (by rw [List.getElem?_map, List.getElem?_eq_getElem hk]; rfl)
  exact ⟨b, off, e, hb, hc 0 _ rfl, hc 1 _ rfl, hc 2 _ rfl, hc 3 _ rfl, hc 4 _ rfl⟩
theorem pnt_at {w : World} {A : Option Addr} {l : List Pnt} (h : SlAt w 5 A (l.map Pnt.cells)) {k : Nat} (hk : k < l.length) :
    ∃ b off, A = some ⟨b, off, none⟩ ∧ b < w.heap.size ∧ w.cell? ⟨b, off + k * 5, none⟩ = some (.string l[k].name) ∧ w.cell? ⟨b, off + k * 5 + 1, none⟩ = some (.int .i64 l[k].feeder) ∧ w.cell? ⟨b, off + k * 5 + 2, none⟩ = some (.int .i64 l[k].phases) ∧
      w.cell? ⟨b, off + k * 5 + 3, none⟩ = some (.int .i64 l[k].rated) ∧ w.cell? ⟨b, off + k * 5 + 4, none⟩ = some (.int .i64 l[k].least) := by
  obtain ⟨b, off, e, hb, hc⟩ := h k l[k].cells (by rw [List.getElem?_map, List.getElem?_eq_getElem hk]; rfl)
  exact ⟨b, off, e, hb, hc 0 _ rfl, hc 1 _ rfl, hc 2 _ rfl, hc 3 _ rfl, hc 4 _ rfl⟩

theorem isFeeder_any (s : ByteArray) (A : Option Addr) (n c : Nat) (pv : Value) (i : Int) (w : World) :
    Calls Tryz.prog 42 #[.agg #[.string s, .slice A n c, pv], .int .i64 i] w fun e w' => e = .returned (.bool (decide (0 ≤ i) && decide (i < (n : Int)))) ∧ Below w.heap.size w w' := by
  by_cases h0 : 0 ≤ i <;> by_cases h1 : i < (n : Int)
  all_goals go_enter Tryz.func42, Tryz.ntmps42
  all_goals go_wp2_with fail
  all_goals go_ret
  all_goals exact ⟨ret_bool (by simp [h0, h1]), below_alloc (Below.refl _ _) _⟩

theorem site_name {S : SiteR} (h : (!validL S.name.data.toList) = true) : siteE S = 4 := by simp [siteE, h]
theorem site_limit {S : SiteR} (h : (!validL S.name.data.toList) = false) (hl : 32 < S.F.length ∨ 32 < S.P.length) : siteE S = 3 := by simp only [siteE, h]; simp [hl]
theorem site_feed {S : SiteR} (h : (!validL S.name.data.toList) = false) (hl : ¬ (32 < S.F.length ∨ 32 < S.P.length)) {k : Nat} (hk : k < S.F.length) (h0 : firstE (feedAt S.F) k = 0) (he : feedAt S.F k ≠ 0) : siteE S = feedAt S.F k := by
  have := firstE_stop h0 he hk
  simp only [siteE, h, if_neg hl, this]
  simp [he]
theorem site_pnt {S : SiteR} (h : (!validL S.name.data.toList) = false) (hl : ¬ (32 < S.F.length ∨ 32 < S.P.length)) (hF : firstE (feedAt S.F) S.F.length = 0) {k : Nat} (hk : k < S.P.length) (h0 : firstE (pntAt S.F S.P) k = 0) (he : pntAt S.F S.P k ≠ 0) : siteE S = pntAt S.F S.P k := by
  have := firstE_stop h0 he hk
  simp only [siteE, h, if_neg hl, hF, this]
  simp
theorem site_ok {S : SiteR} (h : (!validL S.name.data.toList) = false) (hl : ¬ (32 < S.F.length ∨ 32 < S.P.length)) (hF : firstE (feedAt S.F) S.F.length = 0) (hP : firstE (pntAt S.F S.P) S.P.length = 0) : siteE S = 0 := by
  simp only [siteE, h, if_neg hl, hF, hP]
  simp

theorem feed_name {ks : List (List UInt8)} {i : Int} {f : Feed} (h : nameE ks f.name ≠ 0) : feedE ks i f = nameE ks f.name := by simp [feedE, h]
theorem feed_parent {ks : List (List UInt8)} {i : Int} {f : Feed} (h : nameE ks f.name = 0) (hp : f.parent < -1 ∨ i ≤ f.parent) : feedE ks i f = 1 := by simp [feedE, h, hp]
theorem feed_power {ks : List (List UInt8)} {i : Int} {f : Feed} (h : nameE ks f.name = 0) (hp : ¬ (f.parent < -1 ∨ i ≤ f.parent)) (hw : (powB f.a && (powB f.b && powB f.c)) = false) : feedE ks i f = 2 := by simp only [feedE, h, if_neg hp, hw]; simp
theorem feed_ok {ks : List (List UInt8)} {i : Int} {f : Feed} (h : nameE ks f.name = 0) (hp : ¬ (f.parent < -1 ∨ i ≤ f.parent)) (hw : (powB f.a && (powB f.b && powB f.c)) = true) : feedE ks i f = 0 := by simp only [feedE, h, if_neg hp, hw]; simp

theorem pnt_name {ks : List (List UInt8)} {n : Int} {p : Pnt} (h : nameE ks p.name ≠ 0) : pntE ks n p = nameE ks p.name := by simp [pntE, h]
theorem pnt_inv {ks : List (List UInt8)} {n : Int} {p : Pnt} (h : nameE ks p.name = 0) (hp : p.feeder < 0 ∨ n ≤ p.feeder ∨ p.phases < 1 ∨ 7 < p.phases) : pntE ks n p = 1 := by simp [pntE, h, hp]
theorem pnt_range {ks : List (List UInt8)} {n : Int} {p : Pnt} (h : nameE ks p.name = 0) (hp : ¬ (p.feeder < 0 ∨ n ≤ p.feeder ∨ p.phases < 1 ∨ 7 < p.phases)) (hw : powB p.rated = false ∨ p.least < 0 ∨ p.rated < p.least) : pntE ks n p = 2 := by simp only [pntE, h, if_neg hp, if_pos hw]; simp
theorem pnt_ok {ks : List (List UInt8)} {n : Int} {p : Pnt} (h : nameE ks p.name = 0) (hp : ¬ (p.feeder < 0 ∨ n ≤ p.feeder ∨ p.phases < 1 ∨ 7 < p.phases)) (hw : ¬ (powB p.rated = false ∨ p.least < 0 ∨ p.rated < p.least)) : pntE ks n p = 0 := by simp only [pntE, h, if_neg hp, if_neg hw]; simp

theorem names_step {w : World} {b : Nat} {x : List UInt8} {ks : List (List UInt8)} (h : Names w b (x :: ks)) : Names w b (ks ++ [x]) :=
  Taken.congr h (fun y => by simp [or_comm]) (by simp)

set_option maxRecDepth 100000 in
set_option maxHeartbeats 6400000 in
theorem siteValid_any (S : SiteR) (fv pv : Value) (w : World) (hF : IsSl w 5 fv (S.F.map Feed.cells)) (hP : IsSl w 5 pv (S.P.map Pnt.cells)) (hn : S.name.size ≤ maxLen) (hfF : ∀ f ∈ S.F, f.fits) (hfP : ∀ p ∈ S.P, p.fits) :
    Calls Tryz.prog 26 #[.agg #[.string S.name, fv, pv]] w fun e w' => e = .returned (.int .i64 (siteE S)) ∧ Below w.heap.size w w' := by
  obtain ⟨A, c, rfl, hlc, hcm, hsl⟩ := islen' hF
  obtain ⟨B, d, rfl, hld, hdm, hsp⟩ := islen' hP
  obtain ⟨W0, hW0, hb0, hg0, hx0⟩ := box1 w #[.string S.name, .slice A S.F.length c, .slice B S.P.length d] 25
  have HSL := Lib.hid (hsl.below hb0)
  have HSP := Lib.hid (hsp.below hb0)
  have HFF := Lib.hid hfF
  have HFP := Lib.hid hfP
  clear hF hP hsl hsp hfF hfP hlc hld hcm hdm
  cases hv : (!validL S.name.data.toList) with
  | true =>
    have HE := Lib.hid (site_name hv)
    go_enter Tryz.func26, Tryz.ntmps26
    go_wp2_with fail
    rw [← hW0]
    clear hW0
    refine (valid_any S.name _ hn).mono ?_
    rintro e w1 ⟨rfl, hb1⟩
    rw [show validL S.name.data.toList = false by simpa using hv]
    go_wp2_with fail
    go_ret
    exact ⟨ret_int (by rw [HE.out]), below_step hb0 hb1⟩
  | false =>
  have hv' : validL S.name.data.toList = true := by simpa using hv
  by_cases hl : 32 < S.F.length ∨ 32 < S.P.length
  · have HE := Lib.hid (site_limit hv hl)
    by_cases hl1 : 32 < S.F.length
    · skip
      go_enter Tryz.func26, Tryz.ntmps26
      go_wp2_with fail
      rw [← hW0]
      clear hW0
      refine (valid_any S.name _ hn).mono ?_
      rintro e w1 ⟨rfl, hb1⟩
      rw [hv']
      obtain ⟨hc, hf⟩ := bcell hb1
      go_wp2_with fail
      go_ret
      exact ⟨ret_int (by rw [HE.out]), below_step hb0 hb1⟩
    · have hl2 : 32 < S.P.length := by omega
      go_enter Tryz.func26, Tryz.ntmps26
      go_wp2_with fail
      rw [← hW0]
      clear hW0
      refine (valid_any S.name _ hn).mono ?_
      rintro e w1 ⟨rfl, hb1⟩
      rw [hv']
      obtain ⟨hc, hf⟩ := bcell hb1
      go_wp2_with fail
      go_ret
      exact ⟨ret_int (by rw [HE.out]), below_step hb0 hb1⟩
  have hl1 : S.F.length ≤ 32 := by omega
  have hl2 : S.P.length ≤ 32 := by omega
  have HSF := Lib.hid (fun (k : Nat) (hk : k < S.F.length) (h0 : firstE (feedAt S.F) k = 0) (he : feedAt S.F k ≠ 0) => site_feed hv hl hk h0 he)
  have HSQ := Lib.hid (fun (hF : firstE (feedAt S.F) S.F.length = 0) (k : Nat) (hk : k < S.P.length) (h0 : firstE (pntAt S.F S.P) k = 0) (he : pntAt S.F S.P k ≠ 0) => site_pnt hv hl hF hk h0 he)
  have HSO := Lib.hid (fun (hF : firstE (feedAt S.F) S.F.length = 0) (hP : firstE (pntAt S.F S.P) S.P.length = 0) => site_ok hv hl hF hP)
  clear hl hv
  have hmm := @run_makeMap Tryz.prog
  go_enter Tryz.func26, Tryz.ntmps26
  go_wp2_with fail
  rw [← hW0]
  clear hW0
  refine (valid_any S.name _ hn).mono ?_
  rintro e w1 ⟨rfl, hb1⟩
  rw [hv']
  obtain ⟨hc, hf⟩ := bcell hb1
  have hgx : w.heap.size < w1.heap.size := Nat.lt_of_lt_of_le hg0 hb1.size
  go_wp2_with fail
  have hx1 : ∀ j, w1.cell? ⟨w.heap.size, j, none⟩ = (#[.string S.name, .slice A S.F.length c, .slice B S.P.length d] : Array Value)[j]? := fun j => (hc _ _ hg0).trans (hx0 j)
  have hb01 := below_step hb0 hb1
  have HSL1 := Lib.hid (HSL.out.below hb1)
  have HSP1 := Lib.hid (HSP.out.below hb1)
  clear hc hf hx0 HSL HSP hb0 hb1 hg0
  go_loopw [28] (fun i wr => ∃ k : Nat, k ≤ S.F.length ∧ i = .int .i64 k ∧ Below w1.heap.size w1 wr ∧ w1.heap.size < wr.heap.size ∧ Hid (Names wr w1.heap.size (keysF (S.F.take k))) ∧ Hid (firstE (feedAt S.F) k = 0)) (fun i _ => S.F.length - (intOf i).toNat)
  case atStart => exact ⟨0, by omega, rfl, below_alloc (Below.refl _ _) _, by simp, taken_made _ _ _, rfl⟩
  case round =>
    obtain ⟨k, hk, rfl, hbw, hgm, HN, HZ⟩ := hrel
    obtain ⟨hc, hf⟩ := bcell hbw
    by_cases hlt : k < S.F.length
    · have hki : (k : Int) < (S.F.length : Int) := by omega
      obtain ⟨b, off, rfl, hbb, c0, c1, c2, c3, c4⟩ := feed_at (HSL1.out.below hbw) hlt
      have HFE := Lib.hid (feedAt_eq hlt)
      have HKS := Lib.hid (keysF_step hlt)
      have hft := HFF.out _ (List.getElem_mem hlt)
      have HST := Lib.hid (HSF.out k hlt HZ.out)
      have HGO := Lib.hid (fun he => firstE_go (g := feedAt S.F) HZ.out he)
      have hkl : (keysF (S.F.take k)).length ≤ 1000000 := by unfold keysF; simp; omega
      generalize hx : S.F[k] = x at *
      clear hx
      obtain ⟨W2, hW2, hb2, hg2, hx2⟩ := box1 wr #[.string x.name, .int .i64 x.parent, .int .i64 x.a, .int .i64 x.b, .int .i64 x.c] 61
      have HN2 : Names W2 w1.heap.size (keysF (S.F.take k)) := HN.out.below hb2
      generalize keysF (S.F.take k) = ks at *
      go_wp2_with fail
      rw [← hW2]
      clear hW2
      refine (enter_any w1.heap.size ks x.name _ hft HN2 hkl).mono ?_
      rintro e w3 ⟨rfl, hg3, hN3⟩
      have hx3 : ∀ j, w3.cell? ⟨wr.heap.size, j, none⟩ = (#[.string x.name, .int .i64 x.parent, .int .i64 x.a, .int .i64 x.b, .int .i64 x.c] : Array Value)[j]? := fun j => (hg3.cell_far ⟨wr.heap.size, j, none⟩ hg2 (by simp; omega)).trans (hx2 j)
      have hbw2 := hbw.trans (hb2.mono hbw.size)
      have hbw3 := hbw2.grown hg3 hbw2.size (fun j hj => by cases hj; exact Nat.le_refl _)
      have hgw : wr.heap.size < w3.heap.size := Nat.lt_of_lt_of_le hg2 hg3.size
      have hgm3 : w1.heap.size < w3.heap.size := by omega
      clear hc hf hx2 HN2
      obtain ⟨hc, hf⟩ := bcell hbw3
      cases hne : (nameE ks x.name != 0) with
      | true =>
        have h0 : nameE ks x.name ≠ 0 := by simpa using hne
        have HE : Hid (siteE S = nameE ks x.name) := by
          unfold Hid
          rw [HST.out (by rw [HFE.out, feed_name h0]; exact h0), HFE.out, feed_name h0]
        go_wp2_with fail
        go_ret
        exact ⟨ret_int (by rw [HE.out]), below_step hb01 hbw3⟩
      | false =>
        have h0 : nameE ks x.name = 0 := by simpa using hne
        have HNS := Lib.hid (names_step (hN3 h0))
        by_cases hp : x.parent < -1 ∨ (k : Int) ≤ x.parent
        · have HV := Lib.hid (feed_parent (i := k) h0 hp)
          have HE : Hid (siteE S = 1) := by unfold Hid; rw [HST.out (by rw [HFE.out, HV.out]; simp), HFE.out, HV.out]
          clear hN3
          by_cases hp1 : x.parent < -1
          · skip
            go_wp2_with fail
            go_ret
            exact ⟨ret_int (by rw [HE.out]), below_step hb01 hbw3⟩
          · have hp2 : (k : Int) ≤ x.parent := by omega
            go_wp2_with fail
            go_ret
            exact ⟨ret_int (by rw [HE.out]), below_step hb01 hbw3⟩
        · have hp1 : ¬ x.parent < -1 := by omega
          have hp2 : ¬ (k : Int) ≤ x.parent := by omega
          cases hpw : (powB x.a && (powB x.b && powB x.c)) with
          | false =>
            have HV := Lib.hid (feed_power (i := k) h0 hp hpw)
            have HE : Hid (siteE S = 2) := by unfold Hid; rw [HST.out (by rw [HFE.out, HV.out]; simp), HFE.out, HV.out]
            clear hp hN3
            cases ha : powB x.a with
            | false =>
              have hbp := ha
              have hcp := ha
              go_wp2_with (go_at_call 45; refine (isPower_any _ _).mono ?_; rintro e w' ⟨rfl, rfl⟩; (first | rw [ha] | rw [hbp] | rw [hcp]))
              go_ret
              exact ⟨ret_int (by rw [HE.out]), below_step hb01 hbw3⟩
            | true =>
              cases hbp : powB x.b with
              | false =>
                have hcp := hbp
                go_wp2_with (go_at_call 45; refine (isPower_any _ _).mono ?_; rintro e w' ⟨rfl, rfl⟩; (first | rw [ha] | rw [hbp] | rw [hcp]))
                go_ret
                exact ⟨ret_int (by rw [HE.out]), below_step hb01 hbw3⟩
              | true =>
                cases hcp : powB x.c with
                | false =>
                  go_wp2_with (go_at_call 45; refine (isPower_any _ _).mono ?_; rintro e w' ⟨rfl, rfl⟩; (first | rw [ha] | rw [hbp] | rw [hcp]))
                  go_ret
                  exact ⟨ret_int (by rw [HE.out]), below_step hb01 hbw3⟩
                | true => rw [ha, hbp, hcp] at hpw; simp at hpw
          | true =>
            have HV := Lib.hid (feed_ok (i := k) h0 hp hpw)
            have HZ2 := Lib.hid (HGO.out (by rw [HFE.out, HV.out]))
            have hpw' := hpw
            simp only [Bool.and_eq_true] at hpw'
            obtain ⟨ha, hbp, hcp⟩ := hpw'
            clear hp hN3 hpw
            go_wp2_with (go_at_call 45; refine (isPower_any _ _).mono ?_; rintro e w' ⟨rfl, rfl⟩; (first | rw [ha] | rw [hbp] | rw [hcp]))
            go_roundw
            case measure => simp [intOf]; omega
            case rel => exact ⟨k + 1, by omega, by go_num, hbw3, hgm3, by show Names _ _ _; rw [HKS.out]; exact HNS.out, HZ2.out⟩
    · have hkF : k = S.F.length := by omega
      subst hkF
      have HN1 : Names wr w1.heap.size (keysF S.F) := by
        have := HN.out
        rwa [List.take_length] at this
      have HQ := Lib.hid (HSQ.out HZ.out)
      have HO := Lib.hid (HSO.out HZ.out)
      clear HSF HSQ HSO HN HSL1 HFF
      go_wp2_with fail
      clear hc hf
      go_loopw [72] (fun i wr => ∃ k : Nat, k ≤ S.P.length ∧ i = .int .i64 k ∧ Below w1.heap.size w1 wr ∧ w1.heap.size < wr.heap.size ∧ Hid (Names wr w1.heap.size (keysF S.F ++ keysP (S.P.take k))) ∧ Hid (firstE (pntAt S.F S.P) k = 0)) (fun i _ => S.P.length - (intOf i).toNat)
      case atStart => exact ⟨0, by omega, rfl, hbw, hgm, by show Names _ _ _; simpa [keysP] using HN1, rfl⟩
      case round =>
      clear hbw hgm HN1
      obtain ⟨q, hq, rfl, hbw, hgm, HN, HY⟩ := hrel
      obtain ⟨hc, hf⟩ := bcell hbw
      by_cases hlt2 : q < S.P.length
      · have hki : (q : Int) < (S.P.length : Int) := by omega
        obtain ⟨b, off, rfl, hbb, c0, c1, c2, c3, c4⟩ := pnt_at (HSP1.out.below hbw) hlt2
        have HFE := Lib.hid (pntAt_eq (F := S.F) hlt2)
        have HKS := Lib.hid (keysP_step hlt2)
        have hft := HFP.out _ (List.getElem_mem hlt2)
        have HST := Lib.hid (HQ.out q hlt2 HY.out)
        have HGO := Lib.hid (fun he => firstE_go (g := pntAt S.F S.P) HY.out he)
        have hkl : (keysF S.F ++ keysP (S.P.take q)).length ≤ 1000000 := by unfold keysF keysP; simp; omega
        generalize hx : S.P[q] = x at *
        clear hx
        obtain ⟨W2, hW2, hb2, hg2, hx2⟩ := box1 wr #[.string x.name, .int .i64 x.feeder, .int .i64 x.phases, .int .i64 x.rated, .int .i64 x.least] 81
        have HKA : Hid (keysF S.F ++ keysP (S.P.take (q + 1)) = (keysF S.F ++ keysP (S.P.take q)) ++ [keyN x.name]) := by unfold Hid; rw [HKS.out, List.append_assoc]
        have HN2 : Names W2 w1.heap.size (keysF S.F ++ keysP (S.P.take q)) := HN.out.below hb2
        clear HKS
        generalize keysF S.F ++ keysP (S.P.take q) = ks at *
        go_wp2_with fail
        rw [← hW2]
        clear hW2
        refine (enter_any w1.heap.size ks x.name _ hft HN2 hkl).mono ?_
        rintro e w3 ⟨rfl, hg3, hN3⟩
        have hx3 : ∀ j, w3.cell? ⟨wr.heap.size, j, none⟩ = (#[.string x.name, .int .i64 x.feeder, .int .i64 x.phases, .int .i64 x.rated, .int .i64 x.least] : Array Value)[j]? := fun j => (hg3.cell_far ⟨wr.heap.size, j, none⟩ hg2 (by simp; omega)).trans (hx2 j)
        have hbw2 := hbw.trans (hb2.mono hbw.size)
        have hbw3 := hbw2.grown hg3 hbw2.size (fun j hj => by cases hj; exact Nat.le_refl _)
        have hgw : wr.heap.size < w3.heap.size := Nat.lt_of_lt_of_le hg2 hg3.size
        have hgm3 : w1.heap.size < w3.heap.size := by omega
        have hgx3 : w.heap.size < w3.heap.size := by omega
        clear hc hf hx2 HN2
        obtain ⟨hc, hf⟩ := bcell hbw3
        cases hne : (nameE ks x.name != 0) with
        | true =>
          have h0 : nameE ks x.name ≠ 0 := by simpa using hne
          have HE : Hid (siteE S = nameE ks x.name) := by
            unfold Hid
            rw [HST.out (by rw [HFE.out, pnt_name h0]; exact h0), HFE.out, pnt_name h0]
          go_wp2_with fail
          go_ret
          exact ⟨ret_int (by rw [HE.out]), below_step hb01 hbw3⟩
        | false =>
          have h0 : nameE ks x.name = 0 := by simpa using hne
          have HNS := Lib.hid (names_step (hN3 h0))
          clear hN3
          by_cases hp : x.feeder < 0 ∨ (S.F.length : Int) ≤ x.feeder ∨ x.phases < 1 ∨ 7 < x.phases
          · have HV := Lib.hid (pnt_inv (n := S.F.length) h0 hp)
            have HE : Hid (siteE S = 1) := by unfold Hid; rw [HST.out (by rw [HFE.out, HV.out]; simp), HFE.out, HV.out]
            by_cases hp1 : x.feeder < 0 ∨ (S.F.length : Int) ≤ x.feeder
            · skip
              have hif : (decide (0 ≤ x.feeder) && decide (x.feeder < (S.F.length : Int))) = false := by simp; omega
              go_wp2_with fail
              refine (isFeeder_any S.name A S.F.length c _ x.feeder _).mono ?_
              rintro e w4 ⟨rfl, hb4⟩
              rw [hif]
              obtain ⟨hc4, hf4⟩ := bcell hb4
              have hbw4 := hbw3.trans (hb4.mono hbw3.size)
              have hgw4 : wr.heap.size < w4.heap.size := Nat.lt_of_lt_of_le hgw hb4.size
              go_wp2_with fail
              go_ret
              exact ⟨ret_int (by rw [HE.out]), below_step hb01 hbw4⟩
            · by_cases hp2 : x.phases < 1
              · skip
                have hif : (decide (0 ≤ x.feeder) && decide (x.feeder < (S.F.length : Int))) = true := by simp; omega
                go_wp2_with fail
                refine (isFeeder_any S.name A S.F.length c _ x.feeder _).mono ?_
                rintro e w4 ⟨rfl, hb4⟩
                rw [hif]
                obtain ⟨hc4, hf4⟩ := bcell hb4
                have hbw4 := hbw3.trans (hb4.mono hbw3.size)
                have hgw4 : wr.heap.size < w4.heap.size := Nat.lt_of_lt_of_le hgw hb4.size
                go_wp2_with fail
                go_ret
                exact ⟨ret_int (by rw [HE.out]), below_step hb01 hbw4⟩
              · have hp3 : 7 < x.phases := by omega
                have hif : (decide (0 ≤ x.feeder) && decide (x.feeder < (S.F.length : Int))) = true := by simp; omega
                go_wp2_with fail
                refine (isFeeder_any S.name A S.F.length c _ x.feeder _).mono ?_
                rintro e w4 ⟨rfl, hb4⟩
                rw [hif]
                obtain ⟨hc4, hf4⟩ := bcell hb4
                have hbw4 := hbw3.trans (hb4.mono hbw3.size)
                have hgw4 : wr.heap.size < w4.heap.size := Nat.lt_of_lt_of_le hgw hb4.size
                go_wp2_with fail
                go_ret
                exact ⟨ret_int (by rw [HE.out]), below_step hb01 hbw4⟩
          · have hp2 : ¬ x.phases < 1 := by omega
            have hp3 : ¬ 7 < x.phases := by omega
            by_cases hw : powB x.rated = false ∨ x.least < 0 ∨ x.rated < x.least
            · have HV := Lib.hid (pnt_range (n := S.F.length) h0 hp hw)
              have HE : Hid (siteE S = 2) := by unfold Hid; rw [HST.out (by rw [HFE.out, HV.out]; simp), HFE.out, HV.out]
              cases hpr : powB x.rated with
              | false =>
                have hif : (decide (0 ≤ x.feeder) && decide (x.feeder < (S.F.length : Int))) = true := by simp; omega
                go_wp2_with fail
                refine (isFeeder_any S.name A S.F.length c _ x.feeder _).mono ?_
                rintro e w4 ⟨rfl, hb4⟩
                rw [hif]
                obtain ⟨hc4, hf4⟩ := bcell hb4
                have hbw4 := hbw3.trans (hb4.mono hbw3.size)
                have hgw4 : wr.heap.size < w4.heap.size := Nat.lt_of_lt_of_le hgw hb4.size
                go_wp2_with (go_at_call 45; refine (isPower_any _ _).mono ?_; rintro e w' ⟨rfl, rfl⟩; rw [hpr])
                go_ret
                exact ⟨ret_int (by rw [HE.out]), below_step hb01 hbw4⟩
              | true =>
                rw [hpr] at hw
                by_cases hl3 : x.least < 0
                · skip
                  have hif : (decide (0 ≤ x.feeder) && decide (x.feeder < (S.F.length : Int))) = true := by simp; omega
                  go_wp2_with fail
                  refine (isFeeder_any S.name A S.F.length c _ x.feeder _).mono ?_
                  rintro e w4 ⟨rfl, hb4⟩
                  rw [hif]
                  obtain ⟨hc4, hf4⟩ := bcell hb4
                  have hbw4 := hbw3.trans (hb4.mono hbw3.size)
                  have hgw4 : wr.heap.size < w4.heap.size := Nat.lt_of_lt_of_le hgw hb4.size
                  go_wp2_with (go_at_call 45; refine (isPower_any _ _).mono ?_; rintro e w' ⟨rfl, rfl⟩; rw [hpr])
                  go_ret
                  exact ⟨ret_int (by rw [HE.out]), below_step hb01 hbw4⟩
                · have hl4 : x.rated < x.least := by simp at hw; omega
                  have hif : (decide (0 ≤ x.feeder) && decide (x.feeder < (S.F.length : Int))) = true := by simp; omega
                  go_wp2_with fail
                  refine (isFeeder_any S.name A S.F.length c _ x.feeder _).mono ?_
                  rintro e w4 ⟨rfl, hb4⟩
                  rw [hif]
                  obtain ⟨hc4, hf4⟩ := bcell hb4
                  have hbw4 := hbw3.trans (hb4.mono hbw3.size)
                  have hgw4 : wr.heap.size < w4.heap.size := Nat.lt_of_lt_of_le hgw hb4.size
                  go_wp2_with (go_at_call 45; refine (isPower_any _ _).mono ?_; rintro e w' ⟨rfl, rfl⟩; rw [hpr])
                  go_ret
                  exact ⟨ret_int (by rw [HE.out]), below_step hb01 hbw4⟩
            · have HV := Lib.hid (pnt_ok (n := S.F.length) h0 hp hw)
              have HZ2 := Lib.hid (HGO.out (by rw [HFE.out, HV.out]))
              have hpr : powB x.rated = true := by
                cases h : powB x.rated
                · exact absurd (.inl h) hw
                · rfl
              have hl3 : ¬ x.least < 0 := fun h => hw (.inr (.inl h))
              have hl4 : ¬ x.rated < x.least := fun h => hw (.inr (.inr h))
              clear hw
              have hif : (decide (0 ≤ x.feeder) && decide (x.feeder < (S.F.length : Int))) = true := by simp; omega
              go_wp2_with fail
              refine (isFeeder_any S.name A S.F.length c _ x.feeder _).mono ?_
              rintro e w4 ⟨rfl, hb4⟩
              rw [hif]
              obtain ⟨hc4, hf4⟩ := bcell hb4
              have hbw4 := hbw3.trans (hb4.mono hbw3.size)
              have hgw4 : wr.heap.size < w4.heap.size := Nat.lt_of_lt_of_le hgw hb4.size
              go_wp2_with (go_at_call 45; refine (isPower_any _ _).mono ?_; rintro e w' ⟨rfl, rfl⟩; rw [hpr])
              go_roundw
              case measure => simp [intOf]; omega
              case rel => exact ⟨q + 1, by omega, by go_num, hbw4, by omega, by show Names _ _ _; rw [HKA.out]; exact HNS.out.below hb4, HZ2.out⟩
      · have hqP : q = S.P.length := by omega
        subst hqP
        have HE := Lib.hid (HO.out HY.out)
        go_wp2_with fail
        go_ret
        exact ⟨ret_int (by rw [HE.out]), below_step hb01 hbw⟩

end Go.Proofs.YtmappmeojmdekaaGreatDoor

namespace Go.Proofs.YtmappmeojmdekaaGreatDoor
open Go.RowKit Go.Lib Go.Maps
attribute [local go_sem] after_cell
set_option linter.unusedVariables false

theorem anyC_take {C : List ConR} {s : ByteArray} {j : Nat} (hj : j < C.length) (h : (C.take j).any (fun d => sameS d.nm s) = false) (e : sameS C[j].nm s = false) : (C.take (j + 1)).any (fun d => sameS d.nm s) = false := by
  rw [List.take_succ_eq_append_getElem hj, List.any_append, h]
  simp [e]
theorem any_hit {C : List ConR} {s : ByteArray} {j k : Nat} (hj : j < k) (hk : k ≤ C.length) (e : sameS (C[j]'(by omega)).nm s = true) : (C.take k).any (fun d => sameS d.nm s) = true := by
  rw [List.any_eq_true]
  exact ⟨C[j], List.mem_iff_getElem.2 ⟨j, by rw [List.length_take]; omega, by rw [List.getElem_take]⟩, e⟩
theorem zone_cases {z : ZoneR} (h : zoneB z = false) : z.off < -840 ∨ (¬ z.off < -840 ∧ 840 < z.off) := by
  unfold zoneB at h
  simp at h
  omega
theorem zone_in {z : ZoneR} (h : zoneB z = true) : ¬ z.off < -840 ∧ ¬ 840 < z.off := by
  unfold zoneB at h
  simp at h
  omega
theorem feeds_of {w : World} {r : RulR} {fv pv cv uv : Value} (h : LimIn w r fv pv cv uv) {k : Nat} (hk : k < r.C.length) : r.C[k].nm.size ≤ maxLen := (h.fC _ (List.getElem_mem hk)).1
theorem curs_of {w : World} {r : RulR} {fv pv cv uv : Value} (h : LimIn w r fv pv cv uv) {k : Nat} (hk : k < r.U.length) : r.U[k].nm.size ≤ maxLen := (h.fU _ (List.getElem_mem hk)).1

set_option maxRecDepth 100000 in
set_option maxHeartbeats 25600000 in
theorem limValid_any (r : RulR) (fv pv cv uv : Value) (w : World) (hI : LimIn w r fv pv cv uv) :
    Calls Tryz.prog 12 #[.agg #[.string r.S.name, fv, pv, .int .i64 r.z.off, .bool r.z.sum, cv, uv]] w fun e w' => e = .returned (.int .i64 (limE r)) ∧ Below w.heap.size w w' := by
  have HI := Lib.hid hI
  obtain ⟨A, B, C, D, a, b, c, d, rfl, rfl, rfl, rfl, hA⟩ := hI.ad
  obtain ⟨W0, hW0, hb0, hg0, hx0⟩ := box1 w #[.string r.S.name, .slice A r.S.F.length a, .slice B r.S.P.length b, .int .i64 r.z.off, .bool r.z.sum, .slice C r.C.length c, .slice D r.U.length d] 31
  obtain ⟨l1, l2⟩ := hA.lC
  obtain ⟨m1, m2⟩ := hA.lU
  have hfm := Nat.le_trans hA.lF.1 hA.lF.2
  have HFM := Lib.hid hfm
  unfold maxLen at l2 m2 hfm
  have HA0 := Lib.hid (hA.below hb0)
  have HI0 := Lib.hid (HI.out.below hb0)
  clear hA hI
  go_enter Tryz.func12, Tryz.ntmps12
  go_wp2_with fail
  rw [← hW0]
  clear hW0
  refine (siteValid_any r.S _ _ W0 HI0.out.hF HI0.out.hP HI0.out.hn HI0.out.fF HI0.out.fP).mono ?_
  rintro e w1 ⟨rfl, hb1⟩
  have y0 : ∀ j, w1.cell? ⟨w.heap.size, j, none⟩ = _ := fun j => (hb1.cell (p := ⟨w.heap.size, j, none⟩) hg0).trans (hx0 j)
  have y1 : w.heap.size < w1.heap.size := Nat.lt_of_lt_of_le hg0 hb1.size
  have HA1 := Lib.hid (HA0.out.below hb1)
  have HI1 := Lib.hid (HI0.out.below hb1)
  have hb01 := below_step hb0 hb1
  clear hx0 hg0 hb1 HA0 HI0
  by_cases hs : siteE r.S = 0
  · have HS := Lib.hid hs
    rw [hs]
    clear hs
    cases hz : zoneB r.z with
    | false =>
      have HE := Lib.hid (limE_zone HS.out hz)
      have hcase := zone_cases hz
      clear hz
      rcases hcase with q1 | ⟨q1, q2⟩
      all_goals
        go_wp2_with fail
        go_ret
        exact ⟨ret_int HE.out.symm, hb01⟩
    | true =>
      have HZ := Lib.hid hz
      obtain ⟨q1, q2⟩ := zone_in hz
      clear hz
      by_cases hn : 16 < r.C.length
      · have HE := Lib.hid (limE_many HS.out HZ.out hn)
        have hni : (16 : Int) < (r.C.length : Int) := by omega
        go_wp2_with fail
        go_ret
        exact ⟨ret_int HE.out.symm, hb01⟩
      · have hni : ¬ (16 : Int) < (r.C.length : Int) := by omega
        have HN := Lib.hid hn
        go_wp2_with fail
        go_loopw [35] (fun i wr => ∃ k : Nat, k ≤ r.C.length ∧ i = .int .i64 k ∧ Hid (firstE (conAtE r.C r.S.F.length) k = 0) ∧ Below w1.heap.size w1 wr) (fun i _ => r.C.length - (intOf i).toNat)
        case atStart => exact ⟨0, by omega, rfl, rfl, Below.refl _ _⟩
        case round =>
          obtain ⟨k, hk, rfl, HK, hbw⟩ := hrel
          have z0 : ∀ j, wr.cell? ⟨w.heap.size, j, none⟩ = _ := fun j => (hbw.cell (p := ⟨w.heap.size, j, none⟩) y1).trans (y0 j)
          have z1 : w.heap.size < wr.heap.size := Nat.lt_of_lt_of_le y1 hbw.size
          have HAr := Lib.hid (HA1.out.below hbw)
          by_cases hlt : k < r.C.length
          · have hki : (k : Int) < (r.C.length : Int) := by omega
            obtain ⟨blk, off, rfl, hb, c0, c1, c2, c3, c4, c5, c6, c7⟩ := con_at HAr.out.sC hlt
            have HBAD := Lib.hid (fun e => limE_con HS.out HZ.out HN.out hlt HK.out e)
            have HC0 := Lib.hid (fun e => conAtE_bad (C := r.C) (n := r.S.F.length) hlt e)
            have HC1 := Lib.hid (fun e g => conAtE_two (C := r.C) (n := r.S.F.length) hlt e g)
            have HC2 := Lib.hid (fun e g => conAtE_ok (C := r.C) (n := r.S.F.length) hlt e g)
            have HHIT := Lib.hid (fun (j : Nat) (hj : j < k) (e : sameS (r.C[j]'(Nat.lt_of_lt_of_le hj hk)).nm (r.C[k]'hlt).nm = true) => any_hit (C := r.C) (s := (r.C[k]'hlt).nm) hj hk e)
            have HNXT := Lib.hid (fun (j : Nat) (hj : j < k) h (e : sameS (r.C[j]'(Nat.lt_of_lt_of_le hj hk)).nm (r.C[k]'hlt).nm = false) => anyC_take (C := r.C) (s := (r.C[k]'hlt).nm) (j := j) (Nat.lt_of_lt_of_le hj hk) h e)
            have HNM := Lib.hid (feeds_of HI.out hlt)
            generalize hx : r.C[k] = x at *
            clear hx
            obtain ⟨W2, hW2, hb2, hg2, hx2⟩ := box1 wr #[.string x.nm, .int .i64 x.fd, .int .i64 x.w.dy, .int .i64 x.w.st, .int .i64 x.w.en, .int .i64 x.w.fr, .int .i64 x.w.to, .int .i64 x.tot] 68
            have v0 : ∀ j, W2.cell? ⟨w.heap.size, j, none⟩ = _ := fun j => (hb2.cell (p := ⟨w.heap.size, j, none⟩) z1).trans (z0 j)
            have v1 : w.heap.size < W2.heap.size := Nat.lt_of_lt_of_le z1 hb2.size
            go_wp2_with fail
            rw [← hW2]
            clear hW2 z0 z1 c0 c1 c2 c3 c4 c5 c6 c7 hb
            refine (conValid_any x _ _ _ r.S.F.length a r.S.P.length b _ HNM.out HFM.out).mono ?_
            rintro e w3 ⟨rfl, hb3⟩
            have u0 : ∀ j, w3.cell? ⟨w.heap.size, j, none⟩ = _ := fun j => (hb3.cell (p := ⟨w.heap.size, j, none⟩) v1).trans (v0 j)
            have u1 : w.heap.size < w3.heap.size := Nat.lt_of_lt_of_le v1 hb3.size
            have p0 : ∀ j, w3.cell? ⟨wr.heap.size, j, none⟩ = _ := fun j => (hb3.cell (p := ⟨wr.heap.size, j, none⟩) hg2).trans (hx2 j)
            have p1 : wr.heap.size < w3.heap.size := Nat.lt_of_lt_of_le hg2 hb3.size
            have hbw3 := below_step hbw (below_step hb2 hb3)
            have HA3 := Lib.hid (HA1.out.below hbw3)
            clear v0 v1 hx2 hg2 hb2 hb3
            by_cases he : conE x r.S.F.length = 0
            · have HE0 := Lib.hid he
              rw [he]
              clear he
              have hk0 : (0 : Int) ≤ (k : Int) := by omega
              have hkc : (k : Int) ≤ (c : Int) := by omega
              have hkl : ¬ r.C.length < k := by omega
              have hkc2 : ¬ c < k := by omega
              generalize wr.heap.size = gr at *
              go_wp2_with fail
              generalize w3 = wm at *
              go_loopw [52] (fun i wx => ∃ j : Nat, j ≤ k ∧ i = .int .i64 j ∧ Hid ((r.C.take j).any (fun d => sameS d.nm x.nm) = false) ∧ Below wm.heap.size wm wx) (fun i _ => k - (intOf i).toNat)
              case atStart => exact ⟨0, by omega, rfl, rfl, Below.refl _ _⟩
              case round =>
                obtain ⟨j, hj, rfl, HJ, hbx⟩ := hrel
                by_cases hjk : j < k
                · have hji : (j : Int) < (k : Int) := by omega
                  have hjl : j < r.C.length := by omega
                  obtain ⟨b3, off3, hA3, hb3, d0, d1, d2, d3, d4, d5, d6, d7⟩ := con_at (HA3.out.below hbx).sC hjl
                  injection hA3 with hA3
                  injection hA3 with hA3 hA4 _
                  subst hA3; subst hA4
                  have HH := Lib.hid (fun e => HHIT.out j hjk e)
                  have HX := Lib.hid (fun e => HNXT.out j hjk HJ.out e)
                  have HNJ := Lib.hid (feeds_of HI.out hjl)
                  generalize r.C[j] = y at *
                  obtain ⟨W4, hW4, hb4, hg4, hx4⟩ := box1 wr #[.string y.nm, .int .i64 y.fd, .int .i64 y.w.dy, .int .i64 y.w.st, .int .i64 y.w.en, .int .i64 y.w.fr, .int .i64 y.w.to, .int .i64 y.tot] 68
                  have g0 : ∀ j, wr.cell? ⟨gr, j, none⟩ = _ := fun j => (hbx.cell (p := ⟨gr, j, none⟩) p1).trans (p0 j)
                  have g1 : gr < wr.heap.size := Nat.lt_of_lt_of_le p1 hbx.size
                  go_wp2_with fail
                  rw [← hW4]
                  clear hW4
                  refine (same_any y.nm x.nm _ HNJ.out).mono ?_
                  rintro e w5 ⟨rfl, hd5⟩
                  have hbx5 := below_step (below_step hbx hb4) (drewN_belowU hd5)
                  cases hsm : sameS y.nm x.nm with
                  | true =>
                    have he9 := HC1.out HE0.out (HH.out hsm)
                    have HE := Lib.hid (HBAD.out (by rw [he9]; decide))
                    have HE9 := Lib.hid he9
                    clear he9 hsm
                    go_wp2_with fail
                    go_ret
                    exact ⟨ret_int (by rw [HE.out, HE9.out]), below_step hb01 (below_step hbw3 hbx5)⟩
                  | false =>
                    have HN2 := Lib.hid (HX.out hsm)
                    clear hsm
                    go_wp2_with fail
                    go_roundw
                    case measure => simp [intOf]; omega
                    case rel => exact ⟨j + 1, by omega, by go_num, HN2, hbx5⟩
                · have hji : ¬ (j : Int) < (k : Int) := by omega
                  obtain rfl : j = k := by omega
                  have HK2 := Lib.hid (firstE_go HK.out (HC2.out HE0.out HJ.out))
                  go_wp2_with fail
                  go_roundw
                  case measure => simp [intOf]; omega
                  case rel => exact ⟨j + 1, by omega, by go_num, HK2, below_step hbw3 hbx⟩
            · have he9 := HC0.out he
              have HE := Lib.hid (HBAD.out (by rw [he9]; exact he))
              have HE9 := Lib.hid he9
              have hne : (conE x r.S.F.length != 0) = true := by simpa using he
              clear he9
              go_wp2_with fail
              go_ret
              exact ⟨ret_int (by rw [HE.out, HE9.out]), below_step hb01 hbw3⟩
          · have hki : ¬ (k : Int) < (r.C.length : Int) := by omega
            obtain rfl : k = r.C.length := by omega
            have HCC := Lib.hid HK.out
            by_cases hu : 64 < r.U.length
            · have HE := Lib.hid (limE_events HS.out HZ.out HN.out HCC.out hu)
              have hui : (64 : Int) < (r.U.length : Int) := by omega
              go_wp2_with fail
              go_ret
              exact ⟨ret_int HE.out.symm, below_step hb01 hbw⟩
            · have hui : ¬ (64 : Int) < (r.U.length : Int) := by omega
              have HU := Lib.hid hu
              have hbwm := below_step hb01 hbw
              clear hk hlt hki hbw HK y0 y1 HA1
              go_wp2_with fail
              generalize wr = wm at *
              go_loopw [70] (fun i wx => ∃ k : Nat, k ≤ r.U.length ∧ i = .int .i64 k ∧ Hid (firstE (curAtE r.U r.S.F.length) k = 0) ∧ Below wm.heap.size wm wx) (fun i _ => r.U.length - (intOf i).toNat)
              case atStart => exact ⟨0, by omega, rfl, rfl, Below.refl _ _⟩
              case round =>
                obtain ⟨k, hk, rfl, HK, hbx⟩ := hrel
                have y0 : ∀ j, wr.cell? ⟨w.heap.size, j, none⟩ = _ := fun j => (hbx.cell (p := ⟨w.heap.size, j, none⟩) z1).trans (z0 j)
                have y1 : w.heap.size < wr.heap.size := Nat.lt_of_lt_of_le z1 hbx.size
                have HAx := Lib.hid (HAr.out.below hbx)
                by_cases hlt : k < r.U.length
                · have hki : (k : Int) < (r.U.length : Int) := by omega
                  obtain ⟨blk, off, rfl, hb, c0, c1, c2, c3, c4, c5, c6⟩ := cur_at HAx.out.sU hlt
                  have HBAD := Lib.hid (fun e => limE_cur HS.out HZ.out HN.out HCC.out HU.out hlt HK.out e)
                  have HC0 := Lib.hid (fun e => curAtE_bad (U := r.U) (n := r.S.F.length) hlt e)
                  have HNM := Lib.hid (curs_of HI.out hlt)
                  generalize hx : r.U[k] = x at *
                  obtain ⟨W2, hW2, hb2, hg2, hx2⟩ := box1 wr #[.string x.nm, .int .i64 x.ver, .int .i64 x.fd, .int .i64 x.fr, .int .i64 x.to, .int .i64 x.tot, .bool x.off] 63
                  have v0 : ∀ j, W2.cell? ⟨w.heap.size, j, none⟩ = _ := fun j => (hb2.cell (p := ⟨w.heap.size, j, none⟩) y1).trans (y0 j)
                  have v1 : w.heap.size < W2.heap.size := Nat.lt_of_lt_of_le y1 hb2.size
                  have HA2 := Lib.hid (HAx.out.below hb2)
                  have HX := Lib.hid hx
                  clear hx
                  go_wp2_with fail
                  rw [← hW2]
                  clear hW2 y0 y1 c0 c1 c2 c3 c4 c5 c6 hb
                  refine (curValid_any x _ _ _ r.S.F.length a r.S.P.length b _ HNM.out HFM.out).mono ?_
                  rintro e w3 ⟨rfl, hb3⟩
                  have u0 : ∀ j, w3.cell? ⟨w.heap.size, j, none⟩ = _ := fun j => (hb3.cell (p := ⟨w.heap.size, j, none⟩) v1).trans (v0 j)
                  have u1 : w.heap.size < w3.heap.size := Nat.lt_of_lt_of_le v1 hb3.size
                  have p0 : ∀ j, w3.cell? ⟨wr.heap.size, j, none⟩ = _ := fun j => (hb3.cell (p := ⟨wr.heap.size, j, none⟩) hg2).trans (hx2 j)
                  have p1 : wr.heap.size < w3.heap.size := Nat.lt_of_lt_of_le hg2 hb3.size
                  have hbx3 := below_step hbx (below_step hb2 hb3)
                  have HA3 := Lib.hid (HA2.out.below hb3)
                  clear v0 v1 hx2 hg2 hb2 hb3
                  by_cases he : curE x r.S.F.length = 0
                  · have HE0 := Lib.hid he
                    rw [he]
                    clear he
                    have hbr := Below.refl w3.heap.size w3
                    cases k with
                    | zero =>
                      have HK2 : Hid (firstE (curAtE r.U r.S.F.length) 1 = 0) := firstE_go HK.out (curAtE_zero hlt (by rw [HX.out]; exact HE0.out))
                      generalize wr.heap.size = gr at *
                      go_wp2_with fail
                      (refine wp_region_kept w3 (by kernel_rfl) (by kernel_rfl) (by assumption) ?_; (repeat (go_big_quiet_step ((first | fail)))); refine wpQuiet_nil ?_; intro _ hw'; obtain ⟨x9, hw''⟩ := hw'; subst hw''; have hk9 := after_kept x9; generalize after x9 = w9 at *)
                      obtain ⟨hc9, hb9⟩ := hk9
                      go_wp2_with fail
                      go_roundw
                      case measure => simp [intOf]; omega
                      case rel => exact ⟨1, by omega, by go_num, HK2, below_step hbx3 hb9⟩
                    | succ j =>
                      have hjl : j < r.U.length := by omega
                      have hj0 : (0 : Int) < ((j + 1 : Nat) : Int) := by omega
                      have hj1 : IntKind.i64.wrap (((j + 1 : Nat) : Int) - 1) = (j : Int) := by rw [show ((j + 1 : Nat) : Int) - 1 = j by omega]; exact IntWalk.i64_in _ (by omega)
                      have hj2 : (j : Int) < (r.U.length : Int) := by omega
                      obtain ⟨b3, off3, hA3, hb3, d0, d1, d2, d3, d4, d5, d6⟩ := cur_at HA3.out.sU hjl
                      injection hA3 with hA3
                      injection hA3 with hA3 hA4 _
                      subst hA3; subst hA4
                      have HT1 : Hid (nameLe x.nm (r.U[j]'hjl).nm = true → curAtE r.U r.S.F.length (j + 1) = 1) := fun g => curAtE_two hlt (by rw [HX.out]; exact HE0.out) (by rw [HX.out]; exact g)
                      have HT2 : Hid (nameLe x.nm (r.U[j]'hjl).nm = false → curAtE r.U r.S.F.length (j + 1) = 0) := fun g => curAtE_ok hlt (by rw [HX.out]; exact HE0.out) (by rw [HX.out]; exact g)
                      generalize r.U[j] = y at *
                      clear d1 d2 d3 d4 d5 d6
                      generalize wr.heap.size = gr at *
                      cases hq : nameLe x.nm y.nm with
                      | true =>
                        have he1 := HT1.out hq
                        have HE := Lib.hid (HBAD.out (by rw [he1]; decide))
                        have HE1 := Lib.hid he1
                        have hq2 : (Op.bytesLess x.nm.toList y.nm.toList || x.nm.toList == y.nm.toList) = true := hq
                        clear he1 hq
                        go_wp2_with fail
                        (refine wp_region_kept w3 (by kernel_rfl) (by kernel_rfl) (by assumption) ?_; (repeat (go_big_quiet_step ((first | fail)))); refine wpQuiet_nil ?_; intro _ hw'; obtain ⟨x9, hw''⟩ := hw'; subst hw''; have hk9 := after_kept x9; generalize after x9 = w9 at *)
                        obtain ⟨hc9, hb9⟩ := hk9
                        go_wp2_with fail
                        go_ret
                        exact ⟨ret_int (by rw [HE.out, HE1.out]), below_step hbwm (below_step hbx3 hb9)⟩
                      | false =>
                        have HK2 := Lib.hid (firstE_go HK.out (HT2.out hq))
                        have hq2 : (Op.bytesLess x.nm.toList y.nm.toList || x.nm.toList == y.nm.toList) = false := hq
                        clear hq
                        go_wp2_with fail
                        (refine wp_region_kept w3 (by kernel_rfl) (by kernel_rfl) (by assumption) ?_; (repeat (go_big_quiet_step ((first | fail)))); refine wpQuiet_nil ?_; intro _ hw'; obtain ⟨x9, hw''⟩ := hw'; subst hw''; have hk9 := after_kept x9; generalize after x9 = w9 at *)
                        obtain ⟨hc9, hb9⟩ := hk9
                        go_wp2_with fail
                        go_roundw
                        case measure => simp [intOf]; omega
                        case rel => exact ⟨j + 1 + 1, by omega, by go_num, HK2, below_step hbx3 hb9⟩
                  · have he9 := HC0.out he
                    have HE := Lib.hid (HBAD.out (by rw [he9]; exact he))
                    have HE9 := Lib.hid he9
                    have hne : (curE x r.S.F.length != 0) = true := by simpa using he
                    clear he9
                    go_wp2_with fail
                    go_ret
                    exact ⟨ret_int (by rw [HE.out, HE9.out]), below_step hbwm hbx3⟩
                · have hki : ¬ (k : Int) < (r.U.length : Int) := by omega
                  obtain rfl : k = r.U.length := by omega
                  have HE := Lib.hid (limE_done HS.out HZ.out HN.out HCC.out HU.out HK.out)
                  go_wp2_with fail
                  go_ret
                  exact ⟨ret_int HE.out.symm, below_step hbwm hbx⟩
  · have HE := Lib.hid (limE_site hs)
    have hne : (siteE r.S != 0) = true := by simpa using hs
    go_wp2_with fail
    go_ret
    exact ⟨ret_int HE.out.symm, hb01⟩

end Go.Proofs.YtmappmeojmdekaaGreatDoor
