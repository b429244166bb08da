/-
  Walks: the path of a feeder, in package site and in its reference.
-/
import Derived.Test.YtkjggfhbnhpdnaaDoorWSite6
import Derived.Test.YtkjggfhbnhpdnaaDoorPSite2
import Derived.Test.YtkjggfhbnhpdnaaDoorAp
namespace Go.Proofs.YtkjggfhbnhpdnaaDoor
open Go.RowKit Go.Lib Go.Maps
set_option linter.unusedVariables false

theorem intInfo : (Tryd.prog.info? 3).map (fun i => (i.zero, i.size, i.bytes)) = some (some (.int .i64 0), 1, 8) := by kernel_rfl

def encN (k : Nat) : List Value := [.int .i64 (k : Int)]
def encZ (z : Int) : List Value := [.int .i64 z]
theorem encN_len (k : Nat) : (encN k).length = 1 := rfl
theorem encZ_len (z : Int) : (encZ z).length = 1 := rfl
theorem map_encN (l : List Nat) : l.map encN = (l.map (fun k : Nat => (k : Int))).map encZ := by rw [List.map_map]; rfl
def sliceLen : Value → Nat
  | .slice _ n _ => n
  | _ => 0

section
variable {w : World} {base n size : Nat} {e : TypeId} {v : Value} {xs : List Value}
theorem own_shape (h : w.ownsRow base e size v n xs) : ∃ A cap, v = .slice A n cap := by
  rcases h.2 with ⟨rfl, hx⟩ | ⟨g, cap, cur, rfl, _⟩
  · exact ⟨none, 0, by rw [hx]⟩
  · exact ⟨_, _, rfl⟩
theorem own_len (h : w.ownsRow base e size v n xs) : sliceLen v = n := by
  obtain ⟨A, cap, rfl⟩ := own_shape h; rfl
theorem own_split (h : w.ownsRow base e size v n xs) (hn : 0 < n) : ∃ g cap, v = .slice (some ⟨g, 0, none⟩) n cap ∧ base ≤ g ∧ g < w.heap.size ∧ n ≤ cap ∧ cap ≤ maxLen ∧ ∀ j u, xs[j]? = some u → w.cell? ⟨g, j, none⟩ = some u := by
  have h0 := h
  rcases h.2 with ⟨rfl, hx⟩ | ⟨g, cap, cur, rfl, hg, hh, hnc, hcm, hsz, htake⟩
  · omega
  · refine ⟨g, cap, rfl, hg, (Array.getElem?_eq_some_iff.1 hh).1, hnc, hcm, fun j u hj => ?_⟩
    have hx := h0.cells (g := g) rfl j u hj
    have ea : ((⟨g, 0, none⟩ : Addr).add j) = ⟨g, j, none⟩ := by
      unfold Addr.add
      split
      · first | (simp; done) | (simp; omega)
      · simp
    rw [ea] at hx
    exact hx
end

/-- v lies in no memory of w -/
def Fresh (w : World) (v : Value) : Prop := ∀ b off n c, v = .slice (some ⟨b, off, none⟩) n c → w.heap.size ≤ b
theorem fresh_own {w wr : World} {base n size : Nat} {e : TypeId} {v : Value} {xs : List Value} (h : wr.ownsRow base e size v n xs) (hb : w.heap.size ≤ base) : Fresh w v := by
  intro b off m c hv
  rcases h.2 with ⟨rfl, hx⟩ | ⟨g, cap, cur, rfl, hg, _⟩
  · cases hv
  · injection hv with h1 _ _
    injection h1 with h1
    injection h1 with h1 _ _
    omega

structure PathInv (F : List Feed) (i0 : Int) (pre : List Nat) (last : Nat) (p : Int) : Prop where
  eq : pathL F F.length i0 = pre ++ pathL F last p
  le : pre.length + last ≤ F.length
theorem PathInv.start (F : List Feed) (i0 : Int) : PathInv F i0 [] F.length i0 := ⟨by simp, by simp⟩
theorem PathInv.next {F : List Feed} {i0 : Int} {pre : List Nat} {last k : Nat} (h : PathInv F i0 pre last (k : Int)) (hk : k < last) (hl : k < F.length) : PathInv F i0 (pre ++ [k]) k F[k].parent := by
  refine ⟨?_, ?_⟩
  · rw [h.eq, pathL_in hk hl]; simp
  · have := h.le; simp; omega
theorem PathInv.stop {F : List Feed} {i0 p : Int} {pre : List Nat} {last : Nat} (h : PathInv F i0 pre last p) (hk : ¬ (0 ≤ p ∧ p < last)) : pathL F F.length i0 = pre := by
  rw [h.eq, pathL_out hk, List.append_nil]
theorem snoc_encN {pre : List Nat} {k : Nat} : pre.flatMap encN ++ [Value.int .i64 (k : Int)] = (pre ++ [k]).flatMap encN := by rw [List.flatMap_append]; rfl
theorem last_encN {pre : List Nat} {m last : Nat} (hm : pre.length = m + 1) (h : pre.getLast? = some last) : (pre.flatMap encN)[m]? = some (.int .i64 (last : Int)) := by
  have h1 : pre[m]? = some last := by rw [← h, List.getLast?_eq_getElem?, hm]; rfl
  have := flat_at encN 1 encN_len pre m last h1 0 _ rfl
  simpa using this

set_option maxRecDepth 100000 in
set_option maxHeartbeats 6400000 in
theorem path_any (nm : ByteArray) (F : List Feed) (fv : Value) (B : Option Addr) (m d : Nat) (i0 : Int) (w : World) (hF : IsSl w 5 fv (F.map Feed.cells)) (hl : F.length ≤ 1000000) :
    Calls Tryd.prog 15 #[.agg #[.string nm, fv, .slice B m d], .int .i64 i0] w fun e w' => ∃ v, e = .returned v ∧ IsSl w' 1 v ((pathL F F.length i0).map encN) ∧ Below w.heap.size w w' := by
  obtain ⟨A, c, rfl, hlc, hcm, hsl⟩ := islen' hF
  obtain ⟨i1, hi, hz0, hz1, hz2⟩ := info_parts intInfo
  obtain ⟨W0, hW0, hb0, hg0, hx0⟩ := box1 w #[.string nm, .slice A F.length c, .slice B m d] 25
  have HSL := Lib.hid (hsl.below hb0)
  clear hF hsl hlc hcm
  go_enter Tryd.func15, Tryd.ntmps15
  go_wp2_with fail
  rw [← hW0]
  clear hW0
  go_loopw [5, 6] (fun v i wr => ∃ (pre : List Nat) (last : Nat) (p : Int), i = .int .i64 p ∧ Below W0.heap.size W0 wr ∧ wr.ownsRow W0.heap.size 3 1 v pre.length (pre.flatMap encN) ∧ Hid (PathInv F i0 pre last p) ∧ Hid ((pre = [] ∧ last = F.length) ∨ pre.getLast? = some last)) (fun v _ _ => F.length + 1 - sliceLen v)
  case atStart => exact ⟨[], F.length, i0, rfl, Below.refl _ _, World.ownsRow_nil _ _ _ _, PathInv.start F i0, .inl ⟨rfl, rfl⟩⟩
  case round =>
    obtain ⟨pre, last, p, rfl, hbw, hown, HI, HL⟩ := hrel
    obtain ⟨hc, hf⟩ := bcell hbw
    have hle := HI.out.le
    have hlv := own_len hown
    by_cases hp : 0 ≤ p ∧ p < F.length
    · obtain ⟨k, rfl⟩ : ∃ k : Nat, p = k := ⟨p.toNat, by omega⟩
      have hk : k < F.length := by omega
      have hif : (decide (0 ≤ (k : Int)) && decide ((k : Int) < (F.length : Int))) = true := by simp; omega
      have hki : (k : Int) < (F.length : Int) := by omega
      obtain ⟨b, off, rfl, hbb, c0, c1, c2, c3, c4⟩ := feed_at HSL.out hk
      clear c0 c2 c3 c4 hp
      have HLV := Lib.hid hlv
      clear hlv
      have HNX := Lib.hid (fun h => HI.out.next h hk)
      generalize F[k].parent = par at *
      rcases Nat.eq_zero_or_pos pre.length with hz | hz
      · have hkl : k < last := by
          rcases HL.out with ⟨_, h⟩ | h
          · omega
          · rw [List.eq_nil_of_length_eq_zero hz] at h; simp at h
        have HN := Lib.hid (HNX.out hkl)
        clear HNX
        obtain ⟨A2, cap, hv⟩ := own_shape hown
        rw [hz] at hv
        obtain rfl := hv
        have HZ := Lib.hid hz
        clear hz
        go_wp2_with fail
        refine (isFeeder_any nm (some ⟨b, off, none⟩) F.length c _ k _).mono ?_
        rintro e w3 ⟨rfl, hb3⟩
        rw [hif]
        have hown3 := own_below hown hb3
        have hbw3 := hbw.trans (hb3.mono hbw.size)
        clear hc hf
        obtain ⟨hc, hf⟩ := bcell hbw3
        go_wp2_with (at_builtin; refine wpList_append_row _ _ rfl (.tmp 30) (.tmp 32) _ rfl W0.heap.size 3 i1 _ 1 8 Tryd.underlying29 hi hz0 hz1 hz2 rfl (by decide) _ _ _ rfl hown3 _ rfl rfl (by intro u hu; simp at hu; rcases hu with rfl; rfl) (by omega) (by omega) hbw3.size ?_; intro v' w2 hown2 hgrow hblk; have hb2 := below_grown hbw3 hown3 (Nat.le_refl _) hgrow; clear hc hf; obtain ⟨hc, hf⟩ := bcell hb2)
        rw [snoc_encN] at hown2
        go_roundw
        case measure => rw [own_len hown2, HLV.out]; have := HN.out.le; simp at this; omega
        case rel => exact ⟨pre ++ [k], k, par, rfl, hb2, by rw [List.length_append]; exact hown2, HN.out, .inr (by simp)⟩
      · have hgl : pre.getLast? = some last := by
          rcases HL.out with ⟨h, _⟩ | h
          · rw [h] at hz; simp at hz
          · exact h
        obtain ⟨q, hq⟩ : ∃ q, pre.length = q + 1 := ⟨pre.length - 1, by omega⟩
        have HLE := Lib.hid (last_encN hq hgl)
        have HG := Lib.hid hgl
        clear hgl
        obtain ⟨g, cap, rfl, hg1, hg2, hcap, hcap2, hcl⟩ := own_split hown hz
        have hcq := hcl q _ HLE.out
        clear hcl
        have HQ := Lib.hid hq
        rw [hq] at hown hle hcap
        have hz' : 0 < q + 1 := by omega
        by_cases hkl : k < last
        · have hkli : (k : Int) < (last : Int) := by omega
          have HN := Lib.hid (HNX.out hkl)
          clear HNX
          rw [hq]
          clear hq hz
          go_wp2_with fail
          refine (isFeeder_any nm (some ⟨b, off, none⟩) F.length c _ k _).mono ?_
          rintro e w3 ⟨rfl, hb3⟩
          rw [hif]
          have hown3 := own_below hown hb3
          have hcq3 := (hb3.cell (p := ⟨g, q, none⟩) hg2).trans hcq
          have hbw3 := hbw.trans (hb3.mono hbw.size)
          clear hc hf
          obtain ⟨hc, hf⟩ := bcell hbw3
          go_wp2_with (at_builtin; refine wpList_append_row _ _ rfl (.tmp 30) (.tmp 32) _ rfl W0.heap.size 3 i1 _ 1 8 Tryd.underlying29 hi hz0 hz1 hz2 rfl (by decide) _ _ _ rfl hown3 _ rfl rfl (by intro u hu; simp at hu; rcases hu with rfl; rfl) (by omega) (by omega) hbw3.size ?_; intro v' w2 hown2 hgrow hblk; have hb2 := below_grown hbw3 hown3 (Nat.le_refl _) hgrow; clear hc hf; obtain ⟨hc, hf⟩ := bcell hb2)
          rw [snoc_encN] at hown2
          go_roundw
          case measure => rw [own_len hown2]; have := HN.out.le; simp at this; have := HQ.out; simp [sliceLen]; omega
          case rel => exact ⟨pre ++ [k], k, par, rfl, hb2, by rw [List.length_append, HQ.out]; exact hown2, HN.out, .inr (by simp)⟩
        · have hkli : ¬ (k : Int) < (last : Int) := by omega
          have HE := Lib.hid (HI.out.stop (fun h => hkli h.2))
          rw [hq]
          clear hq hz
          go_wp2_with fail
          refine (isFeeder_any nm (some ⟨b, off, none⟩) F.length c _ k _).mono ?_
          rintro e w3 ⟨rfl, hb3⟩
          rw [hif]
          have hown3 := own_below hown hb3
          have hcq3 := (hb3.cell (p := ⟨g, q, none⟩) hg2).trans hcq
          have hbw3 := hbw.trans (hb3.mono hbw.size)
          clear hc hf
          obtain ⟨hc, hf⟩ := bcell hbw3
          go_wp2_with fail
          go_ret
          exact ⟨_, rfl, by rw [HE.out]; exact IsSl.of_own encN_len hown3 HQ.out, below_step hb0 hbw3⟩
    · have hif : (decide (0 ≤ p) && decide (p < (F.length : Int))) = false := by simp; omega
      have HE := Lib.hid (HI.out.stop (fun h => hp ⟨h.1, by have := h.2; have := hle; omega⟩))
      obtain ⟨A2, cap, rfl⟩ := own_shape hown
      clear hp hlv
      go_wp2_with fail
      refine (isFeeder_any nm A F.length c _ p _).mono ?_
      rintro e w3 ⟨rfl, hb3⟩
      rw [hif]
      have hown3 := own_below hown hb3
      have hbw3 := hbw.trans (hb3.mono hbw.size)
      clear hc hf
      go_wp2_with fail
      go_ret
      exact ⟨_, rfl, by rw [HE.out]; exact IsSl.of_own encN_len hown3 rfl, below_step hb0 hbw3⟩

set_option maxRecDepth 100000 in
set_option maxHeartbeats 6400000 in
theorem refPath_any (nm : ByteArray) (F : List Feed) (fv : Value) (B : Option Addr) (m d : Nat) (i0 : Int) (w : World) (hF : IsSl w 5 fv (F.map Feed.cells)) (hl : F.length ≤ 1000000) :
    Calls Tryd.prog 16 #[.agg #[.string nm, fv, .slice B m d], .int .i64 i0] w fun e w' => ∃ v, e = .returned v ∧ IsSl w' 1 v ((pathL F F.length i0).map encN) ∧ Below w.heap.size w w' ∧ Fresh w v := by
  obtain ⟨A, c, rfl, hlc, hcm, hsl⟩ := islen' hF
  obtain ⟨i1, hi, hz0, hz1, hz2⟩ := info_parts intInfo
  obtain ⟨W0, hW0, hb0, hg0, hx0⟩ := box1 w #[.string nm, .slice A F.length c, .slice B m d] 25
  have HSL := Lib.hid (hsl.below hb0)
  clear hF hsl hlc hcm
  go_enter Tryd.func16, Tryd.ntmps16
  go_wp2_with fail
  rw [← hW0]
  clear hW0
  go_loopw [5, 6, 7] (fun v l i wr => ∃ (pre : List Nat) (last : Nat) (p : Int), l = .int .i64 last ∧ i = .int .i64 p ∧ Below W0.heap.size W0 wr ∧ wr.ownsRow W0.heap.size 3 1 v pre.length (pre.flatMap encN) ∧ Hid (PathInv F i0 pre last p)) (fun _ l _ _ => (intOf l).toNat)
  case atStart => exact ⟨[], F.length, i0, rfl, rfl, Below.refl _ _, World.ownsRow_nil _ _ _ _, PathInv.start F i0⟩
  case round =>
    obtain ⟨pre, last, p, rfl, rfl, hbw, hown, HI⟩ := hrel
    obtain ⟨hc, hf⟩ := bcell hbw
    have hle := HI.out.le
    by_cases hp : 0 ≤ p ∧ p < last
    · obtain ⟨k, rfl⟩ : ∃ k : Nat, p = k := ⟨p.toNat, by omega⟩
      have hk : k < F.length := by omega
      have hkl : k < last := by omega
      have hki : (k : Int) < (F.length : Int) := by omega
      have hkli : (k : Int) < (last : Int) := by omega
      obtain ⟨b, off, rfl, hbb, c0, c1, c2, c3, c4⟩ := feed_at HSL.out hk
      clear c0 c2 c3 c4 hp
      have HN := Lib.hid (HI.out.next hkl hk)
      generalize F[k].parent = par at *
      go_wp2_with (at_builtin; refine wpList_append_row _ _ rfl (.tmp 25) (.tmp 27) _ rfl W0.heap.size 3 i1 _ 1 8 Tryd.underlying29 hi hz0 hz1 hz2 rfl (by decide) _ _ _ rfl hown _ rfl rfl (by intro u hu; simp at hu; rcases hu with rfl; rfl) (by omega) (by omega) hbw.size ?_; intro v' w2 hown2 hgrow hblk; have hb2 := below_grown hbw hown (Nat.le_refl _) hgrow; clear hc hf; obtain ⟨hc, hf⟩ := bcell hb2)
      rw [snoc_encN] at hown2
      go_roundw
      case measure => simp [intOf]; omega
      case rel => exact ⟨pre ++ [k], k, par, rfl, rfl, hb2, by rw [List.length_append]; exact hown2, HN.out⟩
    · have HE := Lib.hid (HI.out.stop hp)
      by_cases hp0 : 0 ≤ p
      · have hp1 : ¬ p < (last : Int) := by omega
        clear hp
        go_wp2_with fail
        go_ret
        exact ⟨_, rfl, by rw [HE.out]; exact IsSl.of_own encN_len hown rfl, below_step hb0 hbw, fresh_own hown hb0.size⟩
      · clear hp
        go_wp2_with fail
        go_ret
        exact ⟨_, rfl, by rw [HE.out]; exact IsSl.of_own encN_len hown rfl, below_step hb0 hbw, fresh_own hown hb0.size⟩

end Go.Proofs.YtkjggfhbnhpdnaaDoor
