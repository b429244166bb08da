/-
  Walks: the path of a feeder, in package site and in its reference.
  A row of elements of several cells under construction: its block is known whole; what is copied and stored into it. No program is named here.
  Caps as rows; two caps compared.
  Walks: the feeders that carry more than they may; lists that are compared.
  Walks: Over of the reference; lists of caps and of numbers that are compared; sizes.
  Walks: a power is added to a load.
  A number that a cell of 64 bits may hold. No program is named here.
  Plain facts: what a valid site is; phases that are masked.
-/
import Derived.Test.YtlpjniejbblcnaaDoorM3
import Derived.Test.YtlpjniejbblcnaaDoorM2
import Derived.Test.YtlpjniejbblcnaaDoorProg
import Derived.Test.YtlpjniejbblcnaaDoorM1
import Derived.Deep.DeepCutAuto
import Derived.Laws.BitsAllLaws

namespace Go.Proofs.YtlpjniejbblcnaaDoor
open Go.RowKit Go.Lib Go.Maps
set_option linter.unusedVariables false

structure PathInv (F : List Feed) (i0 : Int) (pre : List Nat) (last : Nat) (p : Int) : Prop where
  eq : pathL F F.length i0 = pre ++ pathL F last p
  le : pre.length + last ≤ F.length
theorem PathInv.start (F : List Feed) (i0 : Int) : PathInv F i0 [] F.length i0 := ⟨by simp, by simp⟩
theorem PathInv.next {F : List Feed} {i0 : Int} {pre : List Nat} {last k : Nat} (h : PathInv F i0 pre last (k : Int)) (hk : k < last) (hl : k < F.length) : PathInv F i0 (pre ++ [k]) k F[k].parent := by
  refine ⟨?_, ?_⟩
  · rw [h.eq, pathL_in hk hl]; simp
  · have := h.le; simp; omega
theorem PathInv.stop {F : List Feed} {i0 p : Int} {pre : List Nat} {last : Nat} (h : PathInv F i0 pre last p) (hk : ¬ (0 ≤ p ∧ p < last)) : pathL F F.length i0 = pre := by
  rw [h.eq, pathL_out hk, List.append_nil]
theorem snoc_encN {pre : List Nat} {k : Nat} : pre.flatMap encN ++ [Value.int .i64 (k : Int)] = (pre ++ [k]).flatMap encN := by rw [List.flatMap_append]; rfl
theorem last_encN {pre : List Nat} {m last : Nat} (hm : pre.length = m + 1) (h : pre.getLast? = some last) : (pre.flatMap encN)[m]? = some (.int .i64 (last : Int)) := by
  have h1 : pre[m]? = some last := by rw [← h, List.getLast?_eq_getElem?, hm]; rfl
  have := flat_at encN 1 encN_len pre m last h1 0 _ rfl
  simpa using this

theorem own_mono {w : World} {B B' n size : Nat} {e : TypeId} {v : Value} {xs : List Value} (h : w.ownsRow B e size v n xs) (hb : B' ≤ B) : w.ownsRow B' e size v n xs :=
  ⟨h.1, h.2.imp id (fun ⟨g, cap, cur, hv, h1, h2⟩ => ⟨g, cap, cur, hv, Nat.le_trans hb h1, h2⟩)⟩

set_option maxRecDepth 100000 in
set_option maxHeartbeats 6400000 in
theorem path_own (nm : ByteArray) (F : List Feed) (fv : Value) (B : Option Addr) (m d : Nat) (i0 : Int) (w : World) (hF : IsSl w 5 fv (F.map Feed.cells)) (hl : F.length ≤ 1000000) :
    Calls Tryd.prog 22 #[.agg #[.string nm, fv, .slice B m d], .int .i64 i0] w fun e w' => ∃ v, e = .returned v ∧ w'.ownsRow w.heap.size 3 1 v (pathL F F.length i0).length ((pathL F F.length i0).flatMap encN) ∧ Below w.heap.size w w' := by
  obtain ⟨A, c, rfl, hlc, hcm, hsl⟩ := islen' hF
  obtain ⟨i1, hi, hz0, hz1, hz2⟩ := info_parts intInfo
  obtain ⟨W0, hW0, hb0, hg0, hx0⟩ := box1 w #[.string nm, .slice A F.length c, .slice B m d] 30
  have HSL := Lib.hid (hsl.below hb0)
  clear hF hsl hlc hcm
  go_enter Tryd.func22, Tryd.ntmps22
  go_wp2_with fail
  rw [← hW0]
  clear hW0
  go_loopw [5, 6] (fun v i wr => ∃ (pre : List Nat) (last : Nat) (p : Int), i = .int .i64 p ∧ Below W0.heap.size W0 wr ∧ wr.ownsRow W0.heap.size 3 1 v pre.length (pre.flatMap encN) ∧ Hid (PathInv F i0 pre last p) ∧ Hid ((pre = [] ∧ last = F.length) ∨ pre.getLast? = some last)) (fun v _ _ => F.length + 1 - sliceLen v)
  case atStart => exact ⟨[], F.length, i0, rfl, Below.refl _ _, World.ownsRow_nil _ _ _ _, PathInv.start F i0, .inl ⟨rfl, rfl⟩⟩
  case round =>
    obtain ⟨pre, last, p, rfl, hbw, hown, HI, HL⟩ := hrel
    obtain ⟨hc, hf⟩ := bcell hbw
    have hle := HI.out.le
    have hlv := own_len hown
    by_cases hp : 0 ≤ p ∧ p < F.length
    · obtain ⟨k, rfl⟩ : ∃ k : Nat, p = k := ⟨p.toNat, by omega⟩
      have hk : k < F.length := by omega
      have hif : (decide (0 ≤ (k : Int)) && decide ((k : Int) < (F.length : Int))) = true := by simp; omega
      have hki : (k : Int) < (F.length : Int) := by omega
      obtain ⟨b, off, rfl, hbb, c0, c1, c2, c3, c4⟩ := feed_at HSL.out hk
      clear c0 c2 c3 c4 hp
      have HLV := Lib.hid hlv
      clear hlv
      have HNX := Lib.hid (fun h => HI.out.next h hk)
      generalize F[k].parent = par at *
      rcases Nat.eq_zero_or_pos pre.length with hz | hz
      · have hkl : k < last := by
          rcases HL.out with ⟨_, h⟩ | h
          · omega
          · rw [List.eq_nil_of_length_eq_zero hz] at h; simp at h
        have HN := Lib.hid (HNX.out hkl)
        clear HNX
        obtain ⟨A2, cap, hv⟩ := own_shape hown
        rw [hz] at hv
        obtain rfl := hv
        have HZ := Lib.hid hz
        clear hz
        go_wp2_with fail
        refine (isFeeder_any nm (some ⟨b, off, none⟩) F.length c _ k _).mono ?_
        rintro e w3 ⟨rfl, hb3⟩
        rw [hif]
        have hown3 := own_below hown hb3
        have hbw3 := hbw.trans (hb3.mono hbw.size)
        clear hc hf
        obtain ⟨hc, hf⟩ := bcell hbw3
        go_wp2_with (at_builtin; refine wpList_append_row _ _ rfl (.tmp 30) (.tmp 32) _ rfl W0.heap.size 3 i1 _ 1 8 Tryd.underlying22 hi hz0 hz1 hz2 rfl (by decide) _ _ _ rfl hown3 _ rfl rfl (by intro u hu; simp at hu; rcases hu with rfl; rfl) (by omega) (by omega) hbw3.size ?_; intro v' w2 hown2 hgrow hblk; have hb2 := below_grown hbw3 hown3 (Nat.le_refl _) hgrow; clear hc hf; obtain ⟨hc, hf⟩ := bcell hb2)
        rw [snoc_encN] at hown2
        go_roundw
        case measure => rw [own_len hown2, HLV.out]; have := HN.out.le; simp at this; omega
        case rel => exact ⟨pre ++ [k], k, par, rfl, hb2, by rw [List.length_append]; exact hown2, HN.out, .inr (by simp)⟩
      · have hgl : pre.getLast? = some last := by
          rcases HL.out with ⟨h, _⟩ | h
          · rw [h] at hz; simp at hz
          · exact h
        obtain ⟨q, hq⟩ : ∃ q, pre.length = q + 1 := ⟨pre.length - 1, by omega⟩
        have HLE := Lib.hid (last_encN hq hgl)
        have HG := Lib.hid hgl
        clear hgl
        obtain ⟨g, cap, rfl, hg1, hg2, hcap, hcap2, hcl⟩ := own_split hown hz
        have hcq := hcl q _ HLE.out
        clear hcl
        have HQ := Lib.hid hq
        rw [hq] at hown hle hcap
        have hz' : 0 < q + 1 := by omega
        by_cases hkl : k < last
        · have hkli : (k : Int) < (last : Int) := by omega
          have HN := Lib.hid (HNX.out hkl)
          clear HNX
          rw [hq]
          clear hq hz
          go_wp2_with fail
          refine (isFeeder_any nm (some ⟨b, off, none⟩) F.length c _ k _).mono ?_
          rintro e w3 ⟨rfl, hb3⟩
          rw [hif]
          have hown3 := own_below hown hb3
          have hcq3 := (hb3.cell (p := ⟨g, q, none⟩) hg2).trans hcq
          have hbw3 := hbw.trans (hb3.mono hbw.size)
          clear hc hf
          obtain ⟨hc, hf⟩ := bcell hbw3
          go_wp2_with (at_builtin; refine wpList_append_row _ _ rfl (.tmp 30) (.tmp 32) _ rfl W0.heap.size 3 i1 _ 1 8 Tryd.underlying22 hi hz0 hz1 hz2 rfl (by decide) _ _ _ rfl hown3 _ rfl rfl (by intro u hu; simp at hu; rcases hu with rfl; rfl) (by omega) (by omega) hbw3.size ?_; intro v' w2 hown2 hgrow hblk; have hb2 := below_grown hbw3 hown3 (Nat.le_refl _) hgrow; clear hc hf; obtain ⟨hc, hf⟩ := bcell hb2)
          rw [snoc_encN] at hown2
          go_roundw
          case measure => rw [own_len hown2]; have := HN.out.le; simp at this; have := HQ.out; simp [sliceLen]; omega
          case rel => exact ⟨pre ++ [k], k, par, rfl, hb2, by rw [List.length_append, HQ.out]; exact hown2, HN.out, .inr (by simp)⟩
        · have hkli : ¬ (k : Int) < (last : Int) := by omega
          have HE := Lib.hid (HI.out.stop (fun h => hkli h.2))
          rw [hq]
          clear hq hz
          go_wp2_with fail
          refine (isFeeder_any nm (some ⟨b, off, none⟩) F.length c _ k _).mono ?_
          rintro e w3 ⟨rfl, hb3⟩
          rw [hif]
          have hown3 := own_below hown hb3
          have hcq3 := (hb3.cell (p := ⟨g, q, none⟩) hg2).trans hcq
          have hbw3 := hbw.trans (hb3.mono hbw.size)
          clear hc hf
          obtain ⟨hc, hf⟩ := bcell hbw3
          go_wp2_with fail
          go_ret
          exact ⟨_, rfl, by rw [HE.out, HQ.out]; exact own_mono hown3 hb0.size, below_step hb0 hbw3⟩
    · have hif : (decide (0 ≤ p) && decide (p < (F.length : Int))) = false := by simp; omega
      have HE := Lib.hid (HI.out.stop (fun h => hp ⟨h.1, by have := h.2; have := hle; omega⟩))
      obtain ⟨A2, cap, rfl⟩ := own_shape hown
      clear hp hlv
      go_wp2_with fail
      refine (isFeeder_any nm A F.length c _ p _).mono ?_
      rintro e w3 ⟨rfl, hb3⟩
      rw [hif]
      have hown3 := own_below hown hb3
      have hbw3 := hbw.trans (hb3.mono hbw.size)
      clear hc hf
      go_wp2_with fail
      go_ret
      exact ⟨_, rfl, by rw [HE.out]; exact own_mono hown3 hb0.size, below_step hb0 hbw3⟩

theorem path_any (nm : ByteArray) (F : List Feed) (fv : Value) (B : Option Addr) (m d : Nat) (i0 : Int) (w : World) (hF : IsSl w 5 fv (F.map Feed.cells)) (hl : F.length ≤ 1000000) :
    Calls Tryd.prog 22 #[.agg #[.string nm, fv, .slice B m d], .int .i64 i0] w fun e w' => ∃ v, e = .returned v ∧ IsSl w' 1 v ((pathL F F.length i0).map encN) ∧ Below w.heap.size w w' :=
  (path_own nm F fv B m d i0 w hF hl).mono fun _ _ ⟨v, e, h, hb⟩ => ⟨v, e, IsSl.of_own encN_len h rfl, hb⟩

set_option maxRecDepth 100000 in
set_option maxHeartbeats 6400000 in
theorem refPath_any (nm : ByteArray) (F : List Feed) (fv : Value) (B : Option Addr) (m d : Nat) (i0 : Int) (w : World) (hF : IsSl w 5 fv (F.map Feed.cells)) (hl : F.length ≤ 1000000) :
    Calls Tryd.prog 74 #[.agg #[.string nm, fv, .slice B m d], .int .i64 i0] w fun e w' => ∃ v, e = .returned v ∧ IsSl w' 1 v ((pathL F F.length i0).map encN) ∧ Below w.heap.size w w' ∧ Fresh w v := by
  obtain ⟨A, c, rfl, hlc, hcm, hsl⟩ := islen' hF
  obtain ⟨i1, hi, hz0, hz1, hz2⟩ := info_parts intInfo
  obtain ⟨W0, hW0, hb0, hg0, hx0⟩ := box1 w #[.string nm, .slice A F.length c, .slice B m d] 30
  have HSL := Lib.hid (hsl.below hb0)
  clear hF hsl hlc hcm
  go_enter Tryd.func74, Tryd.ntmps74
  go_wp2_with fail
  rw [← hW0]
  clear hW0
  go_loopw [5, 6, 7] (fun v l i wr => ∃ (pre : List Nat) (last : Nat) (p : Int), l = .int .i64 last ∧ i = .int .i64 p ∧ Below W0.heap.size W0 wr ∧ wr.ownsRow W0.heap.size 3 1 v pre.length (pre.flatMap encN) ∧ Hid (PathInv F i0 pre last p)) (fun _ l _ _ => (intOf l).toNat)
  case atStart => exact ⟨[], F.length, i0, rfl, rfl, Below.refl _ _, World.ownsRow_nil _ _ _ _, PathInv.start F i0⟩
  case round =>
    obtain ⟨pre, last, p, rfl, rfl, hbw, hown, HI⟩ := hrel
    obtain ⟨hc, hf⟩ := bcell hbw
    have hle := HI.out.le
    by_cases hp : 0 ≤ p ∧ p < last
    · obtain ⟨k, rfl⟩ : ∃ k : Nat, p = k := ⟨p.toNat, by omega⟩
      have hk : k < F.length := by omega
      have hkl : k < last := by omega
      have hki : (k : Int) < (F.length : Int) := by omega
      have hkli : (k : Int) < (last : Int) := by omega
      obtain ⟨b, off, rfl, hbb, c0, c1, c2, c3, c4⟩ := feed_at HSL.out hk
      clear c0 c2 c3 c4 hp
      have HN := Lib.hid (HI.out.next hkl hk)
      generalize F[k].parent = par at *
      go_wp2_with (at_builtin; refine wpList_append_row _ _ rfl (.tmp 25) (.tmp 27) _ rfl W0.heap.size 3 i1 _ 1 8 Tryd.underlying22 hi hz0 hz1 hz2 rfl (by decide) _ _ _ rfl hown _ rfl rfl (by intro u hu; simp at hu; rcases hu with rfl; rfl) (by omega) (by omega) hbw.size ?_; intro v' w2 hown2 hgrow hblk; have hb2 := below_grown hbw hown (Nat.le_refl _) hgrow; clear hc hf; obtain ⟨hc, hf⟩ := bcell hb2)
      rw [snoc_encN] at hown2
      go_roundw
      case measure => simp [intOf]; omega
      case rel => exact ⟨pre ++ [k], k, par, rfl, rfl, hb2, by rw [List.length_append]; exact hown2, HN.out⟩
    · have HE := Lib.hid (HI.out.stop hp)
      by_cases hp0 : 0 ≤ p
      · have hp1 : ¬ p < (last : Int) := by omega
        clear hp
        go_wp2_with fail
        go_ret
        exact ⟨_, rfl, by rw [HE.out]; exact IsSl.of_own encN_len hown rfl, below_step hb0 hbw, fresh_own hown hb0.size⟩
      · clear hp
        go_wp2_with fail
        go_ret
        exact ⟨_, rfl, by rw [HE.out]; exact IsSl.of_own encN_len hown rfl, below_step hb0 hbw, fresh_own hown hb0.size⟩

end Go.Proofs.YtlpjniejbblcnaaDoor

namespace Go.Proofs.YtlpjniejbblcnaaDoor
open Go.RowKit
set_option linter.unusedVariables false

/-- block g holds these cells, none frozen -/
def Blk (w : World) (g : Nat) (T : TypeId) (cur : List Value) : Prop := w.heap[g]? = some (.cells cur.toArray T (0, 0))

section
variable {w w' : World} {g : Nat} {T : TypeId} {cur : List Value}
theorem Blk.cell (h : Blk w g T cur) (j : Nat) : w.cell? ⟨g, j, none⟩ = cur[j]? := by unfold Blk at h; simp [World.cell?, h]
theorem Blk.free (h : Blk w g T cur) (j : Nat) : w.frozen? ⟨g, j, none⟩ = false := frozen_of_row w g j _ T h
theorem Blk.new (w : World) (Z : Array Value) (T : TypeId) : Blk (w.alloc (.cells Z T)) w.heap.size T Z.toList := by unfold Blk; rw [heap_alloc_new]
theorem Blk.below (h : Blk w g T cur) {B : Nat} (hb : Below B w w') (hg : g < B) : Blk w' g T cur := (hb.block g hg).trans h
theorem Blk.set (h : Blk w g T cur) (k : Nat) (v : Value) : Blk (w.setCell ⟨g, k, none⟩ v) g T (cur.set k v) := by
  unfold Blk at *
  rw [heap_setCell_same w g k _ T v h]
  simp
theorem Blk.store (vs : List Value) : ∀ {w : World} {cur : List Value} (k : Nat), Blk w g T cur → Blk (storeRow w g k vs) g T (setAll cur k vs) := by
  induction vs with
  | nil => intro w cur k h; exact h
  | cons v vs ih => intro w cur k h; exact ih (k + 1) (h.set k v)
theorem Blk.other (h : Blk w g T cur) {b k : Nat} (hn : g ≠ b) (v : Value) : Blk (w.setCell ⟨b, k, none⟩ v) g T cur := by
  unfold Blk at *
  rw [Below.heap_setCell w ⟨b, k, none⟩ v g hn]
  exact h
theorem Blk.alloc (h : Blk w g T cur) (o : Obj) : Blk (w.alloc o) g T cur := by
  unfold Blk at *
  exact blk_alloc h o
theorem Blk.drew (h : Blk w g T cur) : Blk w.drew g T cur := h
theorem Blk.new' {W : World} {k : Nat} (hk : k = W.heap.size) (Z : Array Value) (T : TypeId) {zs : List Value} (hz : Z.toList = zs) : Blk (W.alloc (.cells Z T)) k T zs := by subst hk; subst hz; unfold Blk; rw [heap_alloc_new]
theorem far_cell {b g : Nat} (hn : b ≠ g) (W : World) (k : Nat) (v : Value) (j : Nat) : (W.setCell ⟨g, k, none⟩ v).cell? ⟨b, j, none⟩ = W.cell? ⟨b, j, none⟩ :=
  World.cell?_of_block (a := ⟨b, j, none⟩) (Below.heap_setCell W ⟨g, k, none⟩ v b hn)
theorem Blk.arr (h : Blk w g T cur) (j : Nat) : w.cell? ⟨g, j, none⟩ = cur.toArray[j]? := by rw [h.cell]; simp
theorem Blk.lt (h : Blk w g T cur) : g < w.heap.size := (Array.getElem?_eq_some_iff.1 h).1
/-- a block that is all rows of a list -/
theorem Blk.isSl {α : Type} {enc : α → List Value} {size : Nat} (hs : ∀ x, (enc x).length = size) {l : List α} {n : Nat} (h : Blk w g T (l.flatMap enc)) (hn : l.length = n) (hm : n ≤ maxLen) : IsSl w size (.slice (some ⟨g, 0, none⟩) n n) (l.map enc) := by
  refine IsSl.mk (fun k row hk => ?_) (by simpa using hn) (Nat.le_refl _) hm
  obtain ⟨x, hx, rfl⟩ := rows_at enc hk
  refine ⟨g, 0, rfl, h.lt, fun j u hu => ?_⟩
  have e : 0 + k * size + j = k * size + j := by omega
  rw [e, h.cell]
  exact flat_at enc size hs l k x hx j u hu
end

theorem splice_head {A Z : List Value} : splice Z 0 A = A ++ Z.drop A.length := by simp [splice]
theorem splice_at {X R B : List Value} (h : R.length = B.length) : splice (X ++ R) X.length B = X ++ B := by
  simp [splice, List.drop_append]
  omega
theorem splice_two {A B Z : List Value} (h : Z.length = A.length + B.length) : splice (splice Z 0 A) A.length B = A ++ B := by
  rw [splice_head, splice_at (by rw [List.length_drop]; omega)]
theorem setAll_mid : ∀ (vs A R : List Value), vs.length ≤ R.length → setAll (A ++ R) A.length vs = A ++ (vs ++ R.drop vs.length)
  | [], A, R, _ => by simp [setAll]
  | v :: vs, A, [], h => by simp at h
  | v :: vs, A, r :: R, h => by
    have e : (A ++ r :: R).set A.length v = (A ++ [v]) ++ R := by simp
    have ih := setAll_mid vs (A ++ [v]) R (by simpa using h)
    rw [setAll, e]
    rw [List.length_append, List.length_cons, List.length_nil] at ih
    rw [ih]
    simp
theorem splice_three {A C B Z : List Value} (h : Z.length = A.length + C.length + B.length) : splice (setAll (splice Z 0 A) A.length C) (A.length + C.length) B = A ++ C ++ B := by
  rw [splice_head, setAll_mid _ _ _ (by rw [List.length_drop]; omega)]
  have e : A ++ (C ++ List.drop C.length (List.drop A.length Z)) = (A ++ C) ++ List.drop C.length (List.drop A.length Z) := by simp
  have e2 : A.length + C.length = (A ++ C).length := by simp
  rw [e, e2, splice_at (by rw [List.length_drop, List.length_drop]; omega)]

theorem SlAt.take {w : World} {size : Nat} {A : Option Addr} {rows : List (List Value)} (h : SlAt w size A rows) (n : Nat) : SlAt w size A (rows.take n) := by
  intro k row hk
  rw [List.getElem?_take] at hk
  split at hk
  · exact h k row hk
  · simp at hk

section
variable {P : Program}
/-- copy of all rows of a list to a place of a block that is known whole -/
theorem wpList_copy_to {α : Type} {enc : α → List Value} {w : World} {ops : Array Oper} {rest : List Oper} {o : Oper} {a : Act} {Q : Exit → Act → World → Prop} (hgd : o.guard = none) (d s : Operand) (dT sT : TypeId)
    (ho : o.op = .call { callee := .builtin .copy, args := #[d, s], argTypes := #[dT, sT] }) (elem : TypeId) (size : Nat) (hu : P.underlying dT = some (.slice elem)) (i : TypeInfo) (hi : P.info? elem = some i) (hsz : i.size = size)
    (hs : ∀ x, (enc x).length = size) (hp : 0 < size) (hone : ∀ x, ∀ u ∈ enc x, u.oneCell' = true)
    (D A : Option Addr) (dLen dCap sLen sCap : Nat) (hd : a.eval d = .slice D dLen dCap) (hsv : a.eval s = .slice A sLen sCap)
    (g off : Nat) (cur : List Value) (t : TypeId) (hg : Blk w g t cur) (l : List α) (hl : SlAt w size A (l.map enc)) (hn : l.length = Nat.min sLen dLen) (hD : 0 < l.length → D = some ⟨g, off, none⟩) (hfit : off + l.length * size ≤ cur.length)
    (h : ∀ w', Blk w' g t (splice cur off (l.flatMap enc)) → w.grownBy w' (some g) → wpList P ops Q rest (a.put o.dst (goInt (Nat.min sLen dLen : Nat))) w') :
    wpList P ops Q (o :: rest) a w := by
  have hf := flat_len enc size hs l
  refine wpList_copy_rows hgd d s dT sT ho elem size hu i hi hsz D A dLen dCap sLen sCap hd hsv g off cur t hg (l.flatMap enc) (by rw [hf, hn]) (fun hpos => ?_) (by rw [hf]; exact hfit) (fun v hv => ?_) h
  · have hl0 : 0 < l.length := by
      rcases Nat.eq_zero_or_pos l.length with e | e
      · rw [hf, e] at hpos; simp at hpos
      · exact e
    exact ⟨hD hl0, src_rows hs hp hl (List.length_pos_iff.1 hl0)⟩
  · rw [List.mem_flatMap] at hv
    obtain ⟨y, _, hy⟩ := hv
    exact hone y v hy
end

end Go.Proofs.YtlpjniejbblcnaaDoor

namespace Go.Proofs.YtlpjniejbblcnaaDoor
open Go.RowKit Go.Lib Go.Maps
set_option linter.unusedVariables false

theorem CapR.cells_len (c : CapR) : c.cells.length = 4 := rfl
theorem cap_at {w : World} {A : Option Addr} {l : List CapR} (h : SlAt w 4 A (l.map CapR.cells)) {k : Nat} (hk : k < l.length) :
    ∃ b off, A = some ⟨b, off, none⟩ ∧ b < w.heap.size ∧ w.cell? ⟨b, off + k * 4, none⟩ = some (.int .i64 l[k].a) ∧ w.cell? ⟨b, off + k * 4 + 1, none⟩ = some (.int .i64 l[k].b) ∧ w.cell? ⟨b, off + k * 4 + 2, none⟩ = some (.int .i64 l[k].c) ∧
      w.cell? ⟨b, off + k * 4 + 3, none⟩ = some (.int .i64 l[k].t) := by
  obtain ⟨b, off, e, hb, hc⟩ := h k l[k].cells (by rw [List.getElem?_map, List.getElem?_eq_getElem hk]; rfl)
  exact ⟨b, off, e, hb, hc 0 _ rfl, hc 1 _ rfl, hc 2 _ rfl, hc 3 _ rfl⟩
theorem old_alloc {w : World} {b : Nat} (h : b < w.heap.size) (o : Obj) (j : Nat) : (w.alloc o).cell? ⟨b, j, none⟩ = w.cell? ⟨b, j, none⟩ := World.cell?_of_block (a := ⟨b, j, none⟩) (Below.heap_alloc _ _ _ h)
theorem old_alloc2 {w : World} {b : Nat} (h : b < w.heap.size) (o o' : Obj) (j : Nat) : ((w.alloc o).alloc o').cell? ⟨b, j, none⟩ = w.cell? ⟨b, j, none⟩ := (old_alloc (by simp; omega) o' j).trans (old_alloc h o j)

noncomputable def eqL {α : Type} (a b : List α) : Bool := @decide (a = b) (Classical.propDecidable _)
theorem eqL_t {α : Type} {a b : List α} (h : a = b) : eqL a b = true := by unfold eqL; simpa using h
theorem eqL_f {α : Type} {a b : List α} (h : ¬ a = b) : eqL a b = false := by unfold eqL; simpa using h
theorem take_step {α : Type} {a b : List α} {k : Nat} (h : a.take k = b.take k) (h1 : k < a.length) (h2 : k < b.length) (e : a[k] = b[k]) : a.take (k + 1) = b.take (k + 1) := by
  rw [List.take_succ_eq_append_getElem h1, List.take_succ_eq_append_getElem h2, h, e]
theorem take_stop {α : Type} {a b : List α} {k : Nat} (h1 : k < a.length) (h2 : k < b.length) (e : a = b) : a[k] = b[k] := by subst e; rfl
theorem take_all {α : Type} {a b : List α} {k : Nat} (h : a.take k = b.take k) (hl : a.length = b.length) (h1 : ¬ k < a.length) : a = b := by
  rw [List.take_of_length_le (by omega), List.take_of_length_le (by omega)] at h
  exact h

def eqC (x y : CapR) : Bool := (x.a == y.a && (x.b == y.b && x.c == y.c)) && x.t == y.t
theorem eqC_iff (x y : CapR) : eqC x y = true ↔ x = y := by
  obtain ⟨a1, a2, a3, a4⟩ := x
  obtain ⟨b1, b2, b3, b4⟩ := y
  simp [eqC, and_assoc]
set_option maxRecDepth 100000 in
theorem eq_tri (a b c a' b' c' : Int) (w : World) : (Op.equalIn 9999 24 (.agg #[.int .i64 a, .int .i64 b, .int .i64 c]) (.agg #[.int .i64 a', .int .i64 b', .int .i64 c'])).run Tryd.prog w = .ok (a == a' && (b == b' && c == c')) w := by
  rw [run_equalIn_agg w 9998 _ _ _ Tryd.underlying24 Tryd.stoodInHeld24]
  simp only [Program.fieldsOf, Tryd.underlying24]
  cases h1 : (a == a') <;> cases h2 : (b == b') <;> cases h3 : (c == c') <;>
    simp [go_sem, Op.eqFields, part, run_equalIn_int _ _ _ _ _ _ _ Tryd.underlying3, h1, h2, h3]
set_option maxRecDepth 100000 in
theorem eq_cap (x y : CapR) (w : World) : (Op.equalIn 10000 41 (.agg #[.int .i64 x.a, .int .i64 x.b, .int .i64 x.c, .int .i64 x.t]) (.agg #[.int .i64 y.a, .int .i64 y.b, .int .i64 y.c, .int .i64 y.t])).run Tryd.prog w = .ok (eqC x y) w := by
  rw [run_equalIn_agg w 9999 _ _ _ Tryd.underlying41 Tryd.stoodInHeld41]
  simp only [Program.fieldsOf, Tryd.underlying41]
  cases h1 : (x.a == y.a && (x.b == y.b && x.c == y.c)) <;> cases h4 : (x.t == y.t) <;>
    simp [go_sem, Op.eqFields, part, eqC, eq_tri, run_equalIn_int _ _ _ _ _ _ _ Tryd.underlying3, h1, h4]
theorem neq_cap (x y : CapR) (w : World) : (binOp .neq 41 (.agg #[.int .i64 x.a, .int .i64 x.b, .int .i64 x.c, .int .i64 x.t]) (.agg #[.int .i64 y.a, .int .i64 y.b, .int .i64 y.c, .int .i64 y.t])).run Tryd.prog w = .ok (.bool (!eqC x y)) w := by
  rw [run_neq_struct, eq_cap]; rfl

theorem capInfo : (Tryd.prog.info? 41).map (fun i => (i.zero, i.size, i.bytes)) = some (some (.agg #[.int .i64 0, .int .i64 0, .int .i64 0, .int .i64 0]), 4, 32) := by kernel_rfl

theorem zero_cells (n : Nat) : (madeCells (Value.agg #[.int .i64 0, .int .i64 0, .int .i64 0, .int .i64 0]).cells (n * 4)).toList = (List.replicate n zeroC).flatMap CapR.cells := by
  have h1 : (madeCells (Value.agg #[.int .i64 0, .int .i64 0, .int .i64 0, .int .i64 0]).cells (n * 4)).toList = List.replicate (n * 4) (.int .i64 0) := by
    rw [List.eq_replicate_iff]
    refine ⟨by simp [size_madeCells], fun v hv => ?_⟩
    unfold madeCells at hv
    simp only [Array.toList_map, List.mem_map] at hv
    obtain ⟨x, _, rfl⟩ := hv
    have hs : (Value.agg #[.int .i64 0, .int .i64 0, .int .i64 0, .int .i64 0]).cells = #[.int .i64 0, .int .i64 0, .int .i64 0, .int .i64 0] := rfl
    rw [hs]
    have hx : x % 4 = 0 ∨ x % 4 = 1 ∨ x % 4 = 2 ∨ x % 4 = 3 := by omega
    show (#[Value.int .i64 0, .int .i64 0, .int .i64 0, .int .i64 0] : Array Value)[x % 4]! = _
    rcases hx with h | h | h | h <;> rw [h] <;> rfl
  rw [h1]
  symm
  rw [List.eq_replicate_iff]
  refine ⟨by rw [flat_len CapR.cells 4 CapR.cells_len]; simp, fun v hv => ?_⟩
  rw [List.mem_flatMap] at hv
  obtain ⟨y, hy, hv⟩ := hv
  rw [List.mem_replicate] at hy
  rw [hy.2] at hv
  simpa [CapR.cells, zeroC] using hv

theorem ret_vint {k : IntKind} {a b : Value} {c d : Int} (h : a = b) (h' : c = d) : Ending.returned (.tuple #[a, .int k c]) = .returned (.tuple #[b, .int k d]) := by rw [h, h']

end Go.Proofs.YtlpjniejbblcnaaDoor

namespace Go.Proofs.YtlpjniejbblcnaaDoor
open Go.RowKit Go.Lib Go.Maps
set_option linter.unusedVariables false

def overP (C L : List CapR) (i : Nat) : Bool := match C[i]?, L[i]? with
  | some x, some y => overB x y
  | _, _ => false
def overU (C L : List CapR) (k : Nat) : List Nat := (List.range k).filter (overP C L)
theorem overU_all (C L : List CapR) : overU C L (min C.length L.length) = overL C L := rfl
theorem overU_step {C L : List CapR} {k : Nat} (h1 : k < C.length) (h2 : k < L.length) : overU C L (k + 1) = if overB C[k] L[k] then overU C L k ++ [k] else overU C L k := by
  unfold overU
  rw [List.range_succ, List.filter_append]
  have e : overP C L k = overB C[k] L[k] := by unfold overP; rw [List.getElem?_eq_getElem h1, List.getElem?_eq_getElem h2]
  by_cases h : overB C[k] L[k] = true
  · simp [e, h]
  · simp [e, h]
theorem overU_len (C L : List CapR) (k : Nat) : (overU C L k).length ≤ k := by
  unfold overU
  exact Nat.le_trans (List.length_filter_le _ _) (by simp)
theorem overB_cases (x y : CapR) : (overB x y = false ∧ ¬ x.a < y.a ∧ ¬ x.b < y.b ∧ ¬ x.c < y.c ∧ ¬ x.t < y.t) ∨ (overB x y = true ∧ (x.a < y.a ∨ (¬ x.a < y.a ∧ x.b < y.b) ∨ (¬ x.a < y.a ∧ ¬ x.b < y.b ∧ x.c < y.c) ∨ (¬ x.a < y.a ∧ ¬ x.b < y.b ∧ ¬ x.c < y.c ∧ x.t < y.t))) := by
  unfold overB
  by_cases h1 : x.a < y.a <;> by_cases h2 : x.b < y.b <;> by_cases h3 : x.c < y.c <;> by_cases h4 : x.t < y.t <;> simp [h1, h2, h3, h4]

set_option maxRecDepth 100000 in
set_option maxHeartbeats 6400000 in
theorem over_any (C L : List CapR) (cv lv : Value) (w : World) (hC : IsSl w 4 cv (C.map CapR.cells)) (hL : IsSl w 4 lv (L.map CapR.cells)) (hl1 : C.length ≤ 1000000) (hl2 : L.length ≤ 1000000) :
    Calls Tryd.prog 34 #[cv, lv] w fun e w' => ∃ v, e = .returned v ∧ IsSl w' 1 v ((overL C L).map encN) ∧ Below w.heap.size w w' := by
  obtain ⟨A, c, rfl, hlc, hcm, hsl⟩ := islen' hC
  obtain ⟨B, d, rfl, hld, hdm, hsl2⟩ := islen' hL
  obtain ⟨i1, hi, hz0, hz1, hz2⟩ := info_parts intInfo
  have HSL := Lib.hid hsl
  have HSL2 := Lib.hid hsl2
  clear hC hL hsl hsl2 hlc hcm hld hdm
  have HM := Lib.hid (overU_all C L)
  obtain ⟨N, hN, HMN, hm1, hm2⟩ : ∃ N : Nat, min (C.length : Int) (L.length : Int) = (N : Int) ∧ Hid (overU C L N = overL C L) ∧ N ≤ C.length ∧ N ≤ L.length := ⟨min C.length L.length, by omega, HM.out, by omega, by omega⟩
  clear HM
  go_enter Tryd.func34, Tryd.ntmps34
  go_wp2_with fail
  go_loopw [5, 14] (fun v i wr => ∃ k : Nat, k ≤ N ∧ i = .int .i64 k ∧ Below w.heap.size w wr ∧ wr.ownsRow w.heap.size 3 1 v (overU C L k).length ((overU C L k).flatMap encN)) (fun _ i _ => N - (intOf i).toNat)
  case atStart => exact ⟨0, by omega, rfl, Below.refl _ _, World.ownsRow_nil _ _ _ _⟩
  case round =>
    obtain ⟨k, hk, rfl, hbw, hown⟩ := hrel
    obtain ⟨hc, hf⟩ := bcell hbw
    have hlU := overU_len C L k
    by_cases hlt : k < N
    · have hki : (k : Int) < (N : Int) := by omega
      have hk1 : k < C.length := by omega
      have hk2 : k < L.length := by omega
      have hk3 : (k : Int) < (C.length : Int) := by omega
      have hk4 : (k : Int) < (L.length : Int) := by omega
      obtain ⟨b, off, rfl, hbb, c0, c1, c2, c3⟩ := cap_at HSL.out hk1
      obtain ⟨b2, off2, rfl, hbb2, d0, d1, d2, d3⟩ := cap_at HSL2.out hk2
      have HS := Lib.hid (overU_step hk1 hk2)
      have hov := overB_cases C[k] L[k]
      generalize C[k] = x at *
      generalize L[k] = y at *
      have HOV := Lib.hid hov
      clear hov
      generalize overU C L k = U at *
      go_wp2_with fail
      go_cut [7, 8] (fun s7 s8 wx => ∃ g7 g8 : Nat, s7 = .pointer (some ⟨g7, 0, none⟩) ∧ s8 = .pointer (some ⟨g8, 0, none⟩) ∧ Below wr.heap.size wr wx ∧ Blk wx g7 41 x.cells ∧ Blk wx g8 41 y.cells)
      case first =>
        have hzw := hbw.size
        have y1 := old_alloc (w := wr) (b := b) (by omega)
        have y2 := old_alloc (w := wr) (b := b2) (by omega)
        have y3 := old_alloc2 (w := wr) (b := b) (by omega)
        have y4 := old_alloc2 (w := wr) (b := b2) (by omega)
        go_region
        all_goals (go_wp2_with fail; go_meet)
        all_goals exact ⟨_, _, rfl, rfl, by repeat (first | exact Below.refl _ _ | refine below_alloc ?_ _ | refine below_drew ?_), by repeat (first | (refine Blk.new' ?_ _ _ rfl; simp; done) | refine Blk.alloc ?_ _ | refine Blk.drew ?_), by repeat (first | (refine Blk.new' ?_ _ _ rfl; simp; done) | refine Blk.alloc ?_ _ | refine Blk.drew ?_)⟩
      case rest =>
        obtain ⟨g7, g8, rfl, rfl, hbx, k7, k8⟩ := hcut
        have x7 : ∀ j, wc.cell? ⟨g7, j, none⟩ = (#[.int .i64 x.a, .int .i64 x.b, .int .i64 x.c, .int .i64 x.t] : Array Value)[j]? := k7.arr
        have x8 : ∀ j, wc.cell? ⟨g8, j, none⟩ = (#[.int .i64 y.a, .int .i64 y.b, .int .i64 y.c, .int .i64 y.t] : Array Value)[j]? := k8.arr
        have hown3 := own_below hown hbx
        have hbw3 := hbw.trans (hbx.mono hbw.size)
        clear hc hf k7 k8 c0 c1 c2 c3 d0 d1 d2 d3
        rcases HOV.out with ⟨hov, h1, h2, h3, h4⟩ | ⟨hov, hcase⟩
        · have HS2 : Hid (overU C L (k + 1) = U) := by unfold Hid; rw [HS.out, hov]; rfl
          clear hov
          go_wp2_with fail
          go_roundw
          case measure => simp [intOf]; omega
          case rel => exact ⟨k + 1, by omega, by go_num, hbw3, by rw [HS2.out]; exact hown3⟩
        · have HS2 : Hid (overU C L (k + 1) = U ++ [k]) := by unfold Hid; rw [HS.out, hov]; rfl
          clear hov
          rcases hcase with h1 | ⟨h1, h2⟩ | ⟨h1, h2, h3⟩ | ⟨h1, h2, h3, h4⟩
          all_goals
            go_wp2_with (at_builtin; refine wpList_append_row _ _ rfl (.tmp 57) (.tmp 59) _ rfl w.heap.size 3 i1 _ 1 8 Tryd.underlying22 hi hz0 hz1 hz2 rfl (by decide) _ _ _ rfl hown3 _ rfl rfl (by intro u hu; simp at hu; rcases hu with rfl; rfl) (by omega) (by omega) hbw3.size ?_; intro v' w2 hown2 hgrow hblk; have hb2 := below_grown hbw3 hown3 (Nat.le_refl _) hgrow)
            rw [snoc_encN] at hown2
            go_roundw
            case measure => simp [intOf]; omega
            case rel => exact ⟨k + 1, by omega, by go_num, hb2, by rw [HS2.out, List.length_append]; exact hown2⟩
    · have hkN : k = N := by omega
      subst hkN
      rw [HMN.out] at hown
      have hki : ¬ (k : Int) < (k : Int) := by omega
      obtain ⟨A2, cap, rfl⟩ := own_shape hown
      go_wp2_with fail
      go_ret
      exact ⟨_, rfl, IsSl.of_own encN_len hown rfl, hbw⟩

end Go.Proofs.YtlpjniejbblcnaaDoor

namespace Go.Proofs.YtlpjniejbblcnaaDoor
open Go.RowKit Go.Lib Go.Maps
set_option linter.unusedVariables false

set_option maxRecDepth 100000 in
set_option maxHeartbeats 6400000 in
theorem refOver_any (C L : List CapR) (cv lv : Value) (w : World) (hC : IsSl w 4 cv (C.map CapR.cells)) (hL : IsSl w 4 lv (L.map CapR.cells)) (hl1 : C.length ≤ 1000000) (hl2 : L.length ≤ 1000000) :
    Calls Tryd.prog 65 #[cv, lv] w fun e w' => ∃ v, e = .returned v ∧ IsSl w' 1 v ((overL C L).map encN) ∧ Below w.heap.size w w' := by
  obtain ⟨A, c, rfl, hlc, hcm, hsl⟩ := islen' hC
  obtain ⟨B, d, rfl, hld, hdm, hsl2⟩ := islen' hL
  obtain ⟨i1, hi, hz0, hz1, hz2⟩ := info_parts intInfo
  have HSL := Lib.hid hsl
  have HSL2 := Lib.hid hsl2
  clear hC hL hsl hsl2 hlc hcm hld hdm
  have HM := Lib.hid (overU_all C L)
  go_enter Tryd.func65, Tryd.ntmps65
  go_wp2_with fail
  go_loopw [5, 6] (fun v i wr => ∃ k : Nat, k ≤ C.length ∧ k ≤ L.length ∧ i = .int .i64 k ∧ Below w.heap.size w wr ∧ wr.ownsRow w.heap.size 3 1 v (overU C L k).length ((overU C L k).flatMap encN)) (fun _ i _ => C.length - (intOf i).toNat)
  case atStart => exact ⟨0, by omega, by omega, rfl, Below.refl _ _, World.ownsRow_nil _ _ _ _⟩
  case round =>
    obtain ⟨k, hk, hk', rfl, hbw, hown⟩ := hrel
    obtain ⟨hc, hf⟩ := bcell hbw
    have hlU := overU_len C L k
    by_cases hlt : k < C.length ∧ k < L.length
    · obtain ⟨hk1, hk2⟩ := hlt
      have hk3 : (k : Int) < (C.length : Int) := by omega
      have hk4 : (k : Int) < (L.length : Int) := by omega
      obtain ⟨b, off, rfl, hbb, c0, c1, c2, c3⟩ := cap_at HSL.out hk1
      obtain ⟨b2, off2, rfl, hbb2, d0, d1, d2, d3⟩ := cap_at HSL2.out hk2
      have HS := Lib.hid (overU_step hk1 hk2)
      have hov := overB_cases C[k] L[k]
      generalize C[k] = x at *
      generalize L[k] = y at *
      have HOV := Lib.hid hov
      clear hov
      generalize overU C L k = U at *
      go_wp2_with fail
      go_cut [7, 8] (fun s7 s8 wx => ∃ g7 g8 : Nat, s7 = .pointer (some ⟨g7, 0, none⟩) ∧ s8 = .pointer (some ⟨g8, 0, none⟩) ∧ Below wr.heap.size wr wx ∧ Blk wx g7 41 x.cells ∧ Blk wx g8 41 y.cells)
      case first =>
        have hzw := hbw.size
        have y1 := old_alloc (w := wr) (b := b) (by omega)
        have y2 := old_alloc (w := wr) (b := b2) (by omega)
        have y3 := old_alloc2 (w := wr) (b := b) (by omega)
        have y4 := old_alloc2 (w := wr) (b := b2) (by omega)
        go_region
        all_goals (go_wp2_with fail; go_meet)
        all_goals exact ⟨_, _, rfl, rfl, by repeat (first | exact Below.refl _ _ | refine below_alloc ?_ _ | refine below_drew ?_), by repeat (first | (refine Blk.new' ?_ _ _ rfl; simp; done) | refine Blk.alloc ?_ _ | refine Blk.drew ?_), by repeat (first | (refine Blk.new' ?_ _ _ rfl; simp; done) | refine Blk.alloc ?_ _ | refine Blk.drew ?_)⟩
      case rest =>
        obtain ⟨g7, g8, rfl, rfl, hbx, k7, k8⟩ := hcut
        have x7 : ∀ j, wc.cell? ⟨g7, j, none⟩ = (#[.int .i64 x.a, .int .i64 x.b, .int .i64 x.c, .int .i64 x.t] : Array Value)[j]? := k7.arr
        have x8 : ∀ j, wc.cell? ⟨g8, j, none⟩ = (#[.int .i64 y.a, .int .i64 y.b, .int .i64 y.c, .int .i64 y.t] : Array Value)[j]? := k8.arr
        have hown3 := own_below hown hbx
        have hbw3 := hbw.trans (hbx.mono hbw.size)
        clear hc hf k7 k8 c0 c1 c2 c3 d0 d1 d2 d3
        rcases HOV.out with ⟨hov, h1, h2, h3, h4⟩ | ⟨hov, hcase⟩
        · have HS2 : Hid (overU C L (k + 1) = U) := by unfold Hid; rw [HS.out, hov]; rfl
          clear hov
          go_wp2_with fail
          go_roundw
          case measure => simp [intOf]; omega
          case rel => exact ⟨k + 1, by omega, by omega, by go_num, hbw3, by rw [HS2.out]; exact hown3⟩
        · have HS2 : Hid (overU C L (k + 1) = U ++ [k]) := by unfold Hid; rw [HS.out, hov]; rfl
          clear hov
          rcases hcase with h1 | ⟨h1, h2⟩ | ⟨h1, h2, h3⟩ | ⟨h1, h2, h3, h4⟩
          all_goals
            go_wp2_with (at_builtin; refine wpList_append_row _ _ rfl (.tmp 61) (.tmp 63) _ rfl w.heap.size 3 i1 _ 1 8 Tryd.underlying22 hi hz0 hz1 hz2 rfl (by decide) _ _ _ rfl hown3 _ rfl rfl (by intro u hu; simp at hu; rcases hu with rfl; rfl) (by omega) (by omega) hbw3.size ?_; intro v' w2 hown2 hgrow hblk; have hb2 := below_grown hbw3 hown3 (Nat.le_refl _) hgrow)
            rw [snoc_encN] at hown2
            go_roundw
            case measure => simp [intOf]; omega
            case rel => exact ⟨k + 1, by omega, by omega, by go_num, hb2, by rw [HS2.out, List.length_append]; exact hown2⟩
    · have hkN : k = min C.length L.length := by omega
      rw [hkN, HM.out] at hown
      clear hkN
      obtain ⟨A2, cap, rfl⟩ := own_shape hown
      by_cases h1 : (k : Int) < (C.length : Int)
      · have h2 : ¬ (k : Int) < (L.length : Int) := by omega
        clear hlt
        go_wp2_with fail
        go_ret
        exact ⟨_, rfl, IsSl.of_own encN_len hown rfl, hbw⟩
      · clear hlt
        go_wp2_with fail
        go_ret
        exact ⟨_, rfl, IsSl.of_own encN_len hown rfl, hbw⟩

def smallB (f p w z c : Nat) : Bool := decide (f ≤ 40) && (decide (p ≤ 40) && (decide (w ≤ 40) && (decide (z ≤ 41) && decide (c ≤ 41))))
theorem small_t {f p w z c : Nat} (h : smallB f p w z c = true) : f ≤ 40 ∧ p ≤ 40 ∧ w ≤ 40 ∧ z ≤ 41 ∧ c ≤ 41 := by unfold smallB at h; simpa using h

end Go.Proofs.YtlpjniejbblcnaaDoor

namespace Go.Proofs.YtlpjniejbblcnaaDoor
open Go.RowKit Go.Lib Go.Maps
set_option linter.unusedVariables false

theorem phase_bits {ph : Int} (h1 : 1 ≤ ph) (h7 : ph ≤ 7) : bits .and .i64 ph 1 = ph % 2 ∧ bits .and .i64 ph 2 = 2 * (ph / 2 % 2) ∧ bits .and .i64 ph 4 = 4 * (ph / 4 % 2) := by
  have h : ph = 1 ∨ ph = 2 ∨ ph = 3 ∨ ph = 4 ∨ ph = 5 ∨ ph = 6 ∨ ph = 7 := by omega
  rcases h with rfl | rfl | rfl | rfl | rfl | rfl | rfl <;> exact ⟨by kernel_rfl, by kernel_rfl, by kernel_rfl⟩

theorem blk_eq {w : World} {g : Nat} {T : TypeId} {a b : List Value} (h : Blk w g T a) (e : a = b) : Blk w g T b := e ▸ h

theorem set4_eq {cur X : List Value} {off : Nat} {v0 v1 v2 v3 : Value} (hX : X.length = cur.length) (hl : off + 4 ≤ cur.length) (h0 : X[off]? = some v0) (h1 : X[off + 1]? = some v1) (h2 : X[off + 2]? = some v2) (h3 : X[off + 3]? = some v3)
    (ho : ∀ j, (j < off ∨ off + 4 ≤ j) → X[j]? = cur[j]?) : X = setAll cur off [v0, v1, v2, v3] := by
  apply List.ext_getElem?
  intro j
  rw [setAll_get _ _ _ (by simpa using hl)]
  by_cases hj : off ≤ j ∧ j < off + 4
  · rw [if_pos (by simpa using hj)]
    have hh : j = off ∨ j = off + 1 ∨ j = off + 2 ∨ j = off + 3 := by omega
    rcases hh with rfl | rfl | rfl | rfl
    · rw [h0, Nat.sub_self]; rfl
    · rw [h1, show off + 1 - off = 1 by omega]; rfl
    · rw [h2, show off + 2 - off = 2 by omega]; rfl
    · rw [h3, show off + 3 - off = 3 by omega]; rfl
  · rw [if_neg (by simpa using hj), ho j (by omega)]

theorem grown_set {w w' : World} {g : Nat} (h : w.grownBy w' (some g)) (k : Nat) (v : Value) : w.grownBy (w'.setCell ⟨g, k, none⟩ v) (some g) :=
  ⟨h.os, h.tape, h.output, by simpa [World.setCell] using h.size, fun j hj hne => (Below.heap_setCell w' ⟨g, k, none⟩ v j (fun e => hne (by rw [e]))).trans (h.block j hj hne)⟩

theorem set_part {cur : List Value} {off : Nat} (hl : off + 4 ≤ cur.length) (a b c t : Int) : (setAll cur off (⟨a, b, c, t⟩ : CapR).cells).length = cur.length ∧ (setAll cur off (⟨a, b, c, t⟩ : CapR).cells)[off]? = some (.int .i64 a) ∧ (setAll cur off (⟨a, b, c, t⟩ : CapR).cells)[off + 1]? = some (.int .i64 b) ∧ (setAll cur off (⟨a, b, c, t⟩ : CapR).cells)[off + 2]? = some (.int .i64 c) ∧
    (setAll cur off (⟨a, b, c, t⟩ : CapR).cells)[off + 3]? = some (.int .i64 t) := by
  have hl4 : (⟨a, b, c, t⟩ : CapR).cells.length = 4 := rfl
  have hg := setAll_get (⟨a, b, c, t⟩ : CapR).cells cur off (by rw [hl4]; exact hl)
  refine ⟨setAll_len _ _ _, ?_, ?_, ?_, ?_⟩
  · rw [hg, hl4, if_pos (by omega), Nat.sub_self]; rfl
  · rw [hg, hl4, if_pos (by omega), show off + 1 - off = 1 by omega]; rfl
  · rw [hg, hl4, if_pos (by omega), show off + 2 - off = 2 by omega]; rfl
  · rw [hg, hl4, if_pos (by omega), show off + 3 - off = 3 by omega]; rfl
theorem set_again {cur : List Value} {off : Nat} (hl : off + 4 ≤ cur.length) (x y : CapR) : setAll (setAll cur off x.cells) off y.cells = setAll cur off y.cells := by
  have h1 : x.cells.length = 4 := rfl
  have h2 : y.cells.length = 4 := rfl
  apply List.ext_getElem?
  intro j
  rw [setAll_get y.cells _ off (by rw [h2, setAll_len]; exact hl), setAll_get x.cells _ off (by rw [h1]; exact hl), setAll_get y.cells _ off (by rw [h2]; exact hl), h1, h2]
  split <;> rfl
theorem set_same {cur : List Value} {off : Nat} (hl : off + 4 ≤ cur.length) {a b c t : Int} (k0 : cur[off]? = some (.int .i64 a)) (k1 : cur[off + 1]? = some (.int .i64 b)) (k2 : cur[off + 2]? = some (.int .i64 c)) (k3 : cur[off + 3]? = some (.int .i64 t)) : cur = setAll cur off (⟨a, b, c, t⟩ : CapR).cells :=
  set4_eq rfl hl k0 k1 k2 k3 (fun _ _ => rfl)

theorem add_c (c : CapR) (ph p : Int) (h1 : ph % 2 = 0 ∨ ph % 2 = 1) (h2 : ph / 2 % 2 = 0 ∨ ph / 2 % 2 = 1) (h4 : ph / 4 % 2 = 0 ∨ ph / 4 % 2 = 1) : (⟨c.a + p * (ph % 2), c.b + p * (ph / 2 % 2), c.c + p * (ph / 4 % 2), c.t + p * (ph % 2) + p * (ph / 2 % 2) + p * (ph / 4 % 2)⟩ : CapR) = addC c ph p := by
  apply CapR.ext' <;> simp only [addC]
  rcases h1 with h | h <;> rcases h2 with h' | h' <;> rcases h4 with h'' | h'' <;> rw [h, h', h''] <;> omega

set_option maxRecDepth 100000 in
set_option maxHeartbeats 6400000 in
theorem add_any (g off : Nat) (T : TypeId) (cur : List Value) (c : CapR) (ph p n : Int) (w : World) (hB : Blk w g T cur) (hl : off + 4 ≤ cur.length) (k0 : cur[off]? = some (.int .i64 c.a)) (k1 : cur[off + 1]? = some (.int .i64 c.b)) (k2 : cur[off + 2]? = some (.int .i64 c.c)) (k3 : cur[off + 3]? = some (.int .i64 c.t))
    (hc : CapOk n c) (hn : n ≤ 1099511627776) (h1 : 1 ≤ ph) (h7 : ph ≤ 7) (hp0 : 0 ≤ p) (hp1 : p ≤ 1048576) :
    Calls Tryd.prog 42 #[.pointer (some ⟨g, off, none⟩), .int .i64 ph, .int .i64 p] w fun e w' => e = .returned (.tuple #[]) ∧ Blk w' g T (setAll cur off (addC c ph p).cells) ∧ w.grownBy w' (some g) := by
  obtain ⟨q1, q2, q4⟩ := phase_bits h1 h7
  have HADD := Lib.hid (add_c c ph p (by omega) (by omega) (by omega))
  obtain ⟨a0, a1, b0, b1, c0, c1, ht⟩ := hc
  have HT := Lib.hid ht
  have t0 : 0 ≤ c.t := by omega
  have t1 : c.t ≤ 3298534883328 := by omega
  clear ht
  have hg := World.grownBy.refl w (some g)
  have e0 : ph % 2 = 0 ∨ ph % 2 = 1 := by omega
  have e1 : ph / 2 % 2 = 0 ∨ ph / 2 % 2 = 1 := by omega
  have e2 : ph / 4 % 2 = 0 ∨ ph / 4 % 2 = 1 := by omega
  generalize ph % 2 = m0 at *
  generalize ph / 2 % 2 = m1 at *
  generalize ph / 4 % 2 = m2 at *
  have u0 : 0 ≤ c.a + p * m0 ∧ c.a + p * m0 ≤ 2199023255552 := by rcases e0 with rfl | rfl <;> omega
  have u1 : 0 ≤ c.t + p * m0 ∧ c.t + p * m0 ≤ 6597069766656 := by rcases e0 with rfl | rfl <;> omega
  have u2 : 0 ≤ c.t + p * m0 + p * m1 ∧ c.t + p * m0 + p * m1 ≤ 9597069766656 := by rcases e0 with rfl | rfl <;> rcases e1 with rfl | rfl <;> omega
  have HA1 : Hid (∃ a t : Int, c.a + p * m0 = a ∧ c.t + p * m0 = t ∧ 0 ≤ t ∧ t ≤ 6597069766656) := ⟨_, _, rfl, rfl, u1⟩
  have HB := Lib.hid hB
  have HK := Lib.hid (And.intro k0 (And.intro k1 (And.intro k2 k3)))
  have f0 := hB.free off
  have f3 := hB.free (off + 3)
  have x0 := (hB.cell off).trans k0
  have x3 := (hB.cell (off + 3)).trans k3
  clear hB k0 k1 k2 k3 u0 u1 h1 h7
  go_enter Tryd.func42, Tryd.ntmps42
  go_upto_if 8 with fail
  go_cut [] (fun wx => Blk wx g T (setAll cur off (⟨c.a + p * m0, c.b, c.c, c.t + p * m0⟩ : CapR).cells) ∧ w.grownBy wx (some g))
  case first =>
    rcases e0 with rfl | rfl
    · go_wp2_with fail
      go_meet
      obtain ⟨k0, k1, k2, k3⟩ := HK.out
      exact ⟨blk_eq HB.out (by simp only [Int.mul_zero, Int.add_zero]; exact set_same hl k0 k1 k2 k3), hg⟩
    · go_wp2_with fail
      go_meet
      obtain ⟨k0, k1, k2, k3⟩ := HK.out
      refine ⟨?_, grown_set (grown_set hg _ _) _ _⟩
      apply blk_eq
      · exact (HB.out.set _ _).set _ _
      · refine set4_eq (by simp) hl ?_ ?_ ?_ ?_ (fun j hj => by (repeat rw [List.getElem?_set_ne (by omega)]))
        · simp [List.getElem?_set]; first | done | omega
        · simp [k1]
        · simp [k2]
        · simp [List.getElem?_set]; first | done | omega
  case rest =>
    obtain ⟨hB1, hg1⟩ := hcut
    obtain ⟨hl1, k0, k1, k2, k3⟩ := set_part hl (c.a + p * m0) c.b c.c (c.t + p * m0)
    rw [← hl1] at hl
    have f0' := hB1.free (off + 1)
    have f3' := hB1.free (off + 3)
    have x0' := (hB1.cell (off + 1)).trans k1
    have x3' := (hB1.cell (off + 3)).trans k3
    have HS := Lib.hid (fun y => set_again (hl1 ▸ hl) (⟨c.a + p * m0, c.b, c.c, c.t + p * m0⟩ : CapR) y)
    clear f0 f3 x0 x3 HB HK e0
    generalize setAll cur off (⟨c.a + p * m0, c.b, c.c, c.t + p * m0⟩ : CapR).cells = cur1 at *
    generalize c.a + p * m0 = A at *
    obtain ⟨v0, v1⟩ := u2
    have v2 : 0 ≤ c.t + p * m0 ∧ c.t + p * m0 ≤ 6597069766656 := by obtain ⟨a, t, _, h, h1, h2⟩ := HA1.out; omega
    obtain ⟨v2, v3⟩ := v2
    clear HA1
    generalize c.t + p * m0 = B at *
    have HB := Lib.hid hB1
    have HK := Lib.hid (And.intro k0 (And.intro k1 (And.intro k2 k3)))
    clear hB1 k0 k1 k2 k3
    go_upto_if 29 with fail
    go_cut [] (fun wx => Blk wx g T (setAll cur1 off (⟨A, c.b + p * m1, c.c, B + p * m1⟩ : CapR).cells) ∧ w.grownBy wx (some g))
    case first =>
      rcases e1 with rfl | rfl
      · go_wp2_with fail
        go_meet
        obtain ⟨k0, k1, k2, k3⟩ := HK.out
        exact ⟨blk_eq HB.out (by simp only [Int.mul_zero, Int.add_zero]; exact set_same hl k0 k1 k2 k3), hg1⟩
      · go_wp2_with fail
        go_meet
        obtain ⟨k0, k1, k2, k3⟩ := HK.out
        refine ⟨?_, grown_set (grown_set hg1 _ _) _ _⟩
        apply blk_eq
        · exact (HB.out.set _ _).set _ _
        · refine set4_eq (by simp) hl ?_ ?_ ?_ ?_ (fun j hj => by (repeat rw [List.getElem?_set_ne (by omega)]))
          · simp [k0]
          · simp [List.getElem?_set]; first | done | omega
          · simp [k2]
          · simp [List.getElem?_set]; first | done | omega
    case rest =>
      clear hg1 f0' f3' x0' x3' HB HK e1
      obtain ⟨hB2, hg2⟩ := hcut
      obtain ⟨hl2, k0, k1, k2, k3⟩ := set_part hl A (c.b + p * m1) c.c (B + p * m1)
      have HS2 := Lib.hid (fun y => set_again hl (⟨A, c.b + p * m1, c.c, B + p * m1⟩ : CapR) y)
      rw [← hl2] at hl
      have f0 := hB2.free (off + 2)
      have f3 := hB2.free (off + 3)
      have x0 := (hB2.cell (off + 2)).trans k2
      have x3 := (hB2.cell (off + 3)).trans k3
      generalize setAll cur1 off (⟨A, c.b + p * m1, c.c, B + p * m1⟩ : CapR).cells = cur2 at *
      generalize c.b + p * m1 = D at *
      generalize B + p * m1 = E at *
      have HB := Lib.hid hB2
      have HK := Lib.hid (And.intro k0 (And.intro k1 (And.intro k2 k3)))
      have HF : Hid (∀ y : CapR, setAll cur off y.cells = setAll cur2 off y.cells) := fun y => by rw [← HS.out, ← HS2.out]
      clear hB2 k0 k1 k2 k3
      rcases e2 with rfl | rfl
      · go_wp2_with fail
        go_end0
        rw [← HADD.out, HF.out]
        obtain ⟨k0, k1, k2, k3⟩ := HK.out
        exact ⟨rfl, blk_eq HB.out (by simp only [Int.mul_zero, Int.add_zero]; exact set_same hl k0 k1 k2 k3), hg2⟩
      · go_wp2_with fail
        go_end0
        rw [← HADD.out, HF.out]
        obtain ⟨k0, k1, k2, k3⟩ := HK.out
        refine ⟨rfl, ?_, grown_set (grown_set hg2 _ _) _ _⟩
        apply blk_eq
        · exact (HB.out.set _ _).set _ _
        · refine set4_eq (by simp) hl ?_ ?_ ?_ ?_ (fun j hj => by (repeat rw [List.getElem?_set_ne (by omega)]))
          · simp [k0]
          · simp [k1]
          · simp [List.getElem?_set]; first | done | omega
          · simp [List.getElem?_set]; first | done | omega

end Go.Proofs.YtlpjniejbblcnaaDoor

namespace Go.Proofs.YtlpjniejbblcnaaDoor
open Go.RowKit

/-- a number that a cell may hold -/
def I64 (n : Int) : Prop := (Lit.int .i64 n).wf = true
theorem I64.bd {n : Int} (h : I64 n) : -9223372036854775808 ≤ n ∧ n ≤ 9223372036854775807 := by
  unfold I64 at h
  have h2 : (decide (IntKind.i64.min ≤ n) && decide (n ≤ IntKind.i64.max)) = true := h
  simp only [Bool.and_eq_true, decide_eq_true_eq] at h2
  exact ⟨h2.1, h2.2⟩
theorem I64.rng {n : Int} (h : I64 n) : -9223372036854775808 ≤ n ∧ n ≤ 9223372036854775807 := h.bd
theorem I64.mk {n : Int} (h1 : -9223372036854775808 ≤ n) (h2 : n ≤ 9223372036854775807) : I64 n := by
  show (decide (IntKind.i64.min ≤ n) && decide (n ≤ IntKind.i64.max)) = true
  simp only [Bool.and_eq_true, decide_eq_true_eq]
  exact ⟨h1, h2⟩

end Go.Proofs.YtlpjniejbblcnaaDoor

namespace Go.Proofs.YtlpjniejbblcnaaDoor
set_option linter.unusedVariables false

theorem mask_bd {a b : Int} (h : bits .andNot .i64 a b = 0) (hb0 : 0 ≤ b) (hb7 : b ≤ 7) (ha : I64 a) : 0 ≤ a ∧ a ≤ 7 := by
  obtain ⟨h1, h2⟩ := ha.bd
  have h3 : IntKind.i64.wrap ((BitVec.ofInt 64 a &&& ~~~ BitVec.ofInt 64 b).toNat : Nat) = 0 := h
  rw [IntKind.wrap_i64] at h3
  have hlt := (BitVec.ofInt 64 a &&& ~~~ BitVec.ofInt 64 b).isLt
  have h0 : (BitVec.ofInt 64 a &&& ~~~ BitVec.ofInt 64 b).toNat = 0 := by omega
  have hz : BitVec.ofInt 64 a &&& ~~~ BitVec.ofInt 64 b = 0#64 := BitVec.eq_of_toNat_eq (by simpa using h0)
  have he : BitVec.ofInt 64 a = BitVec.ofInt 64 a &&& BitVec.ofInt 64 b := by
    apply BitVec.eq_of_getLsbD_eq
    intro i hi
    have := congrArg (fun x => x.getLsbD i) hz
    simp only [BitVec.getLsbD_and, BitVec.getLsbD_not, BitVec.getLsbD_zero, hi, decide_true, Bool.true_and] at this ⊢
    cases hA : (BitVec.ofInt 64 a).getLsbD i <;> cases hB : (BitVec.ofInt 64 b).getLsbD i <;> simp_all
  have hn : (BitVec.ofInt 64 a).toNat ≤ (BitVec.ofInt 64 b).toNat := by
    rw [he, BitVec.toNat_and]
    exact Nat.and_le_right
  rw [BitVec.toNat_ofInt, BitVec.toNat_ofInt] at hn
  omega

theorem firstE_all {g : Nat → Int} : ∀ {n : Nat}, firstE g n = 0 → ∀ k, k < n → g k = 0
  | 0, _, k, hk => by omega
  | n + 1, h, k, hk => by
    unfold firstE at h
    split at h
    · rename_i h1; exact absurd h h1
    · rename_i h1
      rcases Nat.lt_or_ge k n with hlt | hge
      · exact firstE_all (by simpa using h1) k hlt
      · have : k = n := by omega
        subst this; exact h

structure SiteOk (S : SiteR) : Prop where
  lF : S.F.length ≤ 32
  lP : S.P.length ≤ 32
  par : ∀ k (h : k < S.F.length), -1 ≤ S.F[k].parent ∧ S.F[k].parent < (k : Int)
  pnt : ∀ k (h : k < S.P.length), 0 ≤ S.P[k].feeder ∧ S.P[k].feeder < (S.F.length : Int) ∧ 1 ≤ S.P[k].phases ∧ S.P[k].phases ≤ 7
  pow : ∀ k (h : k < S.P.length), 0 ≤ S.P[k].rated ∧ S.P[k].rated ≤ 1048576 ∧ 0 ≤ S.P[k].least ∧ S.P[k].least ≤ S.P[k].rated
  rat : ∀ k (h : k < S.F.length), 0 ≤ S.F[k].a ∧ S.F[k].a ≤ 1048576 ∧ 0 ≤ S.F[k].b ∧ S.F[k].b ≤ 1048576 ∧ 0 ≤ S.F[k].c ∧ S.F[k].c ≤ 1048576

theorem feedE_zero {ks : List (List UInt8)} {i : Int} {f : Feed} (h : feedE ks i f = 0) : ¬ (f.parent < -1 ∨ i ≤ f.parent) ∧ (powB f.a && (powB f.b && powB f.c)) = true := by
  unfold feedE at h
  split at h
  · rename_i h1; exact absurd h h1
  · split at h
    · simp at h
    · rename_i h2
      split at h
      · simp at h
      · rename_i h3; exact ⟨h2, by simpa using h3⟩
theorem pntE_zero {ks : List (List UInt8)} {n : Int} {p : Pnt} (h : pntE ks n p = 0) : ¬ (p.feeder < 0 ∨ n ≤ p.feeder ∨ p.phases < 1 ∨ 7 < p.phases) ∧ ¬ (powB p.rated = false ∨ p.least < 0 ∨ p.rated < p.least) := by
  unfold pntE at h
  split at h
  · rename_i h1; exact absurd h h1
  · split at h
    · simp at h
    · rename_i h2
      split at h
      · simp at h
      · rename_i h3; exact ⟨h2, h3⟩
theorem powB_iff {n : Int} : powB n = true ↔ 0 ≤ n ∧ n ≤ 1048576 := by simp [powB]

theorem siteE_ok {S : SiteR} (h : siteE S = 0) : SiteOk S := by
  unfold siteE at h
  split at h
  · simp at h
  · split at h
    · simp at h
    · rename_i hl
      split at h
      · rename_i h1; exact absurd h h1
      · rename_i h1
        have hF := firstE_all (by simpa using h1 : firstE (feedAt S.F) S.F.length = 0)
        have hP := firstE_all h
        refine ⟨by omega, by omega, fun k hk => ?_, fun k hk => ?_, fun k hk => ?_, fun k hk => ?_⟩
        · have := hF k hk
          rw [feedAt_eq hk] at this
          have := (feedE_zero this).1
          omega
        · have := hP k hk
          rw [pntAt_eq hk] at this
          have := (pntE_zero this).1
          omega
        · have := hP k hk
          rw [pntAt_eq hk] at this
          have h2 := (pntE_zero this).2
          have h3 : powB S.P[k].rated = true := by
            cases hh : powB S.P[k].rated
            · exact absurd (.inl hh) h2
            · rfl
          have h4 := powB_iff.1 h3
          have h5 : ¬ (S.P[k].least < 0 ∨ S.P[k].rated < S.P[k].least) := fun hh => h2 (.inr hh)
          omega
        · have := hF k hk
          rw [feedAt_eq hk] at this
          have h2 := (feedE_zero this).2
          simp only [Bool.and_eq_true] at h2
          have h3 := powB_iff.1 h2.1
          have h4 := powB_iff.1 h2.2.1
          have h5 := powB_iff.1 h2.2.2
          exact ⟨h3.1, h3.2, h4.1, h4.2, h5.1, h5.2⟩

/-- a want that is wrong, as the code asks -/
theorem want_code {S : SiteR} (hS : SiteOk S) {x : WantR × Int} (hi : I64 x.1.phases) {k : Nat} (hk : k < S.P.length) (e : x.1.point = k) :
    wantB S.P x = (!(x.1.phases == 0) && (maskB x.1.phases S.P[k].phases && powB x.2)) := by
  have hp := hS.pnt k hk
  have hf : S.P[x.1.point.toNat]? = some S.P[k] := by rw [e, Int.toNat_natCast, List.getElem?_eq_getElem hk]
  unfold wantB
  rw [hf]
  simp only
  cases hm : maskB x.1.phases S.P[k].phases with
  | false => simp
  | true =>
    have hm' : bits .andNot .i64 x.1.phases S.P[k].phases = 0 := by unfold maskB at hm; simpa using hm
    have hb := mask_bd hm' (by omega) (by omega) hi
    have h1 : (0 ≤ x.1.point) := by omega
    by_cases hz : x.1.phases = 0
    · simp [hz]
    · have e1 : decide (0 ≤ x.1.point) = true := by simpa using h1
      have e2 : decide (1 ≤ x.1.phases) = true := by simp; omega
      have e3 : decide (x.1.phases ≤ 7) = true := by simp; omega
      have e4 : (x.1.phases == 0) = false := by simpa using hz
      rw [e1, e2, e3, e4]
      rfl
theorem want_out {P : List Pnt} {x : WantR × Int} (h : x.1.point < 0 ∨ (P.length : Int) ≤ x.1.point) : wantB P x = false := by
  unfold wantB
  rcases h with h | h
  · split
    · have : ¬ 0 ≤ x.1.point := by omega
      simp [this]
    · rfl
  · rw [List.getElem?_eq_none (by omega)]

/-- a feeder is on the path of what lies below it -/
theorem path_up {S : SiteR} (hS : SiteOk S) {last : Nat} {i0 : Int} {f p : Nat} (hf : f < S.F.length) (hl : last ≤ S.F.length) (he : S.F[f].parent = (p : Int)) : f ∈ pathL S.F last i0 → p ∈ pathL S.F last i0 := by
  induction last using Nat.strongRecOn generalizing i0 with
  | _ last ih =>
    intro h
    rw [pathL] at h ⊢
    split at h
    · rename_i hi
      rw [dif_pos hi]
      have hk : i0.toNat < S.F.length := by omega
      rw [List.getElem?_eq_getElem hk] at h ⊢
      simp only at h ⊢
      rcases List.mem_cons.1 h with h | h
      · subst h
        refine List.mem_cons_of_mem _ ?_
        have hpar := hS.par _ hk
        rw [he, pathL, dif_pos (by omega)]
        simp
      · exact List.mem_cons_of_mem _ (ih _ (by omega) (by omega) h)
    · simp at h

end Go.Proofs.YtlpjniejbblcnaaDoor
