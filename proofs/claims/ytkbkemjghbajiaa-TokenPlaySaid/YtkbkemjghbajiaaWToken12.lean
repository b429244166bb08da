/-
  Walks: the law TokenPlay.
-/
import Derived.Test.YtkbkemjghbajiaaWToken11
namespace Go.Proofs.Ytkbkemjghbajiaa
open Go.RowKit Go.Lib Go.Joins
attribute [local go_sem] after_cell
set_option linter.unusedVariables false

structure OpT where
  drop : Bool
  tok : Tok
def OpT.cells (o : OpT) : List Value := [.bool o.drop, .string o.tok.id, .string o.tok.group, .string o.tok.contract, .int .i64 o.tok.kind, .int .i64 o.tok.status, .int .i64 o.tok.expiry]
theorem OpT.cells_len (o : OpT) : o.cells.length = 7 := rfl
def stepT (l : List Tok) (o : OpT) : List Tok := if o.drop then dropTL l o.tok.id else putTL l o.tok
def playT (l : List OpT) : List Tok := l.foldl stepT []
theorem playT_take {l : List OpT} {k : Nat} (h : k < l.length) : playT (l.take (k + 1)) = stepT (playT (l.take k)) l[k] := by
  unfold playT
  rw [List.take_succ_eq_append_getElem h, List.foldl_append]; rfl
theorem playT_full {l : List OpT} {k : Nat} (h : ¬ k < l.length) : playT (l.take k) = playT l := by rw [List.take_of_length_le (by omega)]

/-- what every list of the play keeps -/
structure GoodT (l : List Tok) : Prop where
  sorted : SortedT l
  len : l.length ≤ 128
  fits : ∀ x ∈ l, x.fits
theorem GoodT.nil : GoodT [] := ⟨SortedT.nil, by simp, by simp⟩
theorem GoodT.put {l : List Tok} (h : GoodT l) {t : Tok} (ht : t.fits) : GoodT (putTL l t) :=
  ⟨h.sorted.put t, putTL_len l t h.len, fun x hx => by rcases mem_putTL hx with rfl | hx; exact ht; exact h.fits x hx⟩
theorem GoodT.drop {l : List Tok} (h : GoodT l) (id : ByteArray) : GoodT (dropTL l id) :=
  ⟨h.sorted.drop id, Nat.le_trans (dropTL_len l id) h.len, fun x hx => by
    unfold dropTL at hx
    split at hx
    · exact h.fits x ((List.eraseIdx_sublist _ _).mem hx)
    · exact h.fits x hx⟩
theorem GoodT.step {l : List Tok} (h : GoodT l) {o : OpT} (ho : o.tok.fits) : GoodT (stepT l o) := by
  unfold stepT
  split
  · exact h.drop _
  · exact h.put ho
theorem GoodT.play {l : List OpT} (ho : ∀ o ∈ l, o.tok.fits) : GoodT (playT l) := by
  have h : ∀ (l : List OpT) (a : List Tok), GoodT a → (∀ o ∈ l, o.tok.fits) → GoodT (l.foldl stepT a) := by
    intro l
    induction l with
    | nil => intro a ha _; exact ha
    | cons o l ih => intro a ha hl; rw [List.foldl_cons]; exact ih _ (ha.step (hl o (by simp))) (fun o' ho' => hl o' (by simp [ho']))
  exact h l [] GoodT.nil ho

/-- the seven cells of a call of a list -/
theorem opt_at {w : World} {A : Option Addr} {l : List OpT} (h : SlAt w 7 A (l.map OpT.cells)) {k : Nat} (hk : k < l.length) :
    ∃ b off, A = some ⟨b, off, none⟩ ∧ b < w.heap.size ∧ w.cell? ⟨b, off + k * 7, none⟩ = some (.bool l[k].drop) ∧ w.cell? ⟨b, off + k * 7 + 1, none⟩ = some (.string l[k].tok.id) ∧ w.cell? ⟨b, off + k * 7 + 1 + 1, none⟩ = some (.string l[k].tok.group) ∧
      w.cell? ⟨b, off + k * 7 + 1 + 2, none⟩ = some (.string l[k].tok.contract) ∧ w.cell? ⟨b, off + k * 7 + 1 + 3, none⟩ = some (.int .i64 l[k].tok.kind) ∧ w.cell? ⟨b, off + k * 7 + 1 + 4, none⟩ = some (.int .i64 l[k].tok.status) ∧ w.cell? ⟨b, off + k * 7 + 1 + 5, none⟩ = some (.int .i64 l[k].tok.expiry) := by
  obtain ⟨b, off, e, hb, hc⟩ := h k l[k].cells (by rw [List.getElem?_map, List.getElem?_eq_getElem hk]; rfl)
  exact ⟨b, off, e, hb, hc 0 _ rfl, hc 1 _ rfl, hc 2 _ rfl, hc 3 _ rfl, hc 4 _ rfl, hc 5 _ rfl, hc 6 _ rfl⟩

set_option maxRecDepth 100000 in
set_option maxHeartbeats 6400000 in
theorem lawTokPlay (l : List OpT) (v : Value) (id : ByteArray) (w : World) (hv : IsSl w 7 v (l.map OpT.cells)) (hs : ∀ o ∈ l, o.tok.fits) (hid : id.size ≤ maxLen) :
    Calls Try.prog 5 #[v, .string id] w fun e w' => e = .returned (.bool true) ∧ Below w.heap.size w w' := by
  obtain ⟨A, c, rfl, hlc, hcm, hsl⟩ := islen' hv
  have HS := Lib.hid hs
  unfold maxLen at hcm
  have hidm : id.size ≤ 9223372036854775807 := by unfold maxLen at hid; omega
  have hlm : l.length ≤ 9223372036854775807 := by omega
  clear hv hs hcm hlc
  by_cases hlen : 150 < l.length
  · skip
    go_enter Try.func5, Try.ntmps5
    go_wp2_with fail
    refine (tokExample_any _).mono ?_
    rintro e w9 ⟨rfl, hb9⟩
    go_wp2_with fail
    go_ret
    exact ⟨rfl, hb9⟩
  by_cases hids : 4096 < id.size
  · skip
    go_enter Try.func5, Try.ntmps5
    go_wp2_with fail
    refine (tokExample_any _).mono ?_
    rintro e w9 ⟨rfl, hb9⟩
    go_wp2_with fail
    go_ret
    exact ⟨rfl, hb9⟩
  have hlen' : l.length ≤ 150 := by omega
  have hids' : id.size ≤ 4096 := by omega
  clear hlen hids hlm hidm
  go_enter Try.func5, Try.ntmps5
  go_wp2_with fail
  go_loopw [5, 6, 25] (fun ua ub i wr => ∃ k : Nat, k ≤ l.length ∧ i = .int .i64 k ∧ Below w.heap.size w wr ∧ Hid (IsSl wr 6 ua ((playT (l.take k)).map Tok.cells)) ∧ Hid (IsSl wr 6 ub ((playT (l.take k)).map Tok.cells))) (fun _ _ i _ => l.length - (intOf i).toNat)
  case atStart => exact ⟨0, by omega, rfl, Below.refl _ _, IsSl.nil _ _, IsSl.nil _ _⟩
  case round =>
    obtain ⟨k, hk, rfl, hbw, HA, HB⟩ := hrel
    obtain ⟨hc, hf⟩ := bcell hbw
    by_cases hlt : k < l.length
    · have hki : (k : Int) < (l.length : Int) := by omega
      have HT := Lib.hid (playT_take hlt)
      have HG := Lib.hid (GoodT.play (l := l.take k) (fun o ho => HS.out o (List.mem_of_mem_take ho)))
      have hxf := HS.out _ (List.getElem_mem hlt)
      obtain ⟨b, off, rfl, hbb, c0, c1, c2, c3, c4, c5, c6⟩ := opt_at (hsl.below hbw) hlt
      generalize hx : l[k] = x at *
      clear hx
      generalize playT (l.take k) = L at *
      have hLl := HG.out.len
      have HLF := Lib.hid HG.out.fits
      cases hq : longTB x.tok with
      | true =>
        go_wp2_with fail
        refine (longTok_any x.tok _ hxf).mono ?_
        rintro e w1 ⟨rfl, hb1⟩
        rw [hq]
        go_wp2_with fail
        refine (tokExample_any _).mono ?_
        rintro e w9 ⟨rfl, hb9⟩
        go_wp2_with fail
        go_ret
        exact ⟨rfl, below_step hbw (below_step hb1 hb9)⟩
      | false =>
        cases hd : x.drop with
        | true =>
            have HP : Hid (stepT L x = dropTL L x.tok.id) := by unfold Hid stepT; rw [hd]; rfl
            have hML : (dropTL L x.tok.id).length ≤ 128 := (HG.out.drop _).len
            rw [hd] at c0
            go_wp2_with fail
            refine (longTok_any x.tok _ hxf).mono ?_
            rintro e w1 ⟨rfl, hb1⟩
            rw [hq]
            have hbr := hb1
            replace hbw := hbw.trans (hb1.mono hbw.size)
            replace HA := Lib.hid (HA.out.below hb1)
            replace HB := Lib.hid (HB.out.below hb1)
            clear hc hf hb1
            obtain ⟨hc, hf⟩ := bcell hbr
            go_wp2_with fail
            refine (drop_any L _ x.tok.id _ (by omega) HA.out HLF.out).mono ?_
            rintro e w2 ⟨ua, rfl, ha, hb2⟩
            replace hbw := hbw.trans (hb2.mono hbw.size)
            replace hbr := hbr.trans (hb2.mono hbr.size)
            clear hc hf
            obtain ⟨hc, hf⟩ := bcell hbr
            go_wp2_with fail
            refine (refDrop_any L _ x.tok.id _ (by omega) (HB.out.below hb2) HLF.out hxf.1).mono ?_
            rintro e w3 ⟨ub, rfl, hb', hb3⟩
            replace hbw := hbw.trans (hb3.mono hbw.size)
            replace ha := ha.below hb3
            have hee : (dropTE L x.tok.id != dropTE L x.tok.id) = false := by simp
            obtain ⟨M, hM⟩ : ∃ M, M = dropTL L x.tok.id := ⟨_, rfl⟩
            rw [← hM] at ha hb' HP hML
            clear hM
            go_wp2_with fail
            refine (tokEqual_any M M _ _ _ (by omega) (by omega) ha hb').mono ?_
            rintro e w4 ⟨rfl, hb4⟩
            replace hb4 := drewN_below hb4
            rw [tokEqL_t rfl]
            go_wp2_with fail
            go_roundw
            case measure => simp [intOf]; omega
            case rel => exact ⟨k + 1, by omega, by go_num, hbw.trans (hb4.mono hbw.size), by show IsSl _ _ _ _; rw [HT.out, HP.out]; exact ha.below hb4, by show IsSl _ _ _ _; rw [HT.out, HP.out]; exact hb'.below hb4⟩
        | false =>
            have HP : Hid (stepT L x = putTL L x.tok) := by unfold Hid stepT; rw [hd]; rfl
            have hML : (putTL L x.tok).length ≤ 128 := (HG.out.put hxf).len
            have HREF := Lib.hid (put_ref HG.out.sorted x.tok)
            rw [hd] at c0
            go_wp2_with fail
            refine (longTok_any x.tok _ hxf).mono ?_
            rintro e w1 ⟨rfl, hb1⟩
            rw [hq]
            have hbr := hb1
            replace hbw := hbw.trans (hb1.mono hbw.size)
            replace HA := Lib.hid (HA.out.below hb1)
            replace HB := Lib.hid (HB.out.below hb1)
            clear hc hf hb1
            obtain ⟨hc, hf⟩ := bcell hbr
            go_wp2_with fail
            refine (tput_any L _ x.tok _ (by omega) HA.out HLF.out hxf).mono ?_
            rintro e w2 ⟨ua, rfl, ha, hb2⟩
            replace hbw := hbw.trans (hb2.mono hbw.size)
            replace hbr := hbr.trans (hb2.mono hbr.size)
            clear hc hf
            obtain ⟨hc, hf⟩ := bcell hbr
            go_wp2_with fail
            refine (refTput_any L _ x.tok _ (by omega) (HB.out.below hb2) HLF.out hxf).mono ?_
            rintro e w3 ⟨ub, rfl, hb', hb3⟩
            replace hbw := hbw.trans (hb3.mono hbw.size)
            replace ha := ha.below hb3
            rw [HREF.out] at hb'
            have hee : (putTE L x.tok != putTE L x.tok) = false := by simp
            obtain ⟨M, hM⟩ : ∃ M, M = putTL L x.tok := ⟨_, rfl⟩
            rw [← hM] at ha hb' HP hML
            clear hM
            go_wp2_with fail
            refine (tokEqual_any M M _ _ _ (by omega) (by omega) ha hb').mono ?_
            rintro e w4 ⟨rfl, hb4⟩
            replace hb4 := drewN_below hb4
            rw [tokEqL_t rfl]
            go_wp2_with fail
            go_roundw
            case measure => simp [intOf]; omega
            case rel => exact ⟨k + 1, by omega, by go_num, hbw.trans (hb4.mono hbw.size), by show IsSl _ _ _ _; rw [HT.out, HP.out]; exact ha.below hb4, by show IsSl _ _ _ _; rw [HT.out, HP.out]; exact hb'.below hb4⟩
    · have ha := HA.out
      have hb' := HB.out
      rw [playT_full hlt] at ha hb'
      have HG := Lib.hid (GoodT.play HS.out)
      generalize playT l = L at *
      have hLl := HG.out.len
      have HLF := Lib.hid HG.out.fits
      clear hc hf HA HB
      go_wp2_with fail
      refine (find_any L _ id _ (by omega) ha HLF.out).mono ?_
      rintro e w5 ⟨rfl, hb5⟩
      replace hb' := hb'.below hb5
      replace hbw := hbw.trans (hb5.mono hbw.size)
      obtain ⟨W6, hW6, hb6, hg6, hx6⟩ := box1 w5 #[.string (findT L id).id, .string (findT L id).group, .string (findT L id).contract, .int .i64 (findT L id).kind, .int .i64 (findT L id).status, .int .i64 (findT L id).expiry] 23
      go_wp2_with fail
      rw [← hW6]
      clear hW6
      replace hb' := hb'.below hb6
      replace hbw := below_step hbw hb6
      refine (refFind_any L _ id _ (by omega) hb' HLF.out hid).mono ?_
      rintro e w7 ⟨rfl, hb7⟩
      have hx7 : ∀ j, w7.cell? ⟨w5.heap.size, j, none⟩ = (#[.string (findT L id).id, .string (findT L id).group, .string (findT L id).contract, .int .i64 (findT L id).kind, .int .i64 (findT L id).status, .int .i64 (findT L id).expiry] : Array Value)[j]? := fun j => (hb7.cell (p := ⟨w5.heap.size, j, none⟩) hg6).trans (hx6 j)
      have hg7 : w5.heap.size < w7.heap.size := Nat.lt_of_lt_of_le hg6 hb7.size
      replace hbw := hbw.trans (hb7.mono hbw.size)
      have heql := tokEql_run (findT L id) (findT L id)
      rw [show tokEqX (findT L id) (findT L id) = true from (tokEqX_iff _ _).2 rfl] at heql
      have heg := fun w => run_eqGuard_agg (P := Try.prog) w .eql 23 (.tmp 104) (.tmp 105) #[.string (findT L id).id, .string (findT L id).group, .string (findT L id).contract, .int .i64 (findT L id).kind, .int .i64 (findT L id).status, .int .i64 (findT L id).expiry] #[.string (findT L id).id, .string (findT L id).group, .string (findT L id).contract, .int .i64 (findT L id).kind, .int .i64 (findT L id).status, .int .i64 (findT L id).expiry] Try.eqGuardType23
      have hfd : (foundT L id == foundT L id) = true := by simp
      generalize findT L id = T0 at *
      generalize foundT L id = B0 at *
      go_wp2_with fail
      refine (tokExample_any _).mono ?_
      rintro e w9 ⟨rfl, hb9⟩
      go_wp2_with fail
      go_ret
      exact ⟨rfl, below_step (below_alloc hbw _) hb9⟩

end Go.Proofs.Ytkbkemjghbajiaa
