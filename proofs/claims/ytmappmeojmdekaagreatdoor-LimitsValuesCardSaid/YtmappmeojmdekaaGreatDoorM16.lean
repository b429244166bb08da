/-
  The arguments of the laws on limits, opened; the table of the months' lengths, read off the row's list.
  The row of a law: behind a call of which it is known that it returns true and that no old memory has turned, the row's condition on what is left holds. No program is named here.
-/
import Derived.Test.YtmappmeojmdekaaGreatDoorM15
import Derived.Test.YtmappmeojmdekaaGreatDoorRows
import Derived.Test.YtmappmeojmdekaaGreatDoorM6
import Derived.MakeChecks
import Derived.Lib.LaidTab
import Derived.ProofKit
import Derived.OpenShut
import Derived.Below

namespace Go.Proofs.YtmappmeojmdekaaGreatDoor
open Go.RowKit Go.Lib
set_option linter.unusedVariables false

structure RulV where
  r : RulR
  fv : Value
  pv : Value
  cv : Value
  uv : Value
theorem lim_feed {w : World} {row : List Value} (h : CellK.fitsAll w [.str, .int .i64, .int .i64, .int .i64, .int .i64] row) : ∃ t : Feed, row = t.cells ∧ t.fits := by
  simp only [CellK.fitsAll, CellK.fits] at h
  obtain ⟨_, _, rfl, ⟨a, rfl, ha⟩, _, _, rfl, ⟨b, rfl, _⟩, _, _, rfl, ⟨c, rfl, _⟩, _, _, rfl, ⟨d, rfl, _⟩, _, _, rfl, ⟨e, rfl, _⟩, rfl⟩ := h
  exact ⟨⟨a, b, c, d, e⟩, rfl, ha⟩
theorem lim_pnt {w : World} {row : List Value} (h : CellK.fitsAll w [.str, .int .i64, .int .i64, .int .i64, .int .i64] row) : ∃ t : Pnt, row = t.cells ∧ t.fits := by
  simp only [CellK.fitsAll, CellK.fits] at h
  obtain ⟨_, _, rfl, ⟨a, rfl, ha⟩, _, _, rfl, ⟨b, rfl, _⟩, _, _, rfl, ⟨c, rfl, _⟩, _, _, rfl, ⟨d, rfl, _⟩, _, _, rfl, ⟨e, rfl, _⟩, rfl⟩ := h
  exact ⟨⟨a, b, c, d, e⟩, rfl, ha⟩
theorem lim_con {w : World} {row : List Value} (h : CellK.fitsAll w [.str, .int .i64, .int .i64, .int .i64, .int .i64, .int .i64, .int .i64, .int .i64] row) : ∃ t : ConR, row = t.cells ∧ t.fits := by
  simp only [CellK.fitsAll, CellK.fits] at h
  obtain ⟨_, _, rfl, ⟨a, rfl, ha⟩, _, _, rfl, ⟨b, rfl, hb⟩, _, _, rfl, ⟨c, rfl, _⟩, _, _, rfl, ⟨d, rfl, _⟩, _, _, rfl, ⟨e, rfl, _⟩, _, _, rfl, ⟨f, rfl, _⟩, _, _, rfl, ⟨g, rfl, _⟩, _, _, rfl, ⟨i, rfl, hi⟩, rfl⟩ := h
  exact ⟨⟨a, b, ⟨c, d, e, f, g⟩, i⟩, rfl, ha, hb, hi⟩
theorem lim_cur {w : World} {row : List Value} (h : CellK.fitsAll w [.str, .int .i64, .int .i64, .int .i64, .int .i64, .int .i64, .bool] row) : ∃ t : CurR, row = t.cells ∧ t.fits := by
  simp only [CellK.fitsAll, CellK.fits] at h
  obtain ⟨_, _, rfl, ⟨a, rfl, ha⟩, _, _, rfl, ⟨b, rfl, _⟩, _, _, rfl, ⟨c, rfl, hc⟩, _, _, rfl, ⟨d, rfl, _⟩, _, _, rfl, ⟨e, rfl, _⟩, _, _, rfl, ⟨f, rfl, hf⟩, _, _, rfl, ⟨g, rfl⟩, rfl⟩ := h
  exact ⟨⟨a, b, c, d, e, f, g⟩, rfl, ha, hc, hf⟩

theorem lenV_lim {l : List (String × DataW Unit)} {w : World} (h : laidMetH Tryz.prog l w) (h0 : (l.all fun x => x.2.handleName?.isNone) = true) (he : l = Rows.limitsValidRow.laid) : LenV w := by
  rw [MakeChecks.laidMetH_plain _ _ _ h0] at h
  subst he
  have ht := tabIs_of_head (P := Tryz.prog) (W := w) (g := 4) (t := 186) (e := 3) (n := 12) (k := .i64) (zs := [31, 28, 31, 30, 31, 30, 31, 31, 30, 31, 30, 31]) (rest := Rows.limitsValidRow.laid.tail) (by kernel_rfl) (by kernel_rfl) Tryz.underlying186 Tryz.underlying3 (by kernel_rfl) (by kernel_rfl) h
  have hc : ∀ k, k < 12 → w.cell? ⟨4, k, none⟩ = some (.int .i64 (lenT k)) := fun k hk => by
    rw [ht.cell (g := 4) (by kernel_rfl) k (by simpa using hk)]
    have : ∀ i : Fin 12, ([31, 28, 31, 30, 31, 30, 31, 31, 30, 31, 30, 31] : List Int).getD i 0 = lenT i := by decide
    rw [this ⟨k, hk⟩]
  obtain ⟨c, e, fr, hb, _⟩ := Go.Sort.cells_of_cell? (hc 0 (by omega))
  exact ⟨(Array.getElem?_eq_some_iff.1 hb).1, hc⟩

section
variable {H : Type} {enc : TypeId × Value → H} {w : World} {r : Reach} {b0 : Nat} {v : Value} {d : DataW H} {p : List MemPlace} {held : Bool}

set_option maxRecDepth 100000 in
theorem open_rules (hval : Value.okWide Tryz.prog w r b0 31 v) (hd : DataW.Trod enc Tryz.prog w 0 (fun _ => true) held 31 v d p) :
    ∃ a : RulV, v = .agg #[.string a.r.S.name, a.fv, a.pv, .int .i64 a.r.z.off, .bool a.r.z.sum, a.cv, a.uv] ∧ LimIn w a.r a.fv a.pv a.cv a.uv := by
  obtain ⟨cs, rfl, h⟩ := open_struct [.str, .sl [.str, .int .i64, .int .i64, .int .i64, .int .i64], .sl [.str, .int .i64, .int .i64, .int .i64, .int .i64], .int .i64, .bool, .sl [.str, .int .i64, .int .i64, .int .i64, .int .i64, .int .i64, .int .i64, .int .i64], .sl [.str, .int .i64, .int .i64, .int .i64, .int .i64, .int .i64, .bool]] (by kernel_rfl) Tryz.underlying31 hval hd
  simp only [CellK.fitsAll] at h
  obtain ⟨_, _, hcs, h0, _, _, rfl, h1, _, _, rfl, h2, _, _, rfl, h3, _, _, rfl, h4, _, _, rfl, h5, _, _, rfl, h6, rfl⟩ := h
  unfold CellK.fits at h0 h1 h2 h3 h4 h5 h6
  obtain ⟨s, rfl, hs⟩ := h0
  obtain ⟨r1, hr1, hf1⟩ := h1
  obtain ⟨r2, hr2, hf2⟩ := h2
  obtain ⟨zo, rfl, _⟩ := h3
  obtain ⟨zs, rfl⟩ := h4
  obtain ⟨r5, hr5, hf5⟩ := h5
  obtain ⟨r6, hr6, hf6⟩ := h6
  obtain ⟨l1, rfl, hl1⟩ := rows_list (fun _ => lim_feed) r1 hf1
  obtain ⟨l2, rfl, hl2⟩ := rows_list (fun _ => lim_pnt) r2 hf2
  obtain ⟨l5, rfl, hl5⟩ := rows_list (fun _ => lim_con) r5 hf5
  obtain ⟨l6, rfl, hl6⟩ := rows_list (fun _ => lim_cur) r6 hf6
  exact ⟨⟨⟨⟨s, l1, l2⟩, ⟨zo, zs⟩, l5, l6⟩, _, _, _, _⟩, agg_of hcs, ⟨hr1, hr2, hr5, hr6, hs, hl1, hl2, hl5, hl6⟩⟩
set_option maxRecDepth 100000 in
theorem open_span2 (hval : Value.okWide Tryz.prog w r b0 46 v) (hd : DataW.Trod enc Tryz.prog w 0 (fun _ => true) held 46 v d p) :
    ∃ a : Int × Int, v = .agg #[.int .i64 a.1, .int .i64 a.2] ∧ I64 a.1 ∧ I64 a.2 := by
  obtain ⟨cs, rfl, h⟩ := open_struct [.int .i64, .int .i64] (by kernel_rfl) Tryz.underlying46 hval hd
  simp only [CellK.fitsAll, CellK.fits] at h
  obtain ⟨_, _, hcs, ⟨a, rfl, ha⟩, _, _, rfl, ⟨b, rfl, hb⟩, rfl⟩ := h
  exact ⟨⟨a, b⟩, agg_of hcs, ha, hb⟩
end

end Go.Proofs.YtmappmeojmdekaaGreatDoor

namespace Go.Proofs.YtmappmeojmdekaaGreatDoor
open Go.RowKit Go.WideShapes Go.ChangeShapes Go.ChangeAt

section
variable {H : Type} {enc : TypeId × Value → H} {P : Program}

theorem trodAll_stays (hl : laidOutB P = true) {W W' : World} {sp' : Nat → Bool} : ∀ {ts : List TypeId} {vs : List Value} {ds : List (DataW H)} {ps : List MemPlace},
    (∀ t ∈ ts, P.readableRec t = true ∧ t < P.types.size) → DataW.TrodAll enc P W 0 (fun _ => true) true ts vs ds ps → (∀ p ∈ ps, W.sameAt W' p) → (∀ p ∈ ps, sp' p.block = true) →
    DataW.TrodAll enc P W' 0 sp' true ts vs ds ps
  | [], [], [], _, _, h, _, _ => h
  | [], _ :: _, _, _, _, h, _, _ => by simp [DataW.TrodAll] at h
  | [], [], _ :: _, _, _, h, _, _ => by simp [DataW.TrodAll] at h
  | _ :: _, [], _, _, _, h, _, _ => by simp [DataW.TrodAll] at h
  | _ :: _, _ :: _, [], _, _, h, _, _ => by simp [DataW.TrodAll] at h
  | t :: ts, v :: vs, d :: ds, ps, hr, h, hs, hp => by
    obtain ⟨p, q, h1, h2, rfl⟩ := h
    refine ⟨p, q, WideElems.Trod_stays hl (hr t (by simp)).1 (hr t (by simp)).2 h1 (fun x hx => hs x (by simp [hx])) (fun x hx => hp x (by simp [hx])), ?_, rfl⟩
    exact trodAll_stays hl (fun t' ht => hr t' (by simp [ht])) h2 (fun x hx => hs x (by simp [hx])) (fun x hx => hp x (by simp [hx]))

theorem law_post {f : Func} {s : ChangeSpec} {W W' : World} {args : Array Value} {ds gs : List (DataW H)} {before : List MemPlace} {tb : TypeId}
    (hW : DataW.Whole enc P f.params.toList s.vars false W args.toList ds gs before) (hl : laidOutB P = true) (hr : ∀ t ∈ f.params.toList, P.readableRec t = true ∧ t < P.types.size)
    (hv : s.vars = []) (hs : s.fn H ds = { results := [.lit (.bool true)], args := ds }) (hres : f.resultTypes = #[tb]) (htb : P.underlying tb = some .bool) (hb : Below W.heap.size W W') :
    s.post enc P f false true false false W args (.bool true) W' := by
  have hlt : ∀ p ∈ before, p.block < W.heap.size := fun p hp => hW.lt p hp
  have hold : ∀ p ∈ before, (fun b => decide (b < W.heap.size)) p.block = true := fun p hp => by simpa using hlt p hp
  have hW0 := hW
  obtain ⟨p, q, hA, hV, rfl, hz, hn⟩ := hW
  rw [hv] at hV
  obtain ⟨rfl, rfl⟩ := trodVars_none hV
  have hargs : ∀ sp : Nat → Bool, (∀ x ∈ p, sp x.block = true) → DataW.TrodAll enc P W' 0 sp true f.params.toList args.toList ds p := fun sp hsp =>
    trodAll_stays hl hr hA (fun x hx => hb.same (hlt x (by simpa using hx))) hsp
  have hR : ∀ (b : Nat) (sp : Nat → Bool) (hd : Bool), DataW.TrodAll enc P W' b sp hd f.resultTypes.toList ((Value.bool true).resultList f.resultTypes.size) [.lit (.bool true)] [] := by
    intro b sp hd
    rw [hres]
    exact trodAll_cons_mk (shut_bool htb true) trodAll_mk0
  have hsp : s.fn H (ds ++ []) = { results := [.lit (.bool true)], args := ds } := by rw [List.append_nil]; exact hs
  have hvv : ∀ sp : Nat → Bool, DataW.TrodVars enc P W' sp s.vars ([] : List (DataW H)) [] := fun sp => by rw [hv]; rfl
  refine ⟨ds, [], _, [], p, [], hW0, ?_, ?_, ?_, World.keptBut_mono (fun x hx => ⟨hx, ?_⟩) (hb.frame (· ∈ p ++ [])), fun _ => ?_⟩
  · rw [hsp]; exact hR _ _ _
  · rw [hsp]; exact hargs _ (fun x hx => hold x (by simpa using hx))
  · rw [hsp]; exact hvv _
  · simp at hx ⊢; exact hx
  · refine ⟨?_, [.lit (.bool true)] ++ ds, [], p ++ [], ⟨[] ++ p, [], trodAll_append (hargs _ (fun _ _ => rfl)) (hR 0 (fun _ => true) true), hvv _, rfl, ?_, fun h => by cases h⟩, fun x hx _ => hx⟩
    · intro j t r ht hr'
      rw [hres] at ht hr'
      have hj : j = 0 := by
        have := (Array.getElem?_eq_some_iff.1 ht).1
        simp at this; omega
      subst hj
      simp at ht
      subst ht
      have : r = .bool true := by simpa [Value.resultList] using hr'.symm
      subst this
      exact okWide_bool_mk htb true
    · intro b off hp
      have hin : MemPlace.cell b off ∈ p ++ [] := by simpa using hp
      rw [hb.frozen (p := ⟨b, off, none⟩) (hlt _ hin)]
      exact hz b off hin

end
end Go.Proofs.YtmappmeojmdekaaGreatDoor
