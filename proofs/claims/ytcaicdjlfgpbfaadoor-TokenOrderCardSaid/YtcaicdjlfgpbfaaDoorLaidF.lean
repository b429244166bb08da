/-
  What the row lists of the tables of unicode and utf8, as the walks ask for it; the arguments of TokenOrder, opened.
-/
import Derived.Test.YtcaicdjlfgpbfaaDoorRows
import Derived.Test.YtcaicdjlfgpbfaaDoorWOrd2
import Derived.Test.YtcaicdjlfgpbfaaDoorOToken
import Derived.PinnedBridge
import Derived.Lib.LaidU8
import Derived.Lib.LaidCase
import Derived.MakeChecks
namespace Go.Proofs.YtcaicdjlfgpbfaaDoor
open Go.RowKit Go.Lib
set_option linter.unusedVariables false

theorem caseExtra : CaseExtra Tryd.prog Tryd.lays262_ren := ⟨by kernel_rfl, by kernel_rfl, by kernel_rfl, by kernel_rfl, by kernel_rfl, by kernel_rfl⟩
theorem u8Extra : U8Extra Tryd.prog Tryd.lays260_ren := ⟨by kernel_rfl, by kernel_rfl, by kernel_rfl, by kernel_rfl, by kernel_rfl, by kernel_rfl, by kernel_rfl⟩
theorem accept_eq : Rows.laid_unicode_utf8_acceptRanges = acceptData := by kernel_rfl
theorem lays274at : Go.Proofs.Lays.n274 Tryd.prog Tryd.lays262_ren := { Tryd.lays262 with }
def ascData : DataW Unit := tabData .u16 (ascL.map fun (x : Nat) => (x : Int))
def orbData : DataW Unit := .slice (orbL.map fun p => .agg ([(p.1 : Int), (p.2 : Int)].map fun z => .lit (.int .u16 z))) []
theorem asc_eq : Rows.laid_unicode_asciiFold = ascData := by kernel_rfl
theorem orb_eq : Rows.laid_unicode_caseOrbit = orbData := by kernel_rfl

theorem asc_of_reads {w : World} (h : VarReads Tryd.prog w "unicode.asciiFold" ascData) : ∀ i, i < 128 → w.cell? ⟨0, i, none⟩ = some (.int .u16 ((ascL.getD i 0 : Nat) : Int)) := by
  intro i hi
  obtain ⟨g, t, cs, fuel, p, hg, hty, hvar, hd⟩ := h
  obtain rfl := Option.some.inj ((show Tryd.prog.globalNamed "unicode.asciiFold" = some 0 by kernel_rfl).symm.trans hg)
  obtain rfl := Option.some.inj ((show (Tryd.prog.globals[0]?).map (·.type) = some 69 by kernel_rfl).symm.trans hty)
  have hcs := cells_of_tab Tryd.underlying69 Tryd.underlying68 (by kernel_rfl) (by kernel_rfl) hd
  rw [World.var?_cell hg hvar i, ← Array.getElem?_toList, hcs]
  have hl : i < ascL.length := by rw [show ascL.length = 128 by decide +kernel]; exact hi
  rw [List.getElem?_map, List.getElem?_map, List.getElem?_eq_getElem hl, List.getD_eq_getElem?_getD, List.getElem?_eq_getElem hl]
  rfl

theorem orb_of_reads {w : World} (h : VarReads Tryd.prog w "unicode.caseOrbit" orbData) : ∃ R o cap, w.cell? ⟨1, 0, none⟩ = some (.slice (some ⟨R, o, none⟩) 94 cap) ∧ ∀ i, i < 94 → w.cell? ⟨R, o + i * 2, none⟩ = some (.int .u16 (orbA i : Int)) ∧ w.cell? ⟨R, o + i * 2 + 1, none⟩ = some (.int .u16 (orbB i : Int)) := by
  obtain ⟨g, t, cs, fuel, p, hg, hty, hvar, hd⟩ := h
  obtain rfl := Option.some.inj ((show Tryd.prog.globalNamed "unicode.caseOrbit" = some 1 by kernel_rfl).symm.trans hg)
  obtain rfl := Option.some.inj ((show (Tryd.prog.globals[1]?).map (·.type) = some 70 by kernel_rfl).symm.trans hty)
  rcases DataW.trod_slice Tryd.underlying70 hd with ⟨_, hx'⟩ | ⟨a', len, cap, el, rs, m, hcs, hc0, hx', _, hlc, _, hel, helem, hsp, _⟩
  · cases hx'
  have e0 := congrArg Prod.fst hx'
  simp only [orbData, DataW.slice.injEq] at e0
  obtain ⟨eE, eR⟩ := e0
  have hlen : len = 94 := by
    have := congrArg List.length eE
    rw [List.length_map, List.length_map, show orbL.length = 94 by decide +kernel] at this
    omega
  have c73 : Tryd.prog.cellsOf 73 = 2 := by kernel_rfl
  have c68 : Tryd.prog.cellsOf 68 = 1 := by kernel_rfl
  have hrow : ∀ i, i < len → ∀ j, j < 2 → w.cell? ((a'.add (i * 2)).add j) = ([.int .u16 (orbA i : Int), .int .u16 (orbB i : Int)] : List Value)[j]? := by
    intro i hi j hj
    have h1 := helem i hi
    rw [c73] at h1
    obtain ⟨b, hb⟩ : ∃ b, el[i]? = some b := ⟨el[i]'(by omega), List.getElem?_eq_getElem (by omega)⟩
    rw [hb] at h1
    obtain ⟨ce, hce, hte⟩ := Option.bind_eq_some_iff.1 h1
    have hl : i < orbL.length := by rw [show orbL.length = 94 by decide +kernel]; omega
    have hb1 : b.1 = .agg ([(orbA i : Int), (orbB i : Int)].map fun z => .lit (.int .u16 z)) := by
      have := congrArg (·[i]?) eE
      simp only [List.getElem?_map, hb, Option.map_some, List.getElem?_eq_getElem hl, Option.some.injEq] at this
      rw [← this]
      unfold orbA orbB
      rw [List.getD_eq_getElem?_getD, List.getElem?_eq_getElem hl]
      rfl
    have hcs := ints_of_struct (p := b.2) Tryd.underlying73 (fun q f hq => by
      match q, hq with
      | 0, hq => simp at hq; subst hq; exact ⟨Tryd.underlying68, rfl, c68⟩
      | 1, hq => simp at hq; subst hq; exact ⟨Tryd.underlying68, rfl, c68⟩
      | q + 2, hq => simp at hq) (by rw [c73]; rfl) (by rw [← hb1]; exact hte)
    obtain ⟨_, _, hcc⟩ := World.cells?_some hce
    rw [hcc j hj, hcs]
    rfl
  obtain ⟨R, oR, sR⟩ := a'
  obtain rfl : sR = none := by
    have h00 := hrow 0 (by omega) 0 (by omega)
    have : (Addr.add (Addr.add ⟨R, oR, sR⟩ (0 * 2)) 0) = ⟨R, oR, sR⟩ := by simp [Addr.add]
    rw [this] at h00
    exact cell_spot h00
  refine ⟨R, oR, cap, ?_, fun i hi => ⟨?_, ?_⟩⟩
  · rw [World.var?_cell hg hvar 0, ← Array.getElem?_toList, hc0, hlen]
    rfl
  · have := hrow i (by omega) 0 (by omega)
    rw [Addr.add_lit, Addr.add_lit] at this
    simpa using this
  · have := hrow i (by omega) 1 (by omega)
    rw [Addr.add_lit, Addr.add_lit] at this
    simpa using this

theorem fold_of {l : List (String × DataW Unit)} {w : World} (h : laidMetH Tryd.prog l w) (h0 : (l.all fun x => x.2.handleName?.isNone) = true)
    (he : l = Rows.tokenOrderRow.laid) : FoldV w := by
  rw [MakeChecks.laidMetH_plain _ _ _ h0] at h
  subst he
  refine ⟨caseVar_of_reads lays274at (by kernel_rfl) caseExtra (laidMet.reads h ?_), utf8Tabs_of_reads Tryd.lays260 u8Extra (laidMet.reads h ?_) (laidMet.reads h ?_), asc_of_reads (laidMet.reads h ?_), orb_of_reads (laidMet.reads h ?_)⟩
  · rw [← Pinned.caseRanges_eq]
    simp [Rows.tokenOrderRow, Rows.laid_unicode_CaseRanges]
  · rw [← Pinned.utf8First_eq]
    simp [Rows.tokenOrderRow, Rows.laid_unicode_utf8_first]
  · rw [← accept_eq]
    simp [Rows.tokenOrderRow]
  · rw [← asc_eq]
    simp [Rows.tokenOrderRow]
  · rw [← orb_eq]
    simp [Rows.tokenOrderRow]

theorem byte_row {w : World} {row : List Value} (h : CellK.fitsAll w [.int .u8] row) : ∃ x : Nat, row = encU x ∧ x < 256 := by
  simp only [CellK.fitsAll, CellK.fits] at h
  obtain ⟨_, _, rfl, ⟨n, rfl, hn⟩, rfl⟩ := h
  have hb : 0 ≤ n ∧ n < 256 := by
    have hx : IntKind.u8.min ≤ n ∧ n ≤ IntKind.u8.max := by simpa [Lit.wf] using hn
    have e1 : IntKind.u8.min = 0 := rfl
    have e2 : IntKind.u8.max = 255 := rfl
    omega
  exact ⟨n.toNat, by unfold encU; rw [show ((n.toNat : Nat) : Int) = n by omega], by omega⟩

section
variable {H : Type} {enc : TypeId × Value → H} {w : World} {held : Bool} {r : Reach} {b0 : Nat} {v : Value} {d : DataW H} {p : List MemPlace}
set_option maxRecDepth 100000 in
theorem open_order (hval : Value.okWide Tryd.prog w r b0 41 v) (hd : DataW.Trod enc Tryd.prog w 0 (fun _ => true) held 41 v d p) :
    ∃ l : List Nat, IsSl w 1 v (l.map encU) ∧ ∀ x ∈ l, x < 256 := by
  obtain ⟨rows, h1, h2⟩ := open_sl [.int .u8] (by kernel_rfl) Tryd.underlying41 hval hd
  obtain ⟨l, rfl, hl⟩ := rows_list (fun _ => byte_row) rows h2
  exact ⟨l, h1, hl⟩
end

end Go.Proofs.YtcaicdjlfgpbfaaDoor
