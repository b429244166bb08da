/-
  slices.SortFunc of tokens by their keys, in a row of the call's own.
-/
import Derived.Test.YtcaicdjlfgpbfaaWLst1
import Derived.Test.YtcaicdjlfgpbfaaWOrd1
import Derived.Test.YtcaicdjlfgpbfaaShelf
import Derived.Shelf.SlSortCmp.WholeK
import Derived.Shelf.SlSortCmp.NoneTotal
import Derived.Lib.OwnBridge
import Derived.Lib.AppendIntMem
namespace Go.Proofs.Ytcaicdjlfgpbfaa
open Go.RowKit Go.Lib Go.Shelf
set_option linter.unusedVariables false

abbrev TokS : Type := { t : Tok // t.id.size ≤ maxLen }
instance tokSome : Inhabited TokS := ⟨⟨⟨⟨#[]⟩, ⟨#[]⟩, ⟨#[]⟩, 0, 0, 0⟩, by simp [ByteArray.size, maxLen]⟩⟩
def encTS (x : TokS) : List Value := x.1.cells
def cmpTS (x y : TokS) : Int := cmpK x.1 y.1
theorem ltTS : ltOf cmpTS = fun x y : TokS => lessT x.1 y.1 := by
  funext x y
  exact cmpK_lt x.1 y.1

theorem cmpLaysT (blk off size : Nat) (w : World) : CmpLays Try.prog 17 #[] encTS 6 cmpTS blk off size w :=
  fun m os dk _ x y => by
    obtain ⟨⟨a0, a1, a2, a3, a4, a5⟩, hx⟩ := x
    obtain ⟨⟨b0, b1, b2, b3, b4, b5⟩, hy⟩ := y
    exact byKey_any _ _ _ hx hy

theorem own_freeS {w : World} {base n size g c : Nat} {e : TypeId} {xs : List Value} (h : w.ownsRow base e size (.slice (some ⟨g, 0, none⟩) n c) n xs) (j : Nat) : w.frozen? ⟨g, j, none⟩ = false := by
  rcases h.2 with ⟨h1, hx⟩ | ⟨g2, cap, cur, h1, hg, hh, _⟩
  · cases h1
  · injection h1 with h2 _ _
    injection h2 with h2
    injection h2 with h2 _ _
    subst h2
    exact frozen_of_row w g j cur e hh
theorem holdsT {w : World} {g B n c : Nat} {d : Array TokS} {M : List Tok} (hd : d.toList.map (·.1) = M) (hM : M.length = n) (h : w.ownsRow B 24 6 (.slice (some ⟨g, 0, none⟩) n c) n (M.flatMap Tok.cells)) (hn : 0 < n) : Sort.HoldsK encTS 6 w g 0 d := by
  obtain ⟨g', cap, e, _, _, _, _, hc⟩ := own_split h hn
  injection e with e1 _ _
  injection e1 with e1
  injection e1 with e1
  subst e1
  have hdl : d.size = n := by rw [← hM, ← hd]; simp
  intro j hj
  have hj' : j < d.size * 6 := by simpa using hj
  have hq : j / 6 < d.size := by omega
  refine ⟨?_, by rw [Nat.zero_add]; exact own_freeS h j⟩
  have hdj : M[j / 6]? = some (d[j / 6]!).1 := by
    rw [← hd, List.getElem?_map, getElem!_pos d (j / 6) hq, Array.getElem?_toList, Array.getElem?_eq_getElem hq]; rfl
  have hcl : (encTS (d[j / 6]!)).length = 6 := rfl
  have hlt : j % 6 < (encTS (d[j / 6]!)).length := by rw [hcl]; omega
  have h1 := flat_at Tok.cells 6 Tok.cells_len M (j / 6) _ hdj (j % 6) ((encTS (d[j / 6]!))[j % 6]'hlt) (List.getElem?_eq_getElem hlt)
  have h2 := hc _ _ h1
  rw [show j / 6 * 6 + j % 6 = j by omega] at h2
  rw [Nat.zero_add, h2, Sort.get_flatK _ _ _ _ hj', getElem!_pos (encTS (d[j / 6]!)) (j % 6) hlt]
  rfl
theorem slT {w : World} {g c : Nat} {d : Array TokS} {L : List Tok} (hd : d.toList.map (·.1) = L) (h : Sort.HoldsK encTS 6 w g 0 d) (hg : g < w.heap.size) (hc : L.length ≤ c) (hm : c ≤ maxLen) : IsSl w 6 (.slice (some ⟨g, 0, none⟩) L.length c) (L.map Tok.cells) := by
  refine IsSl.mk (fun k row hk => ?_) (by simp) hc hm
  obtain ⟨x, hx, rfl⟩ := rows_at Tok.cells hk
  refine ⟨g, 0, rfl, hg, fun j u hu => ?_⟩
  have hj6 : j < 6 := (List.getElem?_eq_some_iff.1 hu).1
  rw [← hd, List.getElem?_map] at hx
  obtain ⟨y, hy, rfl⟩ := Option.map_eq_some_iff.1 hx
  have hkd : k < d.size := by
    have := (List.getElem?_eq_some_iff.1 hy).1
    simpa using this
  have h1 := (h (k * 6 + j) (by rw [Sort.size_flatK]; omega)).1
  rw [Sort.get_flatK _ _ _ _ (by omega), show (k * 6 + j) / 6 = k by omega, show (k * 6 + j) % 6 = j by omega] at h1
  rw [show 0 + k * 6 + j = 0 + (k * 6 + j) by omega, h1]
  have e : d[k]! = y := by
    rw [Array.getElem?_toList] at hy
    rw [getElem!_pos d k hkd]
    rw [Array.getElem?_eq_getElem hkd] at hy
    injection hy
  rw [e]
  have hlt : j < (encTS y).length := hj6
  rw [getElem!_pos (encTS y) j hlt]
  show some ((encTS y)[j]) = some u
  rw [← List.getElem?_eq_getElem hlt]
  exact hu

set_option maxRecDepth 100000 in
theorem sortTok_any {W0 w : World} {B n c : Nat} {A : Option Addr} {M L : List Tok} (hbw : Below W0.heap.size W0 w) (hB : W0.heap.size ≤ B) (hM : MutT w B A n c M) (hL : GoodL L) (hd : M.Pairwise (fun a b => keyT a ≠ keyT b)) (hm : ∀ x, x ∈ M ↔ x ∈ L) (hn : n ≤ 1000) :
    Calls Try.prog 16 #[.slice A n c, .func (.func 17) #[] #[]] w fun e w' => e = .returned (.tuple #[]) ∧ IsSl w' 6 (.slice A n c) (L.map Tok.cells) ∧ Below W0.heap.size W0 w' := by
  have hMl := hM.len
  by_cases h0 : n = 0
  · subst h0
    have e1 : M = [] := List.eq_nil_of_length_eq_zero hMl
    subst e1
    have e2 : L = [] := by
      cases L with
      | nil => rfl
      | cons x L => have := (hm x).2 (by simp); simp at this
    subst e2
    refine (AnyF.slices_SortFunc_none Try.sortTok A c (.func (.func 17) #[] #[]) w).mono fun e w' h => ?_
    exact ⟨h.1, by rw [h.2]; exact hM.sl, by rw [h.2]; exact hbw⟩
  obtain ⟨g, rfl, hBg, hgl, hown⟩ := hM.own (by omega)
  obtain ⟨_, cap, ec, _, _, hnc, hcm, _⟩ := own_split hown (by omega)
  injection ec with _ _ ec
  subst ec
  have hfit : ∀ x ∈ M, x.id.size ≤ maxLen := fun x hx => (hL.fits x ((hm x).1 hx)).1
  obtain ⟨d, hdv⟩ : ∃ d : Array TokS, d.toList.map (·.1) = M := ⟨(M.attachWith _ hfit).toArray, by simp⟩
  have hds : d.size = n := by rw [← hMl, ← hdv]; simp
  have hH := holdsT hdv hMl hown (by omega)
  have eg : ∀ args w, (callFunc 17 args).run Try.prog w = .ok (.enter 17 args) w := enters_of Try.func17 (by kernel_rfl) rfl
  have hcon := AnyQ.slices_SortFunc Try.sortTok 6 Try.isAgg24 Try.sizeOf24 encTS (fun _ => rfl) (fun x v hv => Tok.one x.1 v hv) cmpTS (by rw [ltTS]; exact less_swo (fun x : TokS => x.1)) 17 #[] g 0 c d w eg (cmpLaysT g 0 d.size w) hH hgl (by omega)
  rw [hds] at hcon
  refine hcon.mono fun e w' ⟨he, d', q, os, hp, hs, hw⟩ => ?_
  have hds' : d'.size = d.size := hp.1
  have hS : d'.toList.map (·.1) = L := by
    refine sort_unique hL.sorted (R := M) ?_ hd hm fun i j hi hj hij => ?_
    · have h1 := hp.2.2
      rw [← hds] at h1
      have e1 : (d'.extract 0 d.size) = d' := by rw [← hds']; simp
      have e2 : (d.extract 0 d.size) = d := by simp
      rw [e1, e2] at h1
      rw [← hdv]
      exact h1.map _
    · have hi' : i < d'.size := by simpa using hi
      have hj' : j < d'.size := by simpa using hj
      have h1 := hs i j (Nat.zero_le _) hij (by omega)
      rw [ltTS] at h1
      rw [getElem!_pos d' i hi', getElem!_pos d' j hj'] at h1
      simpa using h1
  have hH' := holdsK_sortWorldK_c encTS 6 w g 0 d d' q os hH hgl hds'
  have hbl : Below W0.heap.size W0 w' := by
    rw [hw]
    have h1 : Below W0.heap.size W0 (Sort.putRow id (Sort.ahead w q) g 0 (Sort.flatK encTS 6 d')) := below_putRow hbw (by omega)
    exact h1.trans (below_grow W0.heap.size _ h1.size 0 os)
  have hLl : L.length = n := by rw [← hS]; simp [hds', hds]
  refine ⟨he, ?_, hbl⟩
  have hg' : g < w'.heap.size := by
    rw [hw]
    show g < (Sort.grow (Sort.putRowK encTS 6 (Sort.ahead w q) g 0 d') os).heap.size
    have h2 : (Sort.putRowK encTS 6 (Sort.ahead w q) g 0 d').heap.size = w.heap.size := Sort.size_putRowK ..
    simp only [Sort.grow, Array.size_append]
    omega
  rw [← hw] at hH'
  have := slT hS hH' hg' (by rw [hLl]; exact hnc) hcm
  rw [hLl] at this
  exact this

end Go.Proofs.Ytcaicdjlfgpbfaa
