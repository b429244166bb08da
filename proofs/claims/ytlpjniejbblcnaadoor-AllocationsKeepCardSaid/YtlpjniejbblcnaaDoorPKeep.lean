/-
  Plain facts: what feeders carry keeps the limits of the rules.
-/
import Derived.Test.YtlpjniejbblcnaaDoorM11
import Derived.Test.YtlpjniejbblcnaaDoorPLmt3
namespace Go.Proofs.YtlpjniejbblcnaaDoor
set_option linter.unusedVariables false

theorem path_sub {F : List Feed} {n : Nat} (hn : n = F.length) : ∀ (last : Nat) (i : Int), last ≤ n → ∀ f ∈ pathL F last i, ∀ g ∈ pathL F n (f : Int), g ∈ pathL F last i := by
  intro last
  induction last using Nat.strongRecOn with
  | _ last ih =>
    intro i hl f hf g hg
    by_cases h : 0 ≤ i ∧ i < last
    · obtain ⟨k, rfl⟩ : ∃ k : Nat, i = k := ⟨i.toNat, by omega⟩
      have hk : k < last := by omega
      have hkF : k < F.length := by omega
      rw [pathL_in hk hkF] at hf ⊢
      rcases List.mem_cons.1 hf with rfl | hf
      · rw [pathL_in (by omega) hkF] at hg
        exact hg
      · exact List.mem_cons_of_mem _ (ih k hk F[k].parent (by omega) f hf g hg)
    · rw [pathL_out h] at hf; simp at hf
theorem path_self {F : List Feed} {f : Nat} (hf : f < F.length) : f ∈ pathL F F.length (f : Int) := by rw [pathL_in hf hf]; simp
theorem path_bd {F : List Feed} {i : Int} {g : Nat} (h : g ∈ pathL F F.length i) : g < F.length := pathL_lt g h
theorem want_sub {F : List Feed} {P : List Pnt} {x : WantR} {f g : Nat} (hf : f ∈ wantPath F P x) (hg : g ∈ pathL F F.length (f : Int)) : g ∈ wantPath F P x := by
  unfold wantPath at hf ⊢
  split at hf
  · exact path_sub rfl F.length _ (Nat.le_refl _) f hf g hg
  · simp at hf
theorem ctr_t {F : List Feed} {P : List Pnt} {f g : Nat} {x : WantR × Int} (hg : g ∈ pathL F F.length (f : Int)) (h0 : 0 ≤ x.2) : 0 ≤ (ctr F P f x).t ∧ (ctr F P f x).t ≤ (ctr F P g x).t := by
  have hb : 0 ≤ x.2 * (x.1.phases % 2 + x.1.phases / 2 % 2 + x.1.phases / 4 % 2) := Int.mul_nonneg h0 (by omega)
  unfold ctr
  by_cases h : f ∈ wantPath F P x.1
  · rw [if_pos h, if_pos (want_sub h hg)]
    unfold addC zeroC
    simp only
    omega
  · rw [if_neg h]
    unfold zeroC
    split
    · unfold addC; simp only; omega
    · simp only; omega
theorem capAt_t {F : List Feed} {P : List Pnt} {f g : Nat} (hg : g ∈ pathL F F.length (f : Int)) : ∀ l : List (WantR × Int), (∀ z ∈ l, 0 ≤ z.2) → (capAt F P f l).t ≤ (capAt F P g l).t
  | [], _ => Int.le_refl _
  | x :: l, h => by
    rw [capAt_cons, capAt_cons]
    have h1 := (ctr_t (P := P) hg (h x (by simp))).2
    have h2 := capAt_t (P := P) hg l (fun z hz => h z (by simp [hz]))
    unfold plusC
    simp only
    omega
theorem fold_min {v : Int} {h : Nat → Int} : ∀ (l : List Nat) (s : Int), v ≤ s → (∀ g ∈ l, v ≤ h g) → v ≤ l.foldl (fun n k => min n (h k)) s
  | [], s, hs, _ => hs
  | x :: l, s, hs, hl => by
    rw [List.foldl_cons]
    exact fold_min l _ (by have := hl x (by simp); omega) (fun g hg => hl g (by simp [hg]))
/-- what a feeder carries is within the limits above it -/
theorem keep_path {r : RulR} {t : Int} {W : List WantR} {x : Vec} (hA : AllocOk r.S (capsL r t) W) (hx : siteV r.S (capsL r t) W x = true) (hr : ∀ i, i < W.length → 0 ≤ x i) (hl : limE r = 0) (ht : 0 ≤ t ∧ t ≤ 268435456) {f : Nat} (hf : f < r.S.F.length) :
    (capAt r.S.F r.S.P f (W.zip (listV W.length x))).t ≤ pathA r f t := by
  have hz : ∀ z ∈ W.zip (listV W.length x), 0 ≤ z.2 := fun z hz => by
    obtain ⟨j, hj, rfl⟩ := List.mem_iff_getElem.1 hz
    rw [List.getElem_zip, listV_get]
    exact hr j (by simp [listV_len] at hj; omega)
  have hov := (over_nil (W := W) hA.len _).1 ((siteV_iff hA x).1 hx).2
  have key : ∀ g ∈ pathL r.S.F r.S.F.length (f : Int), (capAt r.S.F r.S.P f (W.zip (listV W.length x))).t ≤ capF r.lim g t := fun g hg => by
    have hgl := path_bd hg
    have h1 := capAt_t (P := r.S.P) hg (W.zip (listV W.length x)) hz
    have h2 := hov g (by rw [capsL_len]; exact hgl)
    rw [capsL_at] at h2
    unfold overB capFd at h2
    simp only [Bool.or_eq_false_iff, decide_eq_false_iff_not] at h2
    omega
  unfold pathA
  rw [if_neg (by omega)]
  exact fold_min _ _ (key f (path_self hf)) key
/-- who gets power can have no watt more -/
theorem keep_more {S : SiteR} {C : List CapR} {W : List WantR} {x : Vec} (h : AllocOk S C W) (hx : AllocTo S C W x) {i : Nat} (hi : i < W.length) (h0 : 0 < x i) : siteV S C W (updF x i (x i + 1)) = false := by
  have hk := alloc_kept h hx
  have hr := hk.rng i hi
  by_cases q : x i < greatW S.P W[i]
  · exact hk.more i hi q (.inl h0)
  · cases e : siteV S C W (updF x i (x i + 1)) with
    | false => rfl
    | true =>
      have := ((siteV_iff h _).1 e).1 i hi
      rw [upd_same] at this
      omega

end Go.Proofs.YtlpjniejbblcnaaDoor
