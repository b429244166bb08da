/-
  Plain functions: fair filling, round after round: who gets less than its least power gets nothing.
  Plain facts: loads of parts of the wants, of lesser powers, in another order.
  Plain facts: the powers of wants at a site: what fits, as a predicate of a filling.
  The memory of a filling: the caps lie below it; its numbers, who is active and a trial are its own blocks.
  A region that draws its order: reads, then one store or call at its end. No program is named here.
  Walks: least, check, raise, raisable of package fair.
-/
import Derived.Test.YtlpjniejbblcnaaDoorM5
import Derived.Test.YtlpjniejbblcnaaDoorM4
import Derived.Test.YtlpjniejbblcnaaDoorM3
import Derived.Test.YtlpjniejbblcnaaDoorM1
import Derived.StillTailTactics

namespace Go.Proofs.YtlpjniejbblcnaaDoor
set_option linter.unusedVariables false

/-- a vector as a list, and back -/
def listV (n : Nat) (v : Vec) : List Int := (List.range n).map v
def vecL (l : List Int) : Vec := fun i => l.getD i 0
theorem listV_len (n : Nat) (v : Vec) : (listV n v).length = n := by simp [listV]
theorem listV_get {n : Nat} {v : Vec} {i : Nat} (h : i < (listV n v).length) : (listV n v)[i] = v i := by simp [listV]
theorem vecL_get {l : List Int} {i : Nat} (h : i < l.length) : vecL l i = l[i] := by simp [vecL, List.getD_eq_getElem?_getD, List.getElem?_eq_getElem h]
theorem vecL_out {l : List Int} {i : Nat} (h : l.length ≤ i) : vecL l i = 0 := by simp [vecL, List.getD_eq_getElem?_getD, List.getElem?_eq_none h]
theorem listV_vecL (l : List Int) : listV l.length (vecL l) = l := by
  apply List.ext_getElem
  · rw [listV_len]
  · intro i h1 h2
    rw [listV_get, vecL_get h2]
theorem vecL_listV {n : Nat} {v : Vec} {i : Nat} (h : i < n) : vecL (listV n v) i = v i := by
  rw [vecL_get (by rw [listV_len]; exact h), listV_get]
theorem listV_congr {n : Nat} {u v : Vec} (h : ∀ i, i < n → u i = v i) : listV n u = listV n v := by
  unfold listV
  exact List.map_congr_left fun i hi => h i (List.mem_range.1 hi)
theorem vecL_set {l : List Int} {i : Nat} (h : i < l.length) (x : Int) : vecL (l.set i x) = updF (vecL l) i x := by
  funext j
  unfold updF
  by_cases q : j = i
  · subst q
    rw [if_pos rfl, vecL_get (by simpa using h)]
    simp
  · rw [if_neg q]
    unfold vecL
    rw [List.getD_eq_getElem?_getD, List.getD_eq_getElem?_getD, List.getElem?_set_ne (Ne.symm q)]
theorem listV_upd {n : Nat} {v : Vec} {i : Nat} (h : i < n) (x : Int) : listV n (updF v i x) = (listV n v).set i x := by
  apply List.ext_getElem
  · simp [listV_len]
  · intro j h1 h2
    rw [listV_get, List.getElem_set, listV_get]
    unfold updF
    by_cases q : j = i
    · subst q; simp
    · rw [if_neg q, if_neg (Ne.symm q)]

/-- i is the last of n that has less than its least power -/
def IsLow (n : Nat) (mn c x : Vec) (i : Nat) : Prop := i < n ∧ c i ≠ 0 ∧ x i < mn i ∧ ∀ j, i < j → j < n → ¬ (c j ≠ 0 ∧ x j < mn j)
def NoLow (n : Nat) (mn c x : Vec) : Prop := ∀ j, j < n → ¬ (c j ≠ 0 ∧ x j < mn j)
/-- x is what the rounds come to -/
inductive RunsTo (n : Nat) (F : Vec → Bool) (mn : Vec) : Vec → Vec → Prop
  | stop {c : Vec} : NoLow n mn c (fillX n F c) → RunsTo n F mn c (fillX n F c)
  | next {c x : Vec} {i : Nat} : IsLow n mn c (fillX n F c) i → RunsTo n F mn (updF c i 0) x → RunsTo n F mn c x
theorem low_unique {n : Nat} {mn c x : Vec} {i j : Nat} (h : IsLow n mn c x i) (h' : IsLow n mn c x j) : i = j := by
  rcases Nat.lt_trichotomy i j with g | g | g
  · exact absurd ⟨h'.2.1, h'.2.2.1⟩ (h.2.2.2 j g h'.1)
  · exact g
  · exact absurd ⟨h.2.1, h.2.2.1⟩ (h'.2.2.2 i g h.1)
theorem runs_unique {n : Nat} {F : Vec → Bool} {mn c x y : Vec} (h : RunsTo n F mn c x) (h' : RunsTo n F mn c y) : x = y := by
  induction h with
  | stop hn =>
    cases h' with
    | stop _ => rfl
    | next hl _ => exact absurd ⟨hl.2.1, hl.2.2.1⟩ (hn _ hl.1)
  | next hl _ ih =>
    cases h' with
    | stop hn => exact absurd ⟨hl.2.1, hl.2.2.1⟩ (hn _ hl.1)
    | next hl' h2 =>
      have := low_unique hl hl'
      subst this
      exact ih h2
/-- the ones that are not yet put out -/
def liveF (c : Vec) (n : Nat) : Nat := cntF (fun i => decide (c i ≠ 0)) n
theorem live_less {n : Nat} {c : Vec} {i : Nat} (hi : i < n) (h : c i ≠ 0) : liveF (updF c i 0) n < liveF c n := by
  refine cnt_lt (a := fun i => decide (c i ≠ 0)) (b := fun j => decide (updF c i 0 j ≠ 0)) (j := i) (fun j hj => ?_) (by simpa using h) (by simp [upd_same]) n hi
  by_cases q : j = i
  · subst q; simp [upd_same] at hj
  · simpa [upd_other q] using hj
theorem capped_upd {n : Nat} {c : Vec} (h : Capped n c) (i : Nat) : Capped n (updF c i 0) := by
  obtain ⟨B, hB⟩ := h
  refine ⟨B, fun j hj => ?_⟩
  have := hB j hj
  by_cases q : j = i
  · subst q; rw [upd_same]; omega
  · rw [upd_other q]; exact this
/-- what the rounds come to is the filling of numbers of which some have been put out -/
theorem runs_fill {n : Nat} {F : Vec → Bool} {mn c x : Vec} (h : RunsTo n F mn c x) : ∃ d, x = fillX n F d ∧ NoLow n mn d x ∧ ∀ i, d i = c i ∨ d i = 0 := by
  induction h with
  | stop hn => exact ⟨_, rfl, hn, fun i => .inl rfl⟩
  | @next c x i hl h2 ih =>
    obtain ⟨d, e, hn, hd⟩ := ih
    refine ⟨d, e, hn, fun j => ?_⟩
    rcases hd j with g | g
    · by_cases q : j = i
      · subst q; rw [upd_same] at g; exact .inr g
      · rw [upd_other q] at g; exact .inl g
    · exact .inr g
/-- who has no least power is not put out -/
theorem runs_keep {n : Nat} {F : Vec → Bool} {mn c x : Vec} (hF : FillOk n F) (hz : F zeroV = true) (h : RunsTo n F mn c x) : Capped n c → ∃ d, x = fillX n F d ∧ NoLow n mn d x ∧ Capped n d ∧ (∀ i, d i = c i ∨ d i = 0) ∧ ∀ i, i < n → mn i = 0 → d i = c i := by
  induction h with
  | stop hn => exact fun hc => ⟨_, rfl, hn, hc, fun i => .inl rfl, fun i _ _ => rfl⟩
  | @next c x i hl h2 ih =>
    intro hc
    obtain ⟨d, e, hn, hcd, hd, hm⟩ := ih (capped_upd hc i)
    refine ⟨d, e, hn, hcd, fun j => ?_, fun j hj hj0 => ?_⟩
    · rcases hd j with g | g
      · by_cases q : j = i
        · subst q; rw [upd_same] at g; exact .inr g
        · rw [upd_other q] at g; exact .inl g
      · exact .inr g
    · have hq : j ≠ i := fun e => by
        subst e
        have := (fillX_is hF hc hz).rng j hj
        have := hl.2.2.1
        omega
      rw [hm j hj hj0, upd_other hq]
/-- one receiver -/
theorem runs_one {F : Vec → Bool} {mn c x : Vec} (hF : FillOk 1 F) (hz : F zeroV = true) (hc : Capped 1 c) (h : RunsTo 1 F mn c x) :
    (x = fillX 1 F c ∧ NoLow 1 mn c x) ∨ (x 0 = 0 ∧ c 0 ≠ 0 ∧ ∃ y : Vec, Filled 1 F c y ∧ y 0 < mn 0) := by
  cases h with
  | stop hn => exact .inl ⟨rfl, hn⟩
  | @next _ _ i hl h2 =>
    have h0 : i = 0 := by have := hl.1; omega
    subst h0
    right
    refine ⟨?_, hl.2.1, fillX 1 F c, fillX_is hF hc hz, hl.2.2.1⟩
    obtain ⟨d, e, hn, hcd, hd, hm⟩ := runs_keep hF hz h2 (capped_upd hc 0)
    have h3 : d 0 = 0 := by
      rcases hd 0 with g | g
      · rw [g, upd_same]
      · exact g
    have := (fillX_is hF hcd hz).rng 0 (by omega)
    rw [e]
    omega

/-- when none can have more, nothing changes -/
theorem pass_blocked {n : Nat} {F : Vec → Bool} {c : Vec} {s : FSt} (hF : FillOk n F) (hs : s.ok n F c) (h : ∀ i, i < n → Blocked F c s.x i) : ∀ k, ∀ i, i < n → (passF F c s k).x i = s.x i ∧ Blocked F c (passF F c s k).x i := by
  intro k
  induction k with
  | zero => exact fun i hi => ⟨rfl, h i hi⟩
  | succ k ih =>
    intro i hi
    have := blocked_step hF (pass_ok hF hs k) (ih i hi).2 k
    exact ⟨by rw [← (ih i hi).1]; exact this.2, this.1⟩
theorem fill_blocked {n : Nat} {F : Vec → Bool} {c : Vec} (hF : FillOk n F) (hc : Capped n c) : ∀ (k : Nat) (s : FSt), s.ok n F c → (∀ i, i < n → Blocked F c s.x i) → ∀ i, i < n → (fillN n F c k s).x i = s.x i := by
  intro k
  induction k with
  | zero => exact fun s _ _ i _ => rfl
  | succ k ih =>
    intro s hs h i hi
    by_cases h0 : cntF s.a n = 0
    · rw [fill_done h0]
    · obtain ⟨B, hB⟩ := hc
      obtain ⟨d, hd⟩ := top_exists hF hs (B := B) (fun i hi => (hB i hi).2)
      rw [fill_step hF hs h0 hd]
      have hl := lev_ok hF hs hd
      have hb : ∀ j, j < n → Blocked F c (levF s.x c s.a d) j := fun j hj => (h j hj).mono hF (fun k hk => ⟨(hs.rng k hk).1, (lev_ge (s := s) (c := c) hs.rng hd.1 k hk).1⟩) (blocked_lev hF hs hd hj (h j hj)).symm
      have hp := pass_blocked hF hl hb n
      rw [ih _ (rnd_ok hF hs hd) (fun j hj => (hp j hj).2) i hi]
      unfold rndF
      rw [(hp i hi).1]
      exact blocked_lev hF hs hd hi (h i hi)
/-- a round of a state at rest -/
theorem rnd_rest {n : Nat} {F : Vec → Bool} {c : Vec} {s : FSt} (hs : s.ok n F c) (h : cntF s.a n = 0) (d : Int) : rndF n F c s d = s := by
  have ha : ∀ i, s.a i = false := fun i => by
    cases e : s.a i with
    | false => rfl
    | true =>
      have := cnt_zero.1 h i (hs.act i e)
      rw [this] at e; cases e
  have hl : levF s.x c s.a d = s.x := by
    funext i
    unfold levF
    rw [ha i]; rfl
  unfold rndF
  rw [hl]
  have : ∀ k, passF F c s k = s := by
    intro k
    induction k with
    | zero => rfl
    | succ k ih =>
      show stepF F c (passF F c s k) k = s
      rw [ih, step_off (ha k)]
  exact this n
theorem fill_step' {n : Nat} {F : Vec → Bool} {c : Vec} {s : FSt} (hF : FillOk n F) (hs : s.ok n F c) {d : Int} (hd : IsTop n F c s d) (k : Nat) : fillN n F c (k + 1) s = fillN n F c k (rndF n F c s d) := by
  by_cases h : cntF s.a n = 0
  · rw [rnd_rest hs h, fill_done h, fill_done h]
  · exact fill_step hF hs h hd k

end Go.Proofs.YtlpjniejbblcnaaDoor

namespace Go.Proofs.YtlpjniejbblcnaaDoor
set_option linter.unusedVariables false

theorem zip_take' {α β : Type} : ∀ (a : List α) (b : List β) (k : Nat), (a.take k).zip (b.take k) = (a.zip b).take k
  | [], b, k => by simp
  | x :: a, [], k => by cases k <;> simp
  | x :: a, y :: b, 0 => by simp
  | x :: a, y :: b, k + 1 => by simp [zip_take' a b k]
theorem zip_drop' {α β : Type} : ∀ (a : List α) (b : List β) (k : Nat), (a.drop k).zip (b.drop k) = (a.zip b).drop k
  | [], b, k => by simp
  | x :: a, [], k => by cases k <;> simp
  | x :: a, y :: b, 0 => by simp
  | x :: a, y :: b, k + 1 => by simp [zip_drop' a b k]
theorem zip_app' {α β : Type} : ∀ (a : List α) (b : List β) (c : List α) (d : List β), a.length = b.length → (a ++ c).zip (b ++ d) = a.zip b ++ c.zip d
  | [], [], c, d, _ => by simp
  | x :: a, [], c, d, h => by simp at h
  | [], y :: b, c, d, h => by simp at h
  | x :: a, y :: b, c, d, h => by simp [zip_app' a b c d (by simpa using h)]

theorem all_take_drop {α : Type} {l : List α} {p : α → Bool} (h : l.all p = true) (k : Nat) : (l.take k).all p = true ∧ (l.drop k).all p = true := by
  rw [List.all_eq_true] at h
  exact ⟨List.all_eq_true.2 fun x hx => h x (List.mem_of_mem_take hx), List.all_eq_true.2 fun x hx => h x (List.mem_of_mem_drop hx)⟩

structure AddsOk (S : SiteR) (W : List WantR) (Z : List Int) (K : Nat) : Prop where
  ea : loadE S (W.take K) (Z.take K) = 0
  eb : loadE S (W.drop K) (Z.drop K) = 0
  la : loadsOf S (W.take K) (Z.take K) = loadL S.F S.P ((W.zip Z).take K)
  lb : loadsOf S (W.drop K) (Z.drop K) = loadL S.F S.P ((W.zip Z).drop K)
  l : loadsOf S W Z = loadL S.F S.P (W.zip Z)
theorem addsOk {S : SiteR} {W : List WantR} {Z : List Int} (h : loadE S W Z = 0) (K : Nat) : AddsOk S W Z K := by
  obtain ⟨h0, hl, hall⟩ := loadE_zero h
  obtain ⟨h1, h2⟩ := all_take_drop hall K
  have ea : loadE S (W.take K) (Z.take K) = 0 := loadE_ok h0 (by simp [hl]) (by rw [zip_take']; exact h1)
  have eb : loadE S (W.drop K) (Z.drop K) = 0 := loadE_ok h0 (by simp [hl]) (by rw [zip_drop']; exact h2)
  exact ⟨ea, eb, by rw [loadsOf_ok ea, zip_take'], by rw [loadsOf_ok eb, zip_drop'], loadsOf_ok h⟩
theorem capAt_split (F : List Feed) (P : List Pnt) (f : Nat) (l : List (WantR × Int)) (K : Nat) : capAt F P f l = plusC (capAt F P f (l.take K)) (capAt F P f (l.drop K)) := by
  rw [← capAt_append, List.take_append_drop]

/-- a feeder carries at least what each feeder below it carries -/
theorem capAt_up {S : SiteR} (hS : SiteOk S) {i p : Nat} (hi : i < S.F.length) (he : S.F[i].parent = (p : Int)) (l : List (WantR × Int)) (hl : ∀ x ∈ l, 0 ≤ x.2 ∧ x.2 ≤ 1048576) :
    (capAt S.F S.P i l).t ≤ (capAt S.F S.P p l).t ∧ (capAt S.F S.P i l).a ≤ (capAt S.F S.P p l).a := by
  induction l with
  | nil => exact ⟨Int.le_refl _, Int.le_refl _⟩
  | cons x l ih =>
    rw [capAt_cons, capAt_cons]
    obtain ⟨h1, h2⟩ := ih (fun y hy => hl y (by simp [hy]))
    obtain ⟨q0, q1⟩ := hl x (by simp)
    have hb := addC_bd (ph := x.1.phases) q0 q1
    have hc : (ctr S.F S.P i x).t ≤ (ctr S.F S.P p x).t ∧ (ctr S.F S.P i x).a ≤ (ctr S.F S.P p x).a := by
      unfold ctr
      by_cases hm : i ∈ wantPath S.F S.P x.1
      · have hm2 : p ∈ wantPath S.F S.P x.1 := by
          unfold wantPath at hm ⊢
          split at hm
          · exact path_up hS hi (Nat.le_refl _) he hm
          · simp at hm
        rw [if_pos hm, if_pos hm2]
        exact ⟨Int.le_refl _, Int.le_refl _⟩
      · rw [if_neg hm]
        split
        · have : zeroC.t = 0 := rfl
          have : zeroC.a = 0 := rfl
          omega
        · exact ⟨Int.le_refl _, Int.le_refl _⟩
    simp only [plusC]
    omega

/-- the order of the wants does not matter -/
theorem loadE_turn {S : SiteR} {W : List WantR} {Z : List Int} (hl : W.length = Z.length) (K : Nat) : loadE S (W.drop K ++ W.take K) (Z.drop K ++ Z.take K) = loadE S W Z ∧ loadsOf S (W.drop K ++ W.take K) (Z.drop K ++ Z.take K) = loadsOf S W Z := by
  have hz : (W.drop K ++ W.take K).zip (Z.drop K ++ Z.take K) = (W.zip Z).drop K ++ (W.zip Z).take K := by
    rw [zip_app' _ _ _ _ (by simp [hl]), zip_drop', zip_take']
  have ha : ((W.zip Z).drop K ++ (W.zip Z).take K).all (wantB S.P) = (W.zip Z).all (wantB S.P) := by
    rw [List.all_append, Bool.and_comm, ← List.all_append, List.take_append_drop]
  have hl2 : (W.drop K ++ W.take K).length = (Z.drop K ++ Z.take K).length := by simp [hl]
  have he : loadE S (W.drop K ++ W.take K) (Z.drop K ++ Z.take K) = loadE S W Z := by
    unfold loadE
    rw [hz, ha, if_neg (c := (W.drop K ++ W.take K).length ≠ _) (by simp [hl2]), if_neg (c := W.length ≠ Z.length) (by simp [hl])]
  refine ⟨he, ?_⟩
  unfold loadsOf
  rw [he, hz, loadL_turn, List.take_append_drop]

/-- lesser powers fit -/
def lessC (x y : CapR) : Prop := x.a ≤ y.a ∧ x.b ≤ y.b ∧ x.c ≤ y.c ∧ x.t ≤ y.t
theorem lessC.refl (x : CapR) : lessC x x := ⟨Int.le_refl _, Int.le_refl _, Int.le_refl _, Int.le_refl _⟩
theorem lessC.plus {x y x' y' : CapR} (h : lessC x y) (h' : lessC x' y') : lessC (plusC x x') (plusC y y') := by
  obtain ⟨a, b, c, d⟩ := h
  obtain ⟨a', b', c', d'⟩ := h'
  refine ⟨?_, ?_, ?_, ?_⟩ <;> simp only [plusC] <;> omega
theorem addC_less {ph p q : Int} (h : p ≤ q) : lessC (addC zeroC ph p) (addC zeroC ph q) := by
  have e : ∀ b : Int, b % 2 = 0 ∨ b % 2 = 1 := by omega
  refine ⟨?_, ?_, ?_, ?_⟩ <;> simp only [addC, zeroC] <;> rcases e ph with h1 | h1 <;> rcases e (ph / 2) with h2 | h2 <;> rcases e (ph / 4) with h3 | h3 <;> simp only [h1, h2, h3] <;> omega
theorem ctr_less {F : List Feed} {P : List Pnt} {f : Nat} {x : WantR} {p q : Int} (h : p ≤ q) : lessC (ctr F P f (x, p)) (ctr F P f (x, q)) := by
  unfold ctr
  simp only
  split
  · exact addC_less h
  · exact lessC.refl _
theorem capAt_less {F : List Feed} {P : List Pnt} {f : Nat} : ∀ (W : List WantR) (Z Y : List Int), (∀ j (h1 : j < Y.length) (h2 : j < Z.length), Y[j] ≤ Z[j]) → Y.length = Z.length → lessC (capAt F P f (W.zip Y)) (capAt F P f (W.zip Z))
  | [], Z, Y, _, _ => by simp; exact lessC.refl _
  | x :: W, [], [], _, _ => lessC.refl _
  | x :: W, [], _ :: _, _, h => by simp at h
  | x :: W, _ :: _, [], _, h => by simp at h
  | x :: W, z :: Z, y :: Y, h, hl => by
    rw [List.zip_cons_cons, List.zip_cons_cons, capAt_cons, capAt_cons]
    refine (ctr_less (h 0 (by simp) (by simp))).plus (capAt_less W Z Y (fun j h1 h2 => ?_) (by simpa using hl))
    have := h (j + 1) (by simp; omega) (by simp; omega)
    simpa using this

theorem fitsB_iff {S : SiteR} {C : List CapR} {W : List WantR} {pw : List Int} : fitsB S C W pw = true ↔ loadE S W pw = 0 ∧ C.length = S.F.length ∧ (overL C (loadsOf S W pw)).length = 0 ∧ (W.zip pw).any (highB S.P) = false := by
  unfold fitsB
  simp only [Bool.and_eq_true, decide_eq_true_eq, Bool.not_eq_true']

theorem fits_less {S : SiteR} {C : List CapR} {W : List WantR} {Z Y : List Int} (h : fitsB S C W Z = true) (hl : Y.length = Z.length) (h0 : ∀ y ∈ Y, 0 ≤ y) (hle : ∀ j (h1 : j < Y.length) (h2 : j < Z.length), Y[j] ≤ Z[j]) : fitsB S C W Y = true := by
  obtain ⟨hE, hC, hO, hH⟩ := fitsB_iff.1 h
  obtain ⟨hs, hWZ, hall⟩ := loadE_zero hE
  have hall2 : (W.zip Y).all (wantB S.P) = true := by
    rw [List.all_eq_true]
    intro x hx
    obtain ⟨j, hj, rfl⟩ := List.mem_iff_getElem.1 hx
    have hj1 : j < W.length := by simp at hj; omega
    have hj2 : j < Y.length := by simp at hj; omega
    have hj3 : j < Z.length := by omega
    rw [List.getElem_zip]
    have hz := wantB_iff.1 (List.all_eq_true.1 hall (W[j], Z[j]) (List.mem_iff_getElem.2 ⟨j, by simp; omega, by simp⟩))
    have hyz := hle j hj2 hj3
    exact wantB_iff.2 ⟨hz.p0, hz.p1, hz.h1, hz.h7, hz.mask, h0 _ (List.getElem_mem hj2), Int.le_trans hyz hz.w1⟩
  have hE2 : loadE S W Y = 0 := loadE_ok hs (by omega) hall2
  refine fitsB_iff.2 ⟨hE2, hC, ?_, ?_⟩
  · rw [loadsOf_ok hE] at hO
    rw [loadsOf_ok hE2]
    have hnil := List.eq_nil_of_length_eq_zero hO
    have : overL C (loadL S.F S.P (W.zip Y)) = [] := by
      unfold overL at hnil ⊢
      rw [List.filter_eq_nil_iff] at hnil ⊢
      intro i hi
      rw [loadL_len] at hi hnil
      have hn := hnil i hi
      have hiF : i < S.F.length := by rw [List.mem_range] at hi; omega
      have hiC : i < C.length := by omega
      rw [List.getElem?_eq_getElem hiC, loadL_get hiF] at hn ⊢
      simp only at hn ⊢
      obtain ⟨a, b, c, d⟩ := capAt_less (F := S.F) (P := S.P) (f := i) W Z Y hle hl
      unfold overB at hn ⊢
      simp only [Bool.or_eq_true, decide_eq_true_eq] at hn ⊢
      omega
    rw [this]; rfl
  · rw [List.any_eq_false] at hH ⊢
    intro x hx
    obtain ⟨j, hj, rfl⟩ := List.mem_iff_getElem.1 hx
    have hj1 : j < W.length := by simp at hj; omega
    have hj2 : j < Y.length := by simp at hj; omega
    have hj3 : j < Z.length := by omega
    rw [List.getElem_zip]
    have hz := hH (W[j], Z[j]) (List.mem_iff_getElem.2 ⟨j, by simp; omega, by simp⟩)
    have hyz := hle j hj2 hj3
    unfold highB at hz ⊢
    simp only at hz ⊢
    split
    · rename_i p hp
      rw [hp] at hz
      simp only [Bool.or_eq_true, decide_eq_true_eq] at hz ⊢
      omega
    · simp

end Go.Proofs.YtlpjniejbblcnaaDoor

namespace Go.Proofs.YtlpjniejbblcnaaDoor
set_option linter.unusedVariables false

def siteV (S : SiteR) (C : List CapR) (W : List WantR) : Vec → Bool := fun v => fitsB S C W (listV W.length v)
def limB (n : Int) : Bool := decide (0 ≤ n) && decide (n ≤ 1073741824)
def capB (c : CapR) : Bool := limB c.a && (limB c.b && (limB c.c && limB c.t))
/-- the error of a want -/
def wantBad (P : List Pnt) (seen : List Int) (x : WantR) : Bool := match P[x.point.toNat]? with
  | some p => !(decide (0 ≤ x.point) && (decide (1 ≤ x.phases) && (decide (x.phases ≤ 7) && (maskB x.phases p.phases && !decide (x.point ∈ seen)))))
  | none => true
def wantE (P : List Pnt) (seen : List Int) (x : WantR) : Int := if wantBad P seen x = true then 1 else if powB x.top = true then 0 else 2
def ptsL (W : List WantR) : List Int := W.map WantR.point
def wantAt (P : List Pnt) (W : List WantR) (k : Nat) : Int := match W[k]? with
  | some x => wantE P (ptsL (W.take k)) x
  | none => 0
theorem wantAt_eq {P : List Pnt} {W : List WantR} {k : Nat} (h : k < W.length) : wantAt P W k = wantE P (ptsL (W.take k)) W[k] := by simp [wantAt, List.getElem?_eq_getElem h]
/-- the error of Run -/
def allocE (S : SiteR) (C : List CapR) (W : List WantR) : Int :=
  if siteE S ≠ 0 then siteE S else if C.length ≠ S.F.length then 1 else if C.all capB = false then 2 else firstE (wantAt S.P W) W.length
structure AllocOk (S : SiteR) (C : List CapR) (W : List WantR) : Prop where
  site : siteE S = 0
  len : C.length = S.F.length
  caps : C.all capB = true
  wants : ∀ k (h : k < W.length), wantBad S.P (ptsL (W.take k)) W[k] = false ∧ powB W[k].top = true
theorem allocE_ok {S : SiteR} {C : List CapR} {W : List WantR} (h : allocE S C W = 0) : AllocOk S C W := by
  unfold allocE at h
  split at h
  · rename_i g; exact absurd h g
  · rename_i g1
    split at h
    · cases h
    · rename_i g2
      split at h
      · cases h
      · rename_i g3
        refine ⟨by omega, by omega, by cases e : C.all capB with | true => rfl | false => exact absurd e g3, fun k hk => ?_⟩
        have := firstE_all h k hk
        rw [wantAt_eq hk] at this
        unfold wantE at this
        cases e1 : wantBad S.P (ptsL (W.take k)) W[k] with
        | true => rw [e1] at this; simp at this
        | false =>
          cases e2 : powB W[k].top with
          | true => exact ⟨rfl, rfl⟩
          | false => rw [e1, e2] at this; simp at this
/-- a want of a site -/
structure WantOk (P : List Pnt) (x : WantR) : Prop where
  p0 : 0 ≤ x.point
  p1 : x.point.toNat < P.length
  h1 : 1 ≤ x.phases
  h7 : x.phases ≤ 7
  mask : maskB x.phases P[x.point.toNat].phases = true
  t0 : 0 ≤ x.top
  t1 : x.top ≤ 1048576
theorem AllocOk.want {S : SiteR} {C : List CapR} {W : List WantR} (h : AllocOk S C W) {k : Nat} (hk : k < W.length) : WantOk S.P W[k] ∧ W[k].point ∉ ptsL (W.take k) := by
  obtain ⟨h1, h2⟩ := h.wants k hk
  have h3 := powB_iff.1 h2
  unfold wantBad at h1
  split at h1
  · rename_i p hp
    obtain ⟨hl, he⟩ := List.getElem?_eq_some_iff.1 hp
    simp only [Bool.not_eq_false', Bool.and_eq_true, decide_eq_true_eq, Bool.not_eq_true', decide_eq_false_iff_not] at h1
    obtain ⟨a, b, c, d, e⟩ := h1
    exact ⟨⟨a, hl, b, c, by rw [he]; exact d, h3.1, h3.2⟩, e⟩
  · cases h1
theorem WantOk.right {P : List Pnt} {x : WantR} (h : WantOk P x) {p : Int} (h0 : 0 ≤ p) (h1 : p ≤ 1048576) : Right P (x, p) := ⟨h.p0, h.p1, h.h1, h.h7, h.mask, h0, h1⟩
/-- the greatest power of a want, its least power, and what it asks for at first -/
def pntOf (P : List Pnt) (x : WantR) : Pnt := (P[x.point.toNat]?).getD ⟨⟨#[]⟩, 0, 0, 0, 0⟩
theorem pntOf_eq {P : List Pnt} {x : WantR} (h : x.point.toNat < P.length) : pntOf P x = P[x.point.toNat] := by simp [pntOf, List.getElem?_eq_getElem h]
def greatW (P : List Pnt) (x : WantR) : Int := min x.top (pntOf P x).rated
def askW (P : List Pnt) (x : WantR) : Int := if greatW P x < (pntOf P x).least then 0 else greatW P x
def askL (P : List Pnt) (W : List WantR) : List Int := W.map (askW P)
def minV (P : List Pnt) (W : List WantR) : Vec := fun i => match W[i]? with
  | some x => (pntOf P x).least
  | none => 0
theorem minV_eq {P : List Pnt} {W : List WantR} {i : Nat} (h : i < W.length) : minV P W i = (pntOf P W[i]).least := by simp [minV, List.getElem?_eq_getElem h]
theorem ask_eq {P : List Pnt} {W : List WantR} {i : Nat} (h : i < W.length) : vecL (askL P W) i = askW P W[i] := by
  rw [vecL_get (by simpa [askL] using h)]; simp [askL]
theorem great_bd {S : SiteR} {C : List CapR} {W : List WantR} (h : AllocOk S C W) {i : Nat} (hi : i < W.length) : 0 ≤ greatW S.P W[i] ∧ greatW S.P W[i] ≤ 1048576 ∧ 0 ≤ (pntOf S.P W[i]).least ∧ (pntOf S.P W[i]).least ≤ (pntOf S.P W[i]).rated := by
  have hw := (h.want hi).1
  have hp := (siteE_ok h.site).pow _ hw.p1
  unfold greatW
  rw [pntOf_eq hw.p1]
  have := hw.t0
  have := hw.t1
  omega
theorem ask_bd {S : SiteR} {C : List CapR} {W : List WantR} (h : AllocOk S C W) {i : Nat} (hi : i < W.length) : 0 ≤ vecL (askL S.P W) i ∧ vecL (askL S.P W) i ≤ greatW S.P W[i] := by
  have := great_bd h hi
  rw [ask_eq hi]
  unfold askW
  split <;> omega
theorem ask_capped {S : SiteR} {C : List CapR} {W : List WantR} (h : AllocOk S C W) : Capped W.length (vecL (askL S.P W)) :=
  ⟨1048576, fun i hi => by have := ask_bd h hi; have := great_bd h hi; omega⟩

/-- what fits: powers of wants, each at most the greatest, and loads within the caps -/
theorem siteV_mono (S : SiteR) (C : List CapR) (W : List WantR) : FillOk W.length (siteV S C W) := ⟨fun u v huv hv => by
  refine fits_less hv (by simp [listV_len]) (fun y hy => ?_) (fun j h1 h2 => ?_)
  · obtain ⟨j, hj, rfl⟩ := List.mem_iff_getElem.1 hy
    rw [listV_get]
    exact (huv j (by simpa [listV_len] using hj)).1
  · rw [listV_get, listV_get]
    exact (huv j (by simpa [listV_len] using h1)).2⟩
theorem load_ok {S : SiteR} {C : List CapR} {W : List WantR} (h : AllocOk S C W) {v : Vec} (hv : ∀ i, i < W.length → 0 ≤ v i ∧ v i ≤ 1048576) : loadE S W (listV W.length v) = 0 := by
  refine loadE_ok h.site (by simp [listV_len]) ?_
  rw [List.all_eq_true]
  intro x hx
  obtain ⟨j, hj, rfl⟩ := List.mem_iff_getElem.1 hx
  have hj1 : j < W.length := by simp [listV_len] at hj; omega
  rw [List.getElem_zip, listV_get]
  exact wantB_iff.2 ((h.want hj1).1.right (hv j hj1).1 (hv j hj1).2)
theorem siteV_iff {S : SiteR} {C : List CapR} {W : List WantR} (h : AllocOk S C W) (v : Vec) : siteV S C W v = true ↔ (∀ i (hi : i < W.length), 0 ≤ v i ∧ v i ≤ greatW S.P W[i]) ∧ overL C (loadL S.F S.P (W.zip (listV W.length v))) = [] := by
  unfold siteV
  rw [fitsB_iff]
  constructor
  · intro ⟨a, b, c, d⟩
    rw [loadsOf_ok a] at c
    refine ⟨fun i hi => ?_, List.eq_nil_of_length_eq_zero c⟩
    have hw := (h.want hi).1
    have hm : (W[i], v i) ∈ W.zip (listV W.length v) := List.mem_iff_getElem.2 ⟨i, by simp [listV_len]; exact hi, by rw [List.getElem_zip, listV_get]⟩
    have hr := wantB_iff.1 (List.all_eq_true.1 (loadE_zero a).2.2 _ hm)
    have hh := List.any_eq_false.1 d _ hm
    unfold highB at hh
    simp only [List.getElem?_eq_getElem hw.p1, Bool.or_eq_true, decide_eq_true_eq] at hh
    have := hr.w0
    simp only at this
    unfold greatW
    rw [pntOf_eq hw.p1]
    omega
  · intro ⟨a, b⟩
    have hE := load_ok h (v := v) (fun i hi => by have := a i hi; have := great_bd h hi; omega)
    refine ⟨hE, h.len, by rw [loadsOf_ok hE, b]; rfl, ?_⟩
    rw [List.any_eq_false]
    intro x hx
    obtain ⟨j, hj, rfl⟩ := List.mem_iff_getElem.1 hx
    have hj1 : j < W.length := by simp [listV_len] at hj; omega
    rw [List.getElem_zip, listV_get]
    have hw := (h.want hj1).1
    have := a j hj1
    unfold greatW at this
    rw [pntOf_eq hw.p1] at this
    unfold highB
    simp only [List.getElem?_eq_getElem hw.p1, Bool.or_eq_true, decide_eq_true_eq]
    omega
theorem over_nil {S : SiteR} {C : List CapR} {W : List WantR} (h : C.length = S.F.length) (l : List (WantR × Int)) : overL C (loadL S.F S.P l) = [] ↔ ∀ i (hi : i < C.length), overB C[i] (capAt S.F S.P i l) = false := by
  unfold overL
  rw [List.filter_eq_nil_iff]
  constructor
  · intro g i hi
    have := g i (List.mem_range.2 (by rw [loadL_len]; omega))
    rw [List.getElem?_eq_getElem hi, loadL_get (by omega)] at this
    simpa using this
  · intro g i hi
    rw [List.mem_range, loadL_len] at hi
    rw [List.getElem?_eq_getElem (by omega), loadL_get (by omega)]
    simp only
    rw [g i (by omega)]
    decide
theorem capAt_zero (F : List Feed) (P : List Pnt) (f : Nat) : ∀ (W : List WantR) (Z : List Int), (∀ z ∈ Z, z = 0) → capAt F P f (W.zip Z) = zeroC
  | [], Z, _ => by simp [capAt]
  | x :: W, [], _ => rfl
  | x :: W, z :: Z, h => by
    rw [List.zip_cons_cons, capAt_cons, capAt_zero F P f W Z (fun y hy => h y (by simp [hy])), h z (by simp)]
    unfold ctr
    split
    · simp only [addC, zeroC, plusC]; simp
    · rfl
theorem siteV_zero {S : SiteR} {C : List CapR} {W : List WantR} (h : AllocOk S C W) : siteV S C W zeroV = true := by
  refine (siteV_iff h _).2 ⟨fun i hi => ?_, (over_nil (W := W) h.len _).2 fun i hi => ?_⟩
  · have := great_bd h hi
    show (0 : Int) ≤ 0 ∧ (0 : Int) ≤ _
    omega
  · rw [capAt_zero _ _ _ _ _ (fun z hz => by obtain ⟨j, hj, rfl⟩ := List.mem_iff_getElem.1 hz; rw [listV_get]; rfl)]
    have := List.all_eq_true.1 h.caps C[i] (List.getElem_mem hi)
    unfold capB limB at this
    simp only [Bool.and_eq_true, decide_eq_true_eq] at this
    unfold overB zeroC
    simp only [Bool.or_eq_false_iff, decide_eq_false_iff_not]
    omega

/-- the powers that Run comes to -/
def AllocTo (S : SiteR) (C : List CapR) (W : List WantR) (x : Vec) : Prop := RunsTo W.length (siteV S C W) (minV S.P W) (vecL (askL S.P W)) x

end Go.Proofs.YtlpjniejbblcnaaDoor

namespace Go.Proofs.YtlpjniejbblcnaaDoor
open Go.RowKit
set_option linter.unusedVariables false

/-- rows that lie below block N -/
def LowAt (N : Nat) (w : World) (size : Nat) (A : Option Addr) (rows : List (List Value)) : Prop :=
  ∀ k row, rows[k]? = some row → ∃ b off, A = some ⟨b, off, none⟩ ∧ b < N ∧ ∀ j u, row[j]? = some u → w.cell? ⟨b, off + k * size + j, none⟩ = some u
section
variable {N M size : Nat} {w w' : World} {A : Option Addr} {rows : List (List Value)}
theorem LowAt.of (h : SlAt w size A rows) : LowAt w.heap.size w size A rows := h
theorem LowAt.mono (h : LowAt N w size A rows) (hN : N ≤ M) : LowAt M w size A rows := fun k row hk => by
  obtain ⟨b, off, e, hlt, hc⟩ := h k row hk
  exact ⟨b, off, e, by omega, hc⟩
theorem LowAt.below (h : LowAt N w size A rows) (hb : Below N w w') : LowAt N w' size A rows := fun k row hk => by
  obtain ⟨b, off, e, hlt, hc⟩ := h k row hk
  exact ⟨b, off, e, hlt, fun j u hu => (hb.cell (p := ⟨b, off + k * size + j, none⟩) hlt).trans (hc j u hu)⟩
theorem LowAt.slAt (h : LowAt N w size A rows) (hN : N ≤ w.heap.size) : SlAt w size A rows := h.mono hN
theorem int_low {l : List Int} (h : LowAt N w 1 A (l.map encZ)) {k : Nat} (hk : k < l.length) : ∃ b off, A = some ⟨b, off, none⟩ ∧ b < N ∧ w.cell? ⟨b, off + k, none⟩ = some (.int .i64 l[k]) := by
  obtain ⟨b, off, e, hb, hc⟩ := h k (encZ l[k]) (by rw [List.getElem?_map, List.getElem?_eq_getElem hk]; rfl)
  refine ⟨b, off, e, hb, ?_⟩
  have := hc 0 _ rfl
  simpa using this
end

/-- the cells of n values -/
def rowV {α : Type} (enc : α → Value) (n : Nat) (f : Nat → α) : List Value := (List.range n).map fun i => enc (f i)
section
variable {α : Type} {enc : α → Value} {n : Nat} {f g : Nat → α}
theorem rowV_len : (rowV enc n f).length = n := by simp [rowV]
theorem rowV_at {k : Nat} (h : k < n) : (rowV enc n f)[k]? = some (enc (f k)) := by simp [rowV, h]
theorem rowV_set {k : Nat} (h : k < n) (v : α) : (rowV enc n f).set k (enc v) = rowV enc n (updF f k v) := by
  apply List.ext_getElem
  · simp [rowV]
  · intro j h1 h2
    have hj : j < n := by simpa [rowV] using h2
    rw [List.getElem_set]
    simp only [rowV, List.getElem_map, List.getElem_range]
    unfold updF
    by_cases q : k = j
    · subst q; simp
    · rw [if_neg q, if_neg (Ne.symm q)]
theorem rowV_congr (h : ∀ i, i < n → f i = g i) : rowV enc n f = rowV enc n g := by
  unfold rowV
  exact List.map_congr_left fun i hi => by rw [h i (List.mem_range.1 hi)]
end
theorem rowV_flat (n : Nat) (x : Vec) : rowV (Value.int .i64) n x = (listV n x).flatMap encZ := by
  unfold rowV listV
  rw [List.flatMap_map]
  induction (List.range n) with
  | nil => rfl
  | cons i l ih => rw [List.map_cons, List.flatMap_cons, ih]; rfl

/-- a filling in memory -/
structure DivSt (w : World) (N n : Nat) (A : Option Addr) (cc : Nat) (fv : Value) (vb xb ab tb : Nat) (c x : Vec) (a : Act) (t : Vec) : Prop where
  c : LowAt N w 1 A ((listV n c).map encZ)
  v : Blk w vb 100 [.slice A n cc, .func (.func 24) #[fv] #[], .slice (some ⟨xb, 0, none⟩) n n, .slice (some ⟨ab, 0, none⟩) n n, .slice (some ⟨tb, 0, none⟩) n n]
  x : Blk w xb 3 (rowV (Value.int .i64) n x)
  a : Blk w ab 4 (rowV Value.bool n a)
  t : Blk w tb 3 (rowV (Value.int .i64) n t)
/-- its blocks -/
structure DivB (N n vb xb ab tb : Nat) : Prop where
  v : N ≤ vb
  x : N ≤ xb
  a : N ≤ ab
  t : N ≤ tb
  vx : vb ≠ xb
  va : vb ≠ ab
  vt : vb ≠ tb
  xa : xb ≠ ab
  xt : xb ≠ tb
  at' : ab ≠ tb
  n : n ≤ 64
section
variable {w w' : World} {N n : Nat} {A : Option Addr} {cc : Nat} {fv : Value} {vb xb ab tb : Nat} {c x : Vec} {a : Act} {t : Vec}
theorem DivSt.below (h : DivSt w N n A cc fv vb xb ab tb c x a t) (hb : Below w.heap.size w w') (hN : N ≤ w.heap.size) : DivSt w' N n A cc fv vb xb ab tb c x a t :=
  ⟨h.c.below (hb.mono hN), h.v.below hb h.v.lt, h.x.below hb h.x.lt, h.a.below hb h.a.lt, h.t.below hb h.t.lt⟩
theorem DivSt.vs (h : DivSt w N n A cc fv vb xb ab tb c x a t) : w.cell? ⟨vb, 0, none⟩ = some (.slice A n cc) ∧ w.cell? ⟨vb, 1, none⟩ = some (.func (.func 24) #[fv] #[]) ∧ w.cell? ⟨vb, 2, none⟩ = some (.slice (some ⟨xb, 0, none⟩) n n) ∧ w.cell? ⟨vb, 3, none⟩ = some (.slice (some ⟨ab, 0, none⟩) n n) ∧ w.cell? ⟨vb, 4, none⟩ = some (.slice (some ⟨tb, 0, none⟩) n n) :=
  ⟨(h.v.cell 0).trans rfl, (h.v.cell 1).trans rfl, (h.v.cell 2).trans rfl, (h.v.cell 3).trans rfl, (h.v.cell 4).trans rfl⟩
theorem DivSt.xc (h : DivSt w N n A cc fv vb xb ab tb c x a t) {k : Nat} (hk : k < n) : w.cell? ⟨xb, k, none⟩ = some (.int .i64 (x k)) := (h.x.cell k).trans (rowV_at hk)
theorem DivSt.ac (h : DivSt w N n A cc fv vb xb ab tb c x a t) {k : Nat} (hk : k < n) : w.cell? ⟨ab, k, none⟩ = some (.bool (a k)) := (h.a.cell k).trans (rowV_at hk)
theorem DivSt.tc (h : DivSt w N n A cc fv vb xb ab tb c x a t) {k : Nat} (hk : k < n) : w.cell? ⟨tb, k, none⟩ = some (.int .i64 (t k)) := (h.t.cell k).trans (rowV_at hk)
theorem DivSt.capc (h : DivSt w N n A cc fv vb xb ab tb c x a t) {k : Nat} (hk : k < n) : ∃ b off, A = some ⟨b, off, none⟩ ∧ b < N ∧ w.cell? ⟨b, off + k, none⟩ = some (.int .i64 (c k)) := by
  obtain ⟨b, off, e, hb, hc⟩ := int_low h.c (k := k) (by rw [listV_len]; exact hk)
  rw [listV_get] at hc
  exact ⟨b, off, e, hb, hc⟩
theorem DivSt.low (h : DivSt w N n A cc fv vb xb ab tb c x a t) (hB : DivB N n vb xb ab tb) : N ≤ w.heap.size := Nat.le_trans hB.v (Nat.le_of_lt h.v.lt)
/-- a store into the trial, the numbers, the active ones -/
theorem DivSt.setT (h : DivSt w N n A cc fv vb xb ab tb c x a t) (hB : DivB N n vb xb ab tb) {k : Nat} (hk : k < n) (u : Int) : DivSt (w.setCell ⟨tb, k, none⟩ (.int .i64 u)) N n A cc fv vb xb ab tb c x a (updF t k u) := by
  refine ⟨h.c.below ((Below.refl _ _).setCell hB.t _), h.v.other hB.vt _, h.x.other hB.xt _, h.a.other hB.at' _, ?_⟩
  have := h.t.set k (.int .i64 u)
  rw [rowV_set hk] at this
  exact this
theorem DivSt.setX (h : DivSt w N n A cc fv vb xb ab tb c x a t) (hB : DivB N n vb xb ab tb) {k : Nat} (hk : k < n) (u : Int) : DivSt (w.setCell ⟨xb, k, none⟩ (.int .i64 u)) N n A cc fv vb xb ab tb c (updF x k u) a t := by
  refine ⟨h.c.below ((Below.refl _ _).setCell hB.x _), h.v.other hB.vx _, ?_, h.a.other hB.xa.symm _, h.t.other hB.xt.symm _⟩
  have := h.x.set k (.int .i64 u)
  rw [rowV_set hk] at this
  exact this
theorem DivSt.setA (h : DivSt w N n A cc fv vb xb ab tb c x a t) (hB : DivB N n vb xb ab tb) {k : Nat} (hk : k < n) (u : Bool) : DivSt (w.setCell ⟨ab, k, none⟩ (.bool u)) N n A cc fv vb xb ab tb c x (updF a k u) t := by
  refine ⟨h.c.below ((Below.refl _ _).setCell hB.a _), h.v.other hB.va _, h.x.other hB.xa _, ?_, h.t.other hB.at'.symm _⟩
  have := h.a.set k (.bool u)
  rw [rowV_set hk] at this
  exact this
theorem DivSt.congrT (h : DivSt w N n A cc fv vb xb ab tb c x a t) {t' : Vec} (e : ∀ i, i < n → t i = t' i) : DivSt w N n A cc fv vb xb ab tb c x a t' := ⟨h.c, h.v, h.x, h.a, by rw [← rowV_congr e]; exact h.t⟩
theorem DivSt.congrX (h : DivSt w N n A cc fv vb xb ab tb c x a t) {x' : Vec} (e : ∀ i, i < n → x i = x' i) : DivSt w N n A cc fv vb xb ab tb c x' a t := ⟨h.c, h.v, by rw [← rowV_congr e]; exact h.x, h.a, h.t⟩
/-- the trial, the numbers as slices -/
theorem blk_sl {g : Nat} (h : Blk w g 3 (rowV (Value.int .i64) n t)) (hn : n ≤ 64) : IsSl w 1 (.slice (some ⟨g, 0, none⟩) n n) ((listV n t).map encZ) := by
  rw [rowV_flat] at h
  exact h.isSl (enc := encZ) (fun _ => rfl) (listV_len n t) (by unfold maxLen; omega)
end
/-- the function value answers what F says of a vector, and only makes memory -/
def FitsC (N : Nat) (w0 : World) (dv : Value) (n : Nat) (F : Vec → Bool) : Prop :=
  ∀ w', Below N w0 w' → ∀ (pv : Value) (t : Vec), IsSl w' 1 pv ((listV n t).map encZ) → Calls Tryd.prog 24 #[dv, pv] w' fun e w'' => e = .returned (.bool (F t)) ∧ Below w'.heap.size w' w''
theorem FitsC.below {N : Nat} {w w' : World} {dv : Value} {n : Nat} {F : Vec → Bool} (h : FitsC N w dv n F) (hb : Below N w w') : FitsC N w' dv n F := fun w2 h2 => h w2 (hb.trans h2)

end Go.Proofs.YtlpjniejbblcnaaDoor

namespace Go.Proofs.YtlpjniejbblcnaaDoor
open Go.RowKit

theorem wp_still_tail {P : Program} {id : Nat} {Q : Exit → Go.Act → World → Prop} {a : Go.Act} {w : World} {l : List Oper} (n : Nat) (hm : P.follows .mixedOrders = true) (hB : Region.lexTailB .any l.toArray n = true)
    (h : wpStill P l.toArray w.drew (fun a' => wpList P l.toArray Q (l.drop n) a' w.drew) (l.take n) a) : (Code.region id l.toArray true).wp P Q a w := wp_region_still_tail n hm hB h

end Go.Proofs.YtlpjniejbblcnaaDoor

namespace Go.Proofs.YtlpjniejbblcnaaDoor
open Go.RowKit Go.Lib Go.Maps
set_option linter.unusedVariables false

theorem minV2 {n x m : Int} (h : m = min n x) : Value.int .i64 (if x < n then x else n) = .int .i64 m := by rw [h, show (if x < n then x else n) = min n x by omega]
set_option maxRecDepth 100000 in
theorem fleast_any (m : Int) (l : List Int) (v : Value) (w : World) (hL : IsSl w 1 v (l.map encZ)) : Calls Tryd.prog 28 #[.int .i64 m, v] w fun e w' => e = .returned (.int .i64 (l.foldl min m)) ∧ w = w' := by
  obtain ⟨A, c, rfl, hlc, hcm, hsl⟩ := hL
  rw [List.length_map] at hlc
  unfold maxLen at hcm
  simp only [List.length_map]
  go_enter Tryd.func28, Tryd.ntmps28
  go_wp2_with fail
  go_loopw [0, 9] (fun n i wr => ∃ k : Nat, k ≤ l.length ∧ n = .int .i64 ((l.take k).foldl min m) ∧ i = .int .i64 k ∧ wr = w) (fun _ i _ => l.length - (intOf i).toNat)
  case atStart => exact ⟨0, by omega, rfl, rfl, rfl⟩
  case round =>
    obtain ⟨k, hk, rfl, rfl, rfl⟩ := hrel
    by_cases hlt : k < l.length
    · have hki : (k : Int) < (l.length : Int) := by omega
      obtain ⟨b, off, rfl, hb, c0⟩ := int_at hsl hlt
      have H : Hid ((l.take (k + 1)).foldl min m = min ((l.take k).foldl min m) l[k]) := by unfold Hid; rw [List.take_succ_eq_append_getElem hlt, List.foldl_append]; rfl
      generalize l[k] = x at *
      generalize (l.take k).foldl min m = n at *
      go_wp2_with fail
      all_goals
        go_roundw
        case measure => simp [intOf]; omega
        case rel => exact ⟨k + 1, by omega, by first | exact minV2 H.out | (rw [H.out]; exact congrArg _ (by omega)), by go_num, trivial⟩
    · have hki : ¬ (k : Int) < (l.length : Int) := by omega
      have H : Hid ((l.take k).foldl min m = l.foldl min m) := by unfold Hid; rw [List.take_of_length_le (by omega)]
      go_wp2_with fail
      go_ret
      exact ⟨ret_int H.out, rfl⟩
theorem fleast_one (m x : Int) (w : World) (T : TypeId) : Calls Tryd.prog 28 #[.int .i64 m, .slice (some ⟨w.heap.size, 0, none⟩) 1 1] (w.alloc (.cells #[.int .i64 x] T)) fun e w' => e = .returned (.int .i64 (min m x)) ∧ w.alloc (.cells #[.int .i64 x] T) = w' :=
  fleast_any m [x] _ _ ⟨some ⟨w.heap.size, 0, none⟩, 1, rfl, by simp, by unfold maxLen; omega, fun k row hk => by
    cases k with
    | zero =>
      simp at hk; subst hk
      refine ⟨w.heap.size, 0, rfl, by simp, fun j u hu => ?_⟩
      cases j with
      | zero => simp [encZ] at hu; subst hu; exact World.cell?_alloc_mark w #[.int .i64 x] T (0, 0) 0
      | succ j => simp [encZ] at hu
    | succ k => simp at hk⟩

set_option maxRecDepth 100000 in
theorem fcheck_ok (l : List Int) (v : Value) (w : World) (hL : IsSl w 1 v (l.map encZ)) (hn : l.length ≤ 64) (hl : ∀ x ∈ l, 0 ≤ x ∧ x ≤ 1099511627776) : Calls Tryd.prog 25 #[v] w fun e w' => e = .returned (.int .i64 0) ∧ w = w' := by
  obtain ⟨A, c, rfl, hlc, hcm, hsl⟩ := hL
  rw [List.length_map] at hlc
  unfold maxLen at hcm
  simp only [List.length_map]
  have HL := Lib.hid hl
  clear hl
  have hn1 : ¬ (64 : Int) < (l.length : Int) := by omega
  go_enter Tryd.func25, Tryd.ntmps25
  go_wp2_with fail
  go_loopw [10] (fun i wr => ∃ k : Nat, k ≤ l.length ∧ i = .int .i64 k ∧ wr = w) (fun i _ => l.length - (intOf i).toNat)
  case atStart => exact ⟨0, by omega, rfl, rfl⟩
  case round =>
    obtain ⟨k, hk, rfl, rfl⟩ := hrel
    by_cases hlt : k < l.length
    · have hki : (k : Int) < (l.length : Int) := by omega
      obtain ⟨b, off, rfl, hb, c0⟩ := int_at hsl hlt
      obtain ⟨h0, h1⟩ := HL.out l[k] (List.getElem_mem hlt)
      generalize l[k] = x at *
      have h2 : ¬ x < 0 := by omega
      have h3 : ¬ (1099511627776 : Int) < x := by omega
      go_wp2_with fail
      go_roundw
      case measure => simp [intOf]; omega
      case rel => exact ⟨k + 1, by omega, by go_num, trivial⟩
    · have hki : ¬ (k : Int) < (l.length : Int) := by omega
      go_wp2_with fail
      go_ret
      exact ⟨rfl, rfl⟩

theorem oldA {w : World} {b : Nat} (h : b < w.heap.size) (o : Obj) (j : Nat) : (w.alloc o).cell? ⟨b, j, none⟩ = w.cell? ⟨b, j, none⟩ := World.cell?_of_block (a := ⟨b, j, none⟩) (Below.heap_alloc _ _ _ h)
theorem oldF {w : World} {b : Nat} (h : b < w.heap.size) (o : Obj) (j : Nat) : (w.alloc o).frozen? ⟨b, j, none⟩ = w.frozen? ⟨b, j, none⟩ := (below_alloc (Below.refl _ _) o).frozen (p := ⟨b, j, none⟩) h
theorem lev_at {x c : Vec} {a : Act} {d : Int} {k : Nat} (t : Vec) (v : Int) (h : v = levF x c a d k) (i : Nat) : updF (fun i => if i < k then levF x c a d i else t i) k v i = (fun i => if i < k + 1 then levF x c a d i else t i) i := by
  unfold updF
  by_cases q : i = k
  · subst q; rw [if_pos rfl, h]; simp
  · rw [if_neg q]
    by_cases q2 : i < k
    · simp only [if_pos q2, if_pos (show i < k + 1 by omega)]
    · simp only [if_neg q2, if_neg (show ¬ i < k + 1 by omega)]

set_option maxRecDepth 100000 in
set_option maxHeartbeats 6400000 in
theorem raise_any {w : World} {N n : Nat} {A : Option Addr} {cc : Nat} {fv : Value} {vb xb ab tb : Nat} {c x : Vec} {a : Act} {t : Vec} (hD : DivSt w N n A cc fv vb xb ab tb c x a t) (hB : DivB N n vb xb ab tb) (d : Int)
    (hx : ∀ i, i < n → 0 ≤ x i ∧ x i ≤ 1099511627776) (hd : 0 ≤ d ∧ d ≤ 1099511627776) :
    Calls Tryd.prog 60 #[.pointer (some ⟨vb, 0, none⟩), .int .i64 d] w fun e w' => e = .returned (.tuple #[]) ∧ Below N w w' ∧ DivSt w' N n A cc fv vb xb ab tb c x a (levF x c a d) := by
  obtain ⟨v0, v1, v2, v3, v4⟩ := hD.vs
  have hn := hB.n
  have HD := Lib.hid hD
  have HB := Lib.hid hB
  have HX := Lib.hid hx
  clear hD hB hx
  go_enter Tryd.func60, Tryd.ntmps60
  go_wp2_with fail
  clear v0 v1 v2 v3 v4
  go_loopw [11] (fun i wr => ∃ k : Nat, k ≤ n ∧ i = .int .i64 k ∧ Below N w wr ∧ Hid (DivSt wr N n A cc fv vb xb ab tb c x a (fun i => if i < k then levF x c a d i else t i))) (fun i _ => n - (intOf i).toNat)
  case atStart => exact ⟨0, by omega, rfl, Below.refl _ _, HD.out.congrT (fun i _ => by simp)⟩
  case round =>
    obtain ⟨k, hk, rfl, hbw, HE⟩ := hrel
    clear HD
    by_cases hlt : k < n
    · have hki : (k : Int) < (n : Int) := by omega
      obtain ⟨v0, v1, v2, v3, v4⟩ := HE.out.vs
      have x0 := HE.out.xc hlt
      have a0 := HE.out.ac hlt
      have t0 := HE.out.tc hlt
      obtain ⟨b, off, rfl, hb, c0⟩ := HE.out.capc hlt
      obtain ⟨hx0, hx1⟩ := HX.out k hlt
      have hvb := HE.out.v.lt
      have htb := HE.out.t.lt
      have hNw := HE.out.low HB.out
      have f0 := HE.out.t.free k
      have y1 := oldA (w := wr) (b := vb) hvb
      have y2 := oldA (w := wr) (b := tb) htb
      have y3 := oldF (w := wr) (b := tb) htb
      have q1 : IntKind.i64.wrap (x k + d) = x k + d := IntWalk.i64_in _ (by omega)
      cases ha : a k with
      | true =>
        rw [ha] at a0
        have HL : Hid (min (x k + d) (c k) = levF x c a d k) := by unfold Hid levF; rw [if_pos ha]
        go_wp2_with (go_at_call 28; refine (fleast_one _ _ _ _).mono ?_; rintro e w' ⟨rfl, rfl⟩)
        go_roundw
        case measure => simp [intOf]; omega
        case rel => exact ⟨k + 1, by omega, by go_num, (hbw.setCell (p := ⟨tb, k, none⟩) HB.out.t _).alloc (by simpa [World.setCell] using hNw) _, ((HE.out.setT HB.out hlt _).below (below_alloc (Below.refl _ _) _) (by simpa [World.setCell] using hNw)).congrT (fun i _ => lev_at t _ HL.out i)⟩
      | false =>
        rw [ha] at a0
        have HL : Hid (x k = levF x c a d k) := by unfold Hid levF; rw [if_neg (by rw [ha]; decide)]
        go_wp2_with fail
        go_roundw
        case measure => simp [intOf]; omega
        case rel => exact ⟨k + 1, by omega, by go_num, hbw.setCell HB.out.t _, (HE.out.setT HB.out hlt _).congrT (fun i _ => lev_at t _ HL.out i)⟩
    · have hki : ¬ (k : Int) < (n : Int) := by omega
      go_wp2_with fail
      first | go_end0 | refine bodyPost_ret (results_none rfl _ _ _) rfl ?_
      exact ⟨rfl, hbw, HE.out.congrT (fun i hi => by simp only [if_pos (show i < k by omega)])⟩

set_option maxRecDepth 100000 in
set_option maxHeartbeats 6400000 in
theorem raisable_any {w : World} {N n : Nat} {A : Option Addr} {cc : Nat} {fv : Value} {vb xb ab tb : Nat} {c x : Vec} {a : Act} {t : Vec} {F : Vec → Bool} (hD : DivSt w N n A cc fv vb xb ab tb c x a t) (hB : DivB N n vb xb ab tb) (hF : FitsC N w fv n F) (d : Int)
    (hx : ∀ i, i < n → 0 ≤ x i ∧ x i ≤ 1099511627776) (hd : 0 ≤ d ∧ d ≤ 1099511627776) :
    Calls Tryd.prog 59 #[.pointer (some ⟨vb, 0, none⟩), .int .i64 d] w fun e w' => e = .returned (.bool (F (levF x c a d))) ∧ Below N w w' ∧ DivSt w' N n A cc fv vb xb ab tb c x a (levF x c a d) := by
  have hn := hB.n
  have HB := Lib.hid hB
  have HF := Lib.hid hF
  have HR := Lib.hid (raise_any hD hB d hx hd)
  clear hD hB hx hF
  go_enter Tryd.func59, Tryd.ntmps59
  go_wp2_with (go_at_call 60; refine HR.out.mono ?_; rintro e w1 ⟨rfl, hb1, hD1⟩)
  obtain ⟨v0, v1, v2, v3, v4⟩ := hD1.vs
  have HK := Lib.hid (HF.out w1.drew hb1.drew _ (levF x c a d) (blk_sl hD1.t.drew hn))
  clear HR
  (refine wp_still_tail 8 (by kernel_rfl) (by kernel_rfl) ?_; simp only [List.take_succ_cons, List.take_zero, List.drop_succ_cons, List.drop_zero]; (repeat still_step); (try refine wpStill_nil ?_))
  go_wp2_with (go_at_call 24; refine HK.out.mono ?_; rintro e w2 ⟨rfl, hb2⟩)
  go_ret
  have hlow := hD1.low HB.out
  exact ⟨rfl, hb1.drew.trans (hb2.mono hlow), (hD1.below (below_drew (Below.refl _ _)) hlow).below hb2 hlow⟩

end Go.Proofs.YtlpjniejbblcnaaDoor
