/-
  Plain functions on lists of calls: what the laws of package reserve play. No program is named here.
-/
import Derived.Test.YtpokacnbdojncaaDoorWReserve9
namespace Go.Proofs.YtpokacnbdojncaaDoor
set_option linter.unusedVariables false

structure OpR where
  kind : Int
  r : Resv
  now : Int

def OpR.cells (o : OpR) : List Value := [.int .i64 o.kind, .int .i64 o.r.id, .int .i64 o.r.conn, .string o.r.token, .string o.r.group, .int .i64 o.r.expiry, .int .i64 o.now]
theorem OpR.cells_len (o : OpR) : o.cells.length = 7 := rfl

def stepL (l : List Resv) (o : OpR) : List Resv :=
  if o.kind = 1 then putL l o.r o.now else if o.kind = 2 then restL l o.r.id else if o.kind = 3 then heldL l o.now else l
def playL (l : List OpR) : List Resv := l.foldl stepL []

theorem play_take {l : List OpR} {k : Nat} (h : k < l.length) : playL (l.take (k + 1)) = stepL (playL (l.take k)) l[k] := by
  unfold playL
  rw [List.take_succ_eq_append_getElem h, List.foldl_append]; rfl
theorem play_full {l : List OpR} {k : Nat} (h : ¬ k < l.length) : playL (l.take k) = playL l := by
  rw [List.take_of_length_le (by omega)]

/-- what every list of the play keeps -/
structure Good (l : List Resv) : Prop where
  ok : ∀ r ∈ l, r.ok
  ids : (l.map (·.id)).Nodup
  conns : (l.map (·.conn)).Nodup

theorem Good.nil : Good [] := ⟨by simp, by simp, by simp⟩
theorem Good.filter {l : List Resv} (h : Good l) (p : Resv → Bool) : Good (l.filter p) :=
  ⟨fun r hr => h.ok r (List.mem_filter.1 hr).1, (List.Sublist.map _ List.filter_sublist).nodup h.ids, (List.Sublist.map _ List.filter_sublist).nodup h.conns⟩

theorem nodup_set {l : List Int} (h : l.Nodup) {i : Nat} (a : Int) (hn : ∀ j (hj : j < l.length), j ≠ i → l[j] ≠ a) : (l.set i a).Nodup := by
  unfold List.Nodup at *
  rw [List.pairwise_iff_getElem] at *
  intro p q hp hq hpq
  rw [List.length_set] at hp hq
  rw [List.getElem_set, List.getElem_set]
  by_cases e : i = p
  · rw [if_pos e, if_neg (by omega)]
    exact (hn q hq (by omega)).symm
  · rw [if_neg e]
    by_cases e2 : i = q
    · rw [if_pos e2]; exact hn p hp (by omega)
    · rw [if_neg e2]; exact h p q hp hq hpq

theorem putE_zero {l : List Resv} {r : Resv} {now : Int} (h : ¬ putE l r now ≠ 0) : busyB l r = false := by
  unfold putE at h
  (repeat' split at h) <;> simp_all

theorem Good.put {l : List Resv} (h : Good l) {r : Resv} (hr : r.ok) (now : Int) : Good (putL l r now) := by
  unfold putL
  split
  · exact h
  rename_i he
  have hb := putE_zero he
  have hbu : ∀ x ∈ l, x.id ≠ r.id → x.conn ≠ r.conn := by
    intro x hx hid hc
    unfold busyB at hb
    rw [List.any_eq_false] at hb
    have := hb x hx
    apply this
    simp [busyX, hid, hc]
  split
  · rename_i hn
    unfold placeO at hn
    rw [List.findIdx?_eq_none_iff] at hn
    have hn' : ∀ x ∈ l, x.id ≠ r.id := fun x hx => by have := hn x hx; simpa using this
    refine ⟨?_, ?_, ?_⟩
    · intro x hx
      rcases List.mem_append.1 hx with hx | hx
      · exact h.ok x hx
      · obtain rfl : x = r := by simpa using hx
        exact hr
    · rw [List.map_append, List.nodup_append]
      refine ⟨h.ids, by simp, ?_⟩
      intro a ha b hb'
      obtain ⟨x, hx, rfl⟩ := List.mem_map.1 ha
      obtain rfl : b = r.id := by simpa using hb'
      exact hn' x hx
    · rw [List.map_append, List.nodup_append]
      refine ⟨h.conns, by simp, ?_⟩
      intro a ha b hb'
      obtain ⟨x, hx, rfl⟩ := List.mem_map.1 ha
      obtain rfl : b = r.conn := by simpa using hb'
      exact hbu x hx (hn' x hx)
  · rename_i i hi
    unfold placeO at hi
    rw [List.findIdx?_eq_some_iff_getElem] at hi
    obtain ⟨hil, hid, _⟩ := hi
    have hid' : l[i].id = r.id := by simpa using hid
    have hne : ∀ j (hj : j < l.length), j ≠ i → l[j].id ≠ r.id := by
      intro j hj hji e
      have hh := h.ids
      unfold List.Nodup at hh
      rw [List.pairwise_iff_getElem] at hh
      rcases Nat.lt_or_ge j i with hlt | hge
      · have := hh j i (by simpa using hj) (by simpa using hil) hlt
        simp only [List.getElem_map] at this
        exact this (by rw [e, hid'])
      · have := hh i j (by simpa using hil) (by simpa using hj) (by omega)
        simp only [List.getElem_map] at this
        exact this (by rw [e, hid'])
    refine ⟨?_, ?_, ?_⟩
    · intro x hx
      rcases List.mem_or_eq_of_mem_set hx with hx | rfl
      · exact h.ok x hx
      · exact hr
    · rw [List.map_set]
      exact nodup_set h.ids _ (fun j hj hji => by simpa using hne j (by simpa using hj) hji)
    · rw [List.map_set]
      exact nodup_set h.conns _ (fun j hj hji => by
        have hj' : j < l.length := by simpa using hj
        simpa using hbu l[j] (List.getElem_mem hj') (hne j hj' hji))

theorem Good.step {l : List Resv} (h : Good l) {o : OpR} (ho : o.r.ok) : Good (stepL l o) := by
  unfold stepL restL heldL
  (repeat' split)
  · exact h.put ho _
  · exact h.filter _
  · exact h.filter _
  · exact h

theorem Good.play {l : List OpR} (ho : ∀ o ∈ l, o.r.ok) : Good (playL l) := by
  have h : ∀ (l : List OpR) (a : List Resv), Good a → (∀ o ∈ l, o.r.ok) → Good (l.foldl stepL a) := by
    intro l
    induction l with
    | nil => intro a ha _; exact ha
    | cons o l ih => intro a ha hl; rw [List.foldl_cons]; exact ih _ (ha.step (hl o (by simp))) (fun o' ho' => hl o' (by simp [ho']))
  exact h l [] Good.nil ho

theorem putL_len (l : List Resv) (r : Resv) (now : Int) : (putL l r now).length ≤ l.length + 1 := by
  unfold putL
  (repeat' split) <;> simp
theorem stepL_len (l : List Resv) (o : OpR) : (stepL l o).length ≤ l.length + 1 := by
  unfold stepL restL heldL
  (repeat' split)
  · exact putL_len _ _ _
  · exact Nat.le_trans (List.length_filter_le _ _) (Nat.le_succ _)
  · exact Nat.le_trans (List.length_filter_le _ _) (Nat.le_succ _)
  · exact Nat.le_succ _
theorem play_len (l : List OpR) : (playL l).length ≤ l.length := by
  have h : ∀ (l : List OpR) (a : List Resv), (l.foldl stepL a).length ≤ a.length + l.length := by
    intro l
    induction l with
    | nil => intro a; simp
    | cons o l ih => intro a; rw [List.foldl_cons]; have := ih (stepL a o); have := stepL_len a o; simp only [List.length_cons]; omega
  have := h l []
  simpa [playL] using this

end Go.Proofs.YtpokacnbdojncaaDoor
