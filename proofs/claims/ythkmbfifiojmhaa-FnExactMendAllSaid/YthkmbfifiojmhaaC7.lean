/- The reference's seats. -/
import Derived.Test.YthkmbfifiojmhaaC6
set_option linter.unusedSimpArgs false
set_option linter.unusedVariables false
set_option maxRecDepth 100000
namespace Go.Proofs.Ythkmbfifiojmhaa
open Go.Abs
variable {w0 : World} {H : Heap}
/-- Are the people of two neighbours strangers? -/
def strAt (f : Nat → Nat → Bool) (l : List Int) (i : Nat) : Bool := !f (l.getD i 0).toNat (l.getD ((i + 1) % l.length) 0).toNat
def strTo (f : Nat → Nat → Bool) (l : List Int) (i : Nat) : Nat := ((List.range i).filter (strAt f l)).length
def strangeL (f : Nat → Nat → Bool) (l : List Int) : Nat := strTo f l l.length
theorem strTo_step (f : Nat → Nat → Bool) (l : List Int) (i : Nat) : strTo f l (i + 1) = strTo f l i + if strAt f l i then 1 else 0 := by
  unfold strTo
  rw [List.range_succ, List.filter_append, List.length_append]
  cases h : strAt f l i <;> simp [h]
theorem strTo_le (f : Nat → Nat → Bool) (l : List Int) (i : Nat) : strTo f l i ≤ i := by
  unfold strTo
  have := List.length_filter_le (strAt f l) (List.range i)
  simpa using this
def turnTo (l : List Int) (i j k : Nat) : List Int := (List.range l.length).map fun t => if i ≤ t ∧ t < k then l.getD (i + j - t) 0 else l.getD t 0
def turnL (l : List Int) (i j : Nat) : List Int := turnTo l i j (j + 1)
theorem turnTo_length (l : List Int) (i j k : Nat) : (turnTo l i j k).length = l.length := by simp [turnTo]
theorem turnTo_zero (l : List Int) (i j : Nat) : turnTo l i j i = l := by
  unfold turnTo
  apply List.ext_getElem (by simp)
  intro t h1 h2
  simp only [List.getElem_map, List.getElem_range]
  rw [if_neg (by omega)]
  simp [List.getD, h2]
theorem turnTo_step (l : List Int) (i j k : Nat) (hk : k < l.length) (hi : i ≤ k) : (turnTo l i j k).set k (l.getD (i + j - k) 0) = turnTo l i j (k + 1) := by
  unfold turnTo
  apply List.ext_getElem (by simp)
  intro t h1 h2
  simp only [List.getElem_set, List.getElem_map, List.getElem_range]
  by_cases e : k = t
  · subst e; rw [if_pos rfl, if_pos ⟨hi, by omega⟩]
  · rw [if_neg e]
    by_cases c : i ≤ t ∧ t < k
    · rw [if_pos c, if_pos ⟨c.1, by omega⟩]
    · rw [if_neg c, if_neg (by omega)]
theorem taStrange_ok (va vb : AV) (n : Nat) (f : Nat → Nat → Bool) (a : List Int) (hl : a.length < 2 ^ 31) (hr : ∀ x ∈ a, 0 ≤ x ∧ x ≤ (n : Int) - 1) (ha : BoolTab H va n f) (hb : RowV H vb a.length 1 (ints a)) :
    ACall Try.prog w0 63 [va, vb] H fun v H' => H' = H ∧ v = .int .i64 (strangeL f a) := by
  obtain ⟨ba, oa, ca, rows, rfl, ha, hrl, hrows⟩ := ha
  obtain ⟨bb, ob, cb, rfl, hb⟩ := hb
  refine ACall.enterW mix Try.func63 (by kernel_rfl) fun hw => ?_
  simp (disch := first | omega | (simp only [n_alloc, n_put, n_kill]; omega) | (simp; done) | fail) [Try.f63]
  refine run_for a.length (fun i E H' => H' = H ∧ E 0 = .slice ba oa n 1 ca ∧ E 1 = .slice bb ob a.length 1 cb ∧ E 8 = .slice bb ob a.length 1 cb ∧ E 9 = .int .i64 a.length ∧ E 10 = .int .i64 i ∧ E 5 = .int .i64 (strTo f a i)) 0 (Nat.zero_le _) ?_ ?_
  · simp (disch := first | omega | (simp only [n_alloc, n_put, n_kill]; omega) | (simp; done) | fail)
    simp [strTo]
  · rintro i E H' hw' hi ⟨rfl, h0, h1, h8, h9, h10, h5⟩
    simp (disch := first | omega | (simp only [n_alloc, n_put, n_kill]; omega) | (simp; done) | fail) [h0, h1, h8, h9, h10, h5]
    refine cP (fun h => ?_) fun h => ?_
    · obtain ⟨m, hme, em⟩ : ∃ m : Nat, (i + 1) % a.length = m ∧ ((i : Int) + 1).tmod a.length = (m : Int) := ⟨_, rfl, by
        rw [Int.tmod_eq_emod_of_nonneg (by omega), Int.natCast_emod]; simp⟩
      have hm : m < a.length := by rw [← hme]; exact Nat.mod_lt _ (by omega)
      have hx := hr a[i] (List.getElem_mem h)
      have hy := hr a[m] (List.getElem_mem hm)
      have hs : strAt f a i = !f a[i].toNat a[m].toNat := by simp [strAt, hme, List.getD, h, hm]
      have hle := strTo_le f a i
      have hxr : a[i].toNat < rows.length := by omega
      obtain ⟨b', o', c', e', hrow⟩ := hrows a[i].toNat hxr
      simp (disch := first | omega | (simp only [n_alloc, n_put, n_kill]; omega) | (simp; done) | fail) [h0, h1, h8, h9, h10, h5, h, hb.int]
      refine run_any plan63_5 (by kernel_rfl) ?_
      simp (disch := first | omega | (simp only [n_alloc, n_put, n_kill]; omega) | (simp; done) | fail) [plan63_5, h0, h1, h8, h9, h10, h5, h, em, hb.int, ha.one, e', hrow.boolT]
      refine cNB (fun g => ?_) fun g => ?_
      · simp (disch := first | omega | (simp only [n_alloc, n_put, n_kill]; omega) | (simp; done) | fail) [h0, h1, h8, h9, h10, h5, h, strTo_step, hs, g]
      · simp (disch := first | omega | (simp only [n_alloc, n_put, n_kill]; omega) | (simp; done) | fail) [h0, h1, h8, h9, h10, h5, h, strTo_step, hs, g]
    · have : i = a.length := by omega
      subst this
      simp (disch := first | omega | (simp only [n_alloc, n_put, n_kill]; omega) | (simp; done) | fail) [h5, strangeL]
theorem taTurn_ok (va : AV) (a : List Int) (i j : Nat) (hl : a.length < 2 ^ 31) (hij : i ≤ j) (hj : j < a.length) (ha : RowV H va a.length 1 (ints a)) :
    ACall Try.prog w0 64 [va, .int .i64 i, .int .i64 j] H fun v H' => Ext H H' ∧ OwnV H.n H' v a.length 1 (ints (turnL a i j)) := by
  obtain ⟨ba, oa, ca, rfl, ha⟩ := ha
  refine ACall.enterW mix Try.func64 (by kernel_rfl) fun hw => ?_
  simp (disch := first | omega | (simp only [n_alloc, n_put, n_kill]; omega) | (simp; done) | fail) [Try.f64]
  refine call_of (l1Own_ok _ a hl ⟨_, _, _, rfl, ha⟩) fun v H1 hw1 ⟨he1, b, off, cap, hv, hO⟩ => ?_
  subst hv
  simp (disch := first | omega | (simp only [n_alloc, n_put, n_kill]; omega) | (simp; done) | fail)
  refine run_for (j + 1 - i) (fun k E H' => Ext H H' ∧ E 0 = .slice ba oa a.length 1 ca ∧ E 1 = .int .i64 i ∧ E 2 = .int .i64 j ∧ E 8 = .int .i64 (i + k) ∧ E 7 = .slice b off a.length 1 cap ∧ OwnAt H.n H' b off a.length 1 cap (ints (turnTo a i j (i + k)))) 0 (Nat.zero_le _) ?_ ?_
  · simp (disch := first | omega | (simp only [n_alloc, n_put, n_kill]; omega) | (simp; done) | fail)
    rw [turnTo_zero]
    exact ⟨he1, hO⟩
  · rintro k E H' hw' hk ⟨he, h0, h1, h2, h8, h7, hO⟩
    simp (disch := first | omega | (simp only [n_alloc, n_put, n_kill]; omega) | (simp; done) | fail) [h0, h1, h2, h8, h7]
    refine cP (fun h => ?_) fun h => ?_
    · have hr := ha.ext hw he
      have e1 : ((i : Int) + j - (i + k)).toNat = j - k := by omega
      have e2 : ((i : Int) + k).toNat = i + k := by omega
      simp (disch := first | omega | (simp only [n_alloc, n_put, n_kill]; omega) | (simp; done) | fail) [h0, h1, h2, h8, h7, h, hr.int, e1, e2]
      refine store_own (by simp) hO (by simp [turnTo_length]; omega) (by simp) (by simp) fun H2 hO2 hk2 _ => ?_
      have eg : a[j - k] = a.getD (i + j - (i + k)) 0 := by rw [show i + j - (i + k) = j - k by omega]; simp [List.getD, show j - k < a.length by omega]
      rw [cells_int, splice_ints (by rw [turnTo_length]; omega), eg, turnTo_step a i j (i + k) (by omega) (by omega)] at hO2
      simp (disch := first | omega | (simp only [n_alloc, n_put, n_kill]; omega) | (simp; done) | fail) [h0, h1, h2, h8, h7, h]
      exact ⟨by omega, hk2.ext he hO.base, by omega, hO2⟩
    · have : k = j + 1 - i := by omega
      subst this
      simp (disch := first | omega | (simp only [n_alloc, n_put, n_kill]; omega) | (simp; done) | fail) [h7]
      rw [show i + (j + 1 - i) = j + 1 by omega] at hO
      exact ⟨he, hO.v⟩
theorem turnL_length (l : List Int) (i j : Nat) : (turnL l i j).length = l.length := turnTo_length ..
theorem turnL_mem (l : List Int) (i j : Nat) (hj : j < l.length) : ∀ x ∈ turnL l i j, x ∈ l := by
  intro x hx
  simp only [turnL, turnTo, List.mem_map, List.mem_range] at hx
  obtain ⟨t, ht, rfl⟩ := hx
  split
  · rw [List.getD_eq_getElem?_getD, List.getElem?_eq_getElem (by omega)]; exact List.getElem_mem _
  · rw [List.getD_eq_getElem?_getD, List.getElem?_eq_getElem (by omega)]; exact List.getElem_mem _
/-- What mending gives: the first turn with fewer strangers. -/
def better (f : Nat → Nat → Bool) (l : List Int) (i j : Nat) : Prop := strangeL f (turnL l i j) < strangeL f l
def MendR (f : Nat → Nat → Bool) (l : List Int) : Option (List Int) → Prop
  | none => ∀ i j, i ≤ j → j < l.length → ¬ better f l i j
  | some m => ∃ i j, i ≤ j ∧ j < l.length ∧ better f l i j ∧ m = turnL l i j ∧ ∀ i' j', (i' < i ∨ i' = i ∧ j' < j) → i' ≤ j' → j' < l.length → ¬ better f l i' j'
theorem MendR.unique {f : Nat → Nat → Bool} {l : List Int} {r s : Option (List Int)} (h : MendR f l r) (h' : MendR f l s) : r = s := by
  cases r with
  | none =>
    cases s with
    | none => rfl
    | some m =>
      obtain ⟨i, j, h1, h2, h3, _⟩ := h'
      exact absurd h3 (h i j h1 h2)
  | some m =>
    obtain ⟨i, j, h1, h2, h3, rfl, h4⟩ := h
    cases s with
    | none => exact absurd h3 (h' i j h1 h2)
    | some m' =>
      obtain ⟨i', j', g1, g2, g3, rfl, g4⟩ := h'
      rcases Nat.lt_trichotomy i i' with hlt | heq | hgt
      · exact absurd h3 (g4 i j (.inl hlt) h1 h2)
      · subst heq
        rcases Nat.lt_trichotomy j j' with hlt | heq | hgt
        · exact absurd h3 (g4 i j (.inr ⟨rfl, hlt⟩) h1 h2)
        · subst heq; rfl
        · exact absurd g3 (h4 i j' (.inr ⟨rfl, hgt⟩) g1 g2)
      · exact absurd g3 (h4 i' j' (.inl hgt) g1 g2)
theorem taMend_ok (va vb : AV) (n : Nat) (f : Nat → Nat → Bool) (a : List Int) (hl : a.length < 2 ^ 31) (hr : ∀ x ∈ a, 0 ≤ x ∧ x ≤ (n : Int) - 1) (ha : BoolTab H va n f) (hb : RowV H vb a.length 1 (ints a)) :
    ACall Try.prog w0 33 [va, vb] H fun v H' => Ext H H' ∧ ∃ vs ok, v = .tuple [vs, .bool ok] ∧ ((ok = false ∧ MendR f a none) ∨ ∃ m, ok = true ∧ MendR f a (some m) ∧ OwnV H.n H' vs m.length 1 (ints m)) := by
  have ha' := ha
  have hb' := hb
  obtain ⟨ba, oa, ca, rows, rfl, _⟩ := ha'
  obtain ⟨bb, ob, cb, rfl, _⟩ := hb'
  refine ACall.enterW mix Try.func33 (by kernel_rfl) fun hw => ?_
  simp (disch := first | omega | (simp only [n_alloc, n_put, n_kill]; omega) | (simp; done) | fail) [Try.f33]
  refine call_of (taStrange_ok _ _ n f a hl hr ha hb) fun v H1 hw1 ⟨he1, hv⟩ => ?_
  subst hv he1
  simp (disch := first | omega | (simp only [n_alloc, n_put, n_kill]; omega) | (simp; done) | fail)
  refine run_for a.length (fun i E H' => Ext H1 H' ∧ E 0 = .slice ba oa n 1 ca ∧ E 1 = .slice bb ob a.length 1 cb ∧ E 6 = .int .i64 (strangeL f a) ∧ E 14 = .int .i64 a.length ∧ E 15 = .int .i64 i ∧ ∀ i' j', i' < i → i' ≤ j' → j' < a.length → ¬ better f a i' j') 0 (Nat.zero_le _) ?_ ?_
  · simp (disch := first | omega | (simp only [n_alloc, n_put, n_kill]; omega) | (simp; done) | fail)
  · rintro i E H' hw' hi ⟨he, h0, h1, h6, h14, h15, hc⟩
    simp (disch := first | omega | (simp only [n_alloc, n_put, n_kill]; omega) | (simp; done) | fail) [h0, h1, h6, h14, h15]
    refine cP (fun h => ?_) fun h => ?_
    · simp (disch := first | omega | (simp only [n_alloc, n_put, n_kill]; omega) | (simp; done) | fail) [h0, h1, h6, h14, h15]
      refine run_for a.length (fun j E H' => i ≤ j ∧ Ext H1 H' ∧ E 0 = .slice ba oa n 1 ca ∧ E 1 = .slice bb ob a.length 1 cb ∧ E 6 = .int .i64 (strangeL f a) ∧ E 14 = .int .i64 a.length ∧ E 15 = .int .i64 i ∧ E 7 = .int .i64 i ∧ E 8 = .int .i64 j ∧ ∀ j', i ≤ j' → j' < j → ¬ better f a i j') i (by omega) ?_ ?_
      · simp (disch := first | omega | (simp only [n_alloc, n_put, n_kill]; omega) | (simp; done) | fail) [h0, h1, h6, h14, h15]
        exact ⟨he, fun j' h1 h2 => by omega⟩
      · clear hw' he h0 h1 h6 h14 h15 H' E
        rintro j E H' hw' hj ⟨hij, he, h0, h1, h6, h14, h15, h7, h8, hc'⟩
        simp (disch := first | omega | (simp only [n_alloc, n_put, n_kill]; omega) | (simp; done) | fail) [h0, h1, h6, h14, h15, h7, h8]
        refine cP (fun g => ?_) fun g => ?_
        · simp (disch := first | omega | (simp only [n_alloc, n_put, n_kill]; omega) | (simp; done) | fail) [h0, h1, h6, h14, h15, h7, h8]
          refine call_of (taTurn_ok _ a i j hl hij g (hb.ext hw he)) fun v H2 hw2 ⟨he2, b2, off2, cap2, hv, hO2⟩ => ?_
          subst hv
          simp (disch := first | omega | (simp only [n_alloc, n_put, n_kill]; omega) | (simp; done) | fail) [h0, h1, h6, h14, h15, h7, h8]
          have hlt := turnL_length a i j
          have hb2 : RowV H2 (.slice b2 off2 a.length 1 cap2) (turnL a i j).length 1 (ints (turnL a i j)) := by
            rw [hlt]; exact ⟨_, _, _, rfl, hO2.toRow⟩
          refine call_of (taStrange_ok _ _ n f (turnL a i j) (by omega) (fun x hx => hr x (turnL_mem a i j g x hx)) (ha.ext hw (he.trans he2)) hb2) fun v H3 hw3 ⟨he3, hv⟩ => ?_
          subst hv he3
          simp (disch := first | omega | (simp only [n_alloc, n_put, n_kill]; omega) | (simp; done) | fail) [h0, h1, h6, h14, h15, h7, h8]
          refine cP (fun q => ?_) fun q => ?_
          · simp (disch := first | omega | (simp only [n_alloc, n_put, n_kill]; omega) | (simp; done) | fail)
            refine ⟨he.trans he2, turnL a i j, ?_, ?_⟩
            · refine ⟨i, j, hij, g, q, rfl, ?_⟩
              rintro i' j' (hlt' | ⟨rfl, hlt'⟩) h1 h2
              · exact hc i' j' hlt' h1 h2
              · exact hc' j' h1 hlt'
            · rw [hlt]
              exact (hO2.base_le he.1).v
          · simp (disch := first | omega | (simp only [n_alloc, n_put, n_kill]; omega) | (simp; done) | fail) [h0, h1, h6, h14, h15, h7, h8, g]
            refine ⟨by omega, he.trans he2, fun j' q1 q2 => ?_⟩
            rcases Nat.lt_or_ge j' j with hlt' | hge
            · exact hc' j' q1 hlt'
            · obtain rfl : j' = j := by omega
              exact q
        · have : j = a.length := by omega
          subst this
          simp (disch := first | omega | (simp only [n_alloc, n_put, n_kill]; omega) | (simp; done) | fail) [h0, h1, h6, h14, h15, h7, h8, h]
          refine ⟨he, fun i' j' q1 q2 q3 => ?_⟩
          rcases Nat.lt_or_ge i' i with hlt' | hge
          · exact hc i' j' hlt' q2 q3
          · obtain rfl : i' = i := by omega
            exact hc' j' q2 q3
    · simp (disch := first | omega | (simp only [n_alloc, n_put, n_kill]; omega) | (simp; done) | fail)
      refine ⟨he, fun i' j' q1 q2 => ?_⟩
      exact hc i' j' (by omega) q1 q2
end Go.Proofs.Ythkmbfifiojmhaa
