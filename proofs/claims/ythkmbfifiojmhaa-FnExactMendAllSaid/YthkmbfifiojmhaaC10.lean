/- The program's seats. -/
import Derived.Test.YthkmbfifiojmhaaC9
import Derived.Test.YthkmbfifiojmhaaC8
set_option linter.unusedSimpArgs false
set_option linter.unusedVariables false
set_option maxRecDepth 100000
namespace Go.Proofs.Ythkmbfifiojmhaa
open Go.Abs
variable {w0 : World} {H : Heap}
/-- A part turned as far as s steps from both ends. -/
def swapTo (l : List Int) (i k s : Nat) : List Int := (List.range l.length).map fun t => if (i ≤ t ∧ t < i + s) ∨ (i + k - s ≤ t ∧ t < i + k) then l.getD (2 * i + k - 1 - t) 0 else l.getD t 0
theorem getD_lt {l : List Int} {i : Nat} (h : i < l.length) : l.getD i 0 = l[i] := by simp [List.getD, h]
theorem swapTo_length (l : List Int) (i k s : Nat) : (swapTo l i k s).length = l.length := by simp [swapTo]
theorem swapTo_zero (l : List Int) (i k : Nat) : swapTo l i k 0 = l := by
  unfold swapTo
  apply List.ext_getElem (by simp)
  intro t h1 h2
  simp only [List.getElem_map, List.getElem_range]
  rw [if_neg (by omega)]
  simp [List.getD, h2]
theorem swapTo_get (l : List Int) (i k s t : Nat) (ht : t < l.length) (h : ¬ ((i ≤ t ∧ t < i + s) ∨ (i + k - s ≤ t ∧ t < i + k))) : (swapTo l i k s)[t]'(by rw [swapTo_length]; exact ht) = l.getD t 0 := by
  simp only [swapTo, List.getElem_map, List.getElem_range]
  rw [if_neg h]
theorem swapTo_step (l : List Int) (i k s : Nat) (hk : i + k ≤ l.length) (hs : 2 * s + 1 < k) :
    ((swapTo l i k s).set (i + s) (l.getD (i + (k - 1 - s)) 0)).set (i + (k - 1 - s)) (l.getD (i + s) 0) = swapTo l i k (s + 1) := by
  apply List.ext_getElem (by simp [swapTo_length])
  intro t h1 h2
  simp only [List.getElem_set, swapTo, List.getElem_map, List.getElem_range]
  by_cases e1 : i + (k - 1 - s) = t
  · rw [if_pos e1, if_pos (by omega)]
    congr 1
    omega
  · rw [if_neg e1]
    by_cases e2 : i + s = t
    · rw [if_pos e2, if_pos (by omega)]
      congr 1
      omega
    · rw [if_neg e2]
      by_cases c : (i ≤ t ∧ t < i + s) ∨ (i + k - s ≤ t ∧ t < i + k)
      · rw [if_pos c, if_pos (by omega)]
      · rw [if_neg c, if_neg (by omega)]
theorem swapTo_done (l : List Int) (i k : Nat) (hk : 1 ≤ k) (hl : i + k ≤ l.length) : swapTo l i k (k / 2) = turnL l i (i + k - 1) := by
  unfold turnL turnTo swapTo
  apply List.map_congr_left
  intro t ht
  by_cases c : (i ≤ t ∧ t < i + k / 2) ∨ (i + k - k / 2 ≤ t ∧ t < i + k)
  · rw [if_pos c, if_pos (by omega)]
    congr 1
    omega
  · rw [if_neg c]
    by_cases d : i ≤ t ∧ t < i + k - 1 + 1
    · rw [if_pos d]
      congr 1
      omega
    · rw [if_neg d]
theorem reverse_ok (n0 : Nat) (b : Option Nat) (off : Nat) (cap cap2 : Option Nat) (l : List Int) (i k : Nat) (hll : l.length < 2 ^ 31) (hk : 1 ≤ k) (hl : i + k ≤ l.length) (hO : OwnAt n0 H b off l.length 1 cap (ints l)) :
    ACall Try.prog w0 87 [.slice b (off + i) k 1 cap2] H fun v H' => Keep b H H' ∧ OwnAt n0 H' b off l.length 1 cap (ints (turnL l i (i + k - 1))) := by
  refine ACall.enterW mix Try.func87 (by kernel_rfl) fun hw => ?_
  simp (disch := first | omega | (simp only [n_alloc, n_put, n_kill]; omega) | (simp; done) | fail) [Try.f87]
  refine run_for (k / 2) (fun s E H' => Keep b H H' ∧ E 0 = .slice b (off + i) k 1 cap2 ∧ E 2 = .int .i64 s ∧ E 3 = .int .i64 ((k : Int) - 1 - s) ∧ OwnAt n0 H' b off l.length 1 cap (ints (swapTo l i k s))) 0 (Nat.zero_le _) ?_ ?_
  · simp (disch := first | omega | (simp only [n_alloc, n_put, n_kill]; omega) | (simp; done) | fail)
    rw [swapTo_zero]
    exact hO
  · rintro s E H' hw' hs ⟨he, h0, h2, h3, hO⟩
    simp (disch := first | omega | (simp only [n_alloc, n_put, n_kill]; omega) | (simp; done) | fail) [h0, h2, h3]
    refine cP (fun h => ?_) fun h => ?_
    · simp (disch := first | omega | (simp only [n_alloc, n_put, n_kill]; omega) | (simp; done) | fail)
      refine run_any plan87_3 (by kernel_rfl) ?_
      have e1 : ((k : Int) - 1 - s).toNat = k - 1 - s := by omega
      have hlen := swapTo_length l i k s
      have v1 := swapTo_get l i k s (i + (k - 1 - s)) (by omega) (by omega)
      have v2 := swapTo_get l i k s (i + s) (by omega) (by omega)
      simp (disch := first | omega | (simp only [n_alloc, n_put, n_kill]; omega) | (simp; done) | fail) [plan87_3, h0, h2, h3, e1, Nat.add_assoc, hO.toRow.int, v1, v2]
      refine store_own (by simp) hO (by simp [hlen]; omega) (by simp) (by simp) fun H2 hO2 hk2 _ => ?_
      rw [cells_int, splice_ints (by omega)] at hO2
      simp (disch := first | omega | (simp only [n_alloc, n_put, n_kill]; omega) | (simp; done) | fail) [h0, h2, h3, e1, Nat.add_assoc]
      refine store_own (by simp) hO2 (by simp [hlen]; omega) (by simp) (by simp) fun H3 hO3 hk3 _ => ?_
      rw [cells_int, splice_ints (by simp; omega)] at hO3
      have hst := swapTo_step l i k s hl (by omega)
      rw [getD_lt (show i + (k - 1 - s) < l.length by omega), getD_lt (show i + s < l.length by omega)] at hst
      rw [hst] at hO3
      simp (disch := first | omega | (simp only [n_alloc, n_put, n_kill]; omega) | (simp; done) | fail) [h0, h2, h3]
      exact ⟨by omega, he.trans (hk2.trans hk3), by omega, hO3⟩
    · simp (disch := first | omega | (simp only [n_alloc, n_put, n_kill]; omega) | (simp; done) | fail)
      have : s = k / 2 := by omega
      subst this
      rw [swapTo_done l i k hk hl] at hO
      exact ⟨he, hO⟩
theorem turned_ok (va : AV) (a : List Int) (i j : Nat) (hl : a.length < 2 ^ 31) (hij : i ≤ j) (hj : j < a.length) (ha : RowV H va a.length 1 (ints a)) :
    ACall Try.prog w0 68 [va, .int .i64 i, .int .i64 j] H fun v H' => Ext H H' ∧ OwnV H.n H' v a.length 1 (ints (turnL a i j)) := by
  obtain ⟨ba, oa, ca, rfl, ha⟩ := ha
  refine ACall.enterW mix Try.func68 (by kernel_rfl) fun hw => ?_
  simp (disch := first | omega | (simp only [n_alloc, n_put, n_kill]; omega) | (simp; done) | fail) [Try.f68]
  refine call_of (clone_ok _ a hl ⟨_, _, _, rfl, ha⟩) fun v H1 hw1 ⟨he1, b, off, cap, hv, hO⟩ => ?_
  subst hv
  have e1 : ((j : Int) + 1).toNat - i = j + 1 - i := by omega
  simp (disch := first | omega | (simp only [n_alloc, n_put, n_kill]; omega) | (simp; done) | fail) [e1]
  refine call_of (reverse_ok H.n b off cap _ a i (j + 1 - i) hl (by omega) (by omega) hO) fun v H2 hw2 ⟨hk2, hO2⟩ => ?_
  rw [show i + (j + 1 - i) - 1 = j by omega] at hO2
  simp (disch := first | omega | (simp only [n_alloc, n_put, n_kill]; omega) | (simp; done) | fail)
  exact ⟨hk2.ext he1 hO.base, hO2.v⟩
theorem mended_ok (va vb : AV) (n : Nat) (f : Nat → Nat → Bool) (a : List Int) (hn : n ≤ 16) (hl : a.length < 2 ^ 31) (hr : ∀ x ∈ a, 0 ≤ x ∧ x ≤ (n : Int) - 1) (ha : WTab H va n f) (hb : RowV H vb a.length 1 (ints a)) :
    ACall Try.prog w0 38 [va, vb] H fun v H' => Ext H H' ∧ ∃ vs ok, v = .tuple [vs, .bool ok] ∧ ((ok = false ∧ MendR f a none) ∨ ∃ m, ok = true ∧ MendR f a (some m) ∧ OwnV H.n H' vs m.length 1 (ints m)) := by
  have ha' := ha
  have hb' := hb
  obtain ⟨ba, oa, ca, ws, rfl, _⟩ := ha'
  obtain ⟨bb, ob, cb, rfl, _⟩ := hb'
  refine ACall.enterW mix Try.func38 (by kernel_rfl) fun hw => ?_
  simp (disch := first | omega | (simp only [n_alloc, n_put, n_kill]; omega) | (simp; done) | fail) [Try.f38]
  refine call_of (strangers_ok _ _ n f a hn hl hr ha hb) fun v H1 hw1 ⟨he1, hv⟩ => ?_
  subst hv he1
  simp (disch := first | omega | (simp only [n_alloc, n_put, n_kill]; omega) | (simp; done) | fail)
  refine run_for a.length (fun i E H' => Ext H1 H' ∧ E 0 = .slice ba oa n 1 ca ∧ E 1 = .slice bb ob a.length 1 cb ∧ E 6 = .int .i64 (strangeL f a) ∧ E 14 = .int .i64 a.length ∧ E 15 = .int .i64 i ∧ ∀ i' j', i' < i → i' ≤ j' → j' < a.length → ¬ better f a i' j') 0 (Nat.zero_le _) ?_ ?_
  · simp (disch := first | omega | (simp only [n_alloc, n_put, n_kill]; omega) | (simp; done) | fail)
  · rintro i E H' hw' hi ⟨he, h0, h1, h6, h14, h15, hc⟩
    simp (disch := first | omega | (simp only [n_alloc, n_put, n_kill]; omega) | (simp; done) | fail) [h0, h1, h6, h14, h15]
    refine cP (fun h => ?_) fun h => ?_
    · simp (disch := first | omega | (simp only [n_alloc, n_put, n_kill]; omega) | (simp; done) | fail) [h0, h1, h6, h14, h15]
      refine run_for a.length (fun j E H' => i ≤ j ∧ Ext H1 H' ∧ E 0 = .slice ba oa n 1 ca ∧ E 1 = .slice bb ob a.length 1 cb ∧ E 6 = .int .i64 (strangeL f a) ∧ E 14 = .int .i64 a.length ∧ E 15 = .int .i64 i ∧ E 7 = .int .i64 i ∧ E 8 = .int .i64 j ∧ ∀ j', i ≤ j' → j' < j → ¬ better f a i j') i (by omega) ?_ ?_
      · simp (disch := first | omega | (simp only [n_alloc, n_put, n_kill]; omega) | (simp; done) | fail) [h0, h1, h6, h14, h15]
        exact ⟨he, fun j' h1 h2 => by omega⟩
      · clear hw' he h0 h1 h6 h14 h15 H' E
        rintro j E H' hw' hj ⟨hij, he, h0, h1, h6, h14, h15, h7, h8, hc'⟩
        simp (disch := first | omega | (simp only [n_alloc, n_put, n_kill]; omega) | (simp; done) | fail) [h0, h1, h6, h14, h15, h7, h8]
        refine cP (fun g => ?_) fun g => ?_
        · simp (disch := first | omega | (simp only [n_alloc, n_put, n_kill]; omega) | (simp; done) | fail) [h0, h1, h6, h14, h15, h7, h8]
          refine call_of (turned_ok _ a i j hl hij g (hb.ext hw he)) fun v H2 hw2 ⟨he2, b2, off2, cap2, hv, hO2⟩ => ?_
          subst hv
          simp (disch := first | omega | (simp only [n_alloc, n_put, n_kill]; omega) | (simp; done) | fail) [h0, h1, h6, h14, h15, h7, h8]
          have hlt := turnL_length a i j
          have hb2 : RowV H2 (.slice b2 off2 a.length 1 cap2) (turnL a i j).length 1 (ints (turnL a i j)) := by
            rw [hlt]; exact ⟨_, _, _, rfl, hO2.toRow⟩
          refine call_of (strangers_ok _ _ n f (turnL a i j) hn (by omega) (fun x hx => hr x (turnL_mem a i j g x hx)) (ha.ext hw (he.trans he2)) hb2) fun v H3 hw3 ⟨he3, hv⟩ => ?_
          subst hv he3
          simp (disch := first | omega | (simp only [n_alloc, n_put, n_kill]; omega) | (simp; done) | fail) [h0, h1, h6, h14, h15, h7, h8]
          refine cP (fun q => ?_) fun q => ?_
          · simp (disch := first | omega | (simp only [n_alloc, n_put, n_kill]; omega) | (simp; done) | fail)
            refine ⟨he.trans he2, turnL a i j, ?_, ?_⟩
            · refine ⟨i, j, hij, g, q, rfl, ?_⟩
              rintro i' j' (hlt' | ⟨rfl, hlt'⟩) h1 h2
              · exact hc i' j' hlt' h1 h2
              · exact hc' j' h1 hlt'
            · rw [hlt]
              exact (hO2.base_le he.1).v
          · simp (disch := first | omega | (simp only [n_alloc, n_put, n_kill]; omega) | (simp; done) | fail) [h0, h1, h6, h14, h15, h7, h8, g]
            refine ⟨by omega, he.trans he2, fun j' q1 q2 => ?_⟩
            rcases Nat.lt_or_ge j' j with hlt' | hge
            · exact hc' j' q1 hlt'
            · obtain rfl : j' = j := by omega
              exact q
        · have : j = a.length := by omega
          subst this
          simp (disch := first | omega | (simp only [n_alloc, n_put, n_kill]; omega) | (simp; done) | fail) [h0, h1, h6, h14, h15, h7, h8, h]
          refine ⟨he, fun i' j' q1 q2 q3 => ?_⟩
          rcases Nat.lt_or_ge i' i with hlt' | hge
          · exact hc i' j' hlt' q2 q3
          · obtain rfl : i' = i := by omega
            exact hc' j' q2 q3
    · simp (disch := first | omega | (simp only [n_alloc, n_put, n_kill]; omega) | (simp; done) | fail)
      refine ⟨he, fun i' j' q1 q2 => ?_⟩
      exact hc i' j' (by omega) q1 q2
theorem upTo_ok (n : Nat) (hn : n ≤ 12) : ACall Try.prog w0 85 [.int .i64 n] H fun v H' => Ext H H' ∧ OwnV H.n H' v n 1 (ints ((List.range n).map fun (i : Nat) => (i : Int))) := by
  refine ACall.enterW mix Try.func85 (by kernel_rfl) fun hw => ?_
  simp (disch := first | omega | (simp only [n_alloc, n_put, n_kill]; omega) | (simp; done) | fail) [Try.f85]
  refine build_full ?_
  simp (disch := first | omega | (simp only [n_alloc, n_put, n_kill]; omega) | (simp; done) | fail) [buildC]
  refine run_for n (fun i E H' => Ext H H' ∧ E 6 = .int .i64 n ∧ E 7 = .int .i64 i ∧ OwnV H.n H' (E 3) i 1 (ints ((List.range i).map fun (i : Nat) => (i : Int)))) 0 (Nat.zero_le _) ?_ ?_
  · simp (disch := first | omega | (simp only [n_alloc, n_put, n_kill]; omega) | (simp; done) | fail)
    exact (OwnAt.new (n0 := H.n) (H := H) (Nat.le_refl _) (cs := []) (len := 0) (sz := 1) rfl).v
  · rintro i E H' hw' hi ⟨he, h6, h7, b, off, cap, h3, hO⟩
    simp (disch := first | omega | (simp only [n_alloc, n_put, n_kill]; omega) | (simp; done) | fail) [h6, h7, h3]
    refine cP (fun h => ?_) fun h => ?_
    · simp (disch := first | omega | (simp only [n_alloc, n_put, n_kill]; omega) | (simp; done) | fail) [h6, h7, h3]
      refine build_full ?_
      simp (disch := first | omega | (simp only [n_alloc, n_put, n_kill]; omega) | (simp; done) | fail) [buildC]
      refine append_one hO hw' he.1 (by simp (disch := first | omega | (simp only [n_alloc, n_put, n_kill]; omega) | (simp; done) | fail); omega) (by simp (disch := first | omega | (simp only [n_alloc, n_put, n_kill]; omega) | (simp; done) | fail)) (by omega) rfl rfl (by omega) fun b' off' cap' H2 hO2 hk2 hb2 => ?_
      simp (disch := first | omega | (simp only [n_alloc, n_put, n_kill]; omega) | (simp; done) | fail) [h6, h7, h3]
      refine ⟨h, hk2.ext he hO.base, ?_⟩
      have := hO2.v
      rw [List.range_succ]
      simpa [ints] using this
    · have : i = n := by omega
      subst this
      simp (disch := first | omega | (simp only [n_alloc, n_put, n_kill]; omega) | (simp; done) | fail) [h3]
      exact ⟨he, hO.v⟩
theorem equal_ok (va vb : AV) (a b : List Int) (hl : a.length < 2 ^ 31) (ha : RowV H va a.length 1 (ints a)) (hb : RowV H vb b.length 1 (ints b)) : ACall Try.prog w0 84 [va, vb] H fun v H' => v = .bool (decide (a = b)) ∧ H' = H := by
  obtain ⟨ba, oa, ca, rfl, ha⟩ := ha
  obtain ⟨bb, ob, cb, rfl, hb⟩ := hb
  refine ACall.enterW mix Try.func84 (by kernel_rfl) fun hw => ?_
  simp (disch := first | omega | (simp only [n_alloc, n_put, n_kill]; omega) | (simp; done) | fail) [Try.f84]
  refine cN (fun h => ?_) fun h => ?_
  · simp (disch := first | omega | (simp only [n_alloc, n_put, n_kill]; omega) | (simp; done) | fail)
    intro e; subst e; exact h rfl
  · simp (disch := first | omega | (simp only [n_alloc, n_put, n_kill]; omega) | (simp; done) | fail)
    refine run_for a.length (fun i E H' => H' = H ∧ E 0 = .slice ba oa a.length 1 ca ∧ E 1 = .slice bb ob b.length 1 cb ∧ E 12 = .int .i64 a.length ∧ E 13 = .int .i64 i ∧ ∀ j (h : j < i) (h1 : j < a.length) (h2 : j < b.length), a[j] = b[j]) 0 (Nat.zero_le _) ?_ ?_
    · simp (disch := first | omega | (simp only [n_alloc, n_put, n_kill]; omega) | (simp; done) | fail)
    rintro i E H' _ hi ⟨rfl, h0, h1, h12, h13, hc⟩
    simp (disch := first | omega | (simp only [n_alloc, n_put, n_kill]; omega) | (simp; done) | fail) [h0, h1, h12, h13]
    refine cP (fun h => ?_) fun h => ?_
    · simp (disch := first | omega | (simp only [n_alloc, n_put, n_kill]; omega) | (simp; done) | fail) [h0, h1, h12, h13]
      refine run_any plan84_6 (by kernel_rfl) ?_
      simp (disch := first | omega | (simp only [n_alloc, n_put, n_kill]; omega) | (simp; done) | fail) [plan84_6, h0, h1, h12, h13, h, ha.int, hb.int]
      refine cN (fun h => ?_) fun h => ?_
      · simp (disch := first | omega | (simp only [n_alloc, n_put, n_kill]; omega) | (simp; done) | fail)
        intro e
        subst e
        exact h rfl
      · simp (disch := first | omega | (simp only [n_alloc, n_put, n_kill]; omega) | (simp; done) | fail) [h0, h1, h12, h13]
        intro j hj h1 h2
        rcases Nat.lt_or_ge j i with hlt | hge
        · exact hc j hlt h1 h2
        · obtain rfl : j = i := by omega
          exact h
    · simp (disch := first | omega | (simp only [n_alloc, n_put, n_kill]; omega) | (simp; done) | fail)
      apply List.ext_getElem (by omega)
      intro j _ _; exact hc j (by omega) (by omega) (by omega)
end Go.Proofs.Ythkmbfifiojmhaa
