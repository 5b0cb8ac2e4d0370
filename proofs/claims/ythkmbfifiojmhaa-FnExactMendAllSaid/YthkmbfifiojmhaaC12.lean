/- The program's mending. -/
import Derived.Test.YthkmbfifiojmhaaC11
set_option linter.unusedSimpArgs false
set_option linter.unusedVariables false
set_option maxRecDepth 100000
namespace Go.Proofs.Ythkmbfifiojmhaa
open Go.Abs
variable {w0 : World} {H : Heap}
def rangeZ (n : Nat) : List Int := (List.range n).map fun (i : Nat) => (i : Int)
theorem rangeZ_length (n : Nat) : (rangeZ n).length = n := by simp [rangeZ]
theorem rangeZ_mem {n : Nat} {x : Int} : x ∈ rangeZ n ↔ 0 ≤ x ∧ x ≤ (n : Int) - 1 := by
  simp only [rangeZ, List.mem_map, List.mem_range]
  constructor
  · rintro ⟨i, hi, rfl⟩; omega
  · rintro ⟨h1, h2⟩; exact ⟨x.toNat, by omega, by omega⟩
theorem rangeZ_pairwise (n : Nat) : (rangeZ n).Pairwise (· < ·) := by
  rw [List.pairwise_iff_getElem]
  intro i j hi hj hij
  simp only [rangeZ, List.getElem_map, List.getElem_range]
  omega
theorem rangeZ_nodup (n : Nat) : (rangeZ n).Nodup := (rangeZ_pairwise n).imp fun h => by omega
theorem sortedZ_perm (a : List Int) : (sortedZ a).Perm a := List.mergeSort_perm _ _
theorem perm_of_Perm {n : Nat} {a : List Int} (h : Perm n a) : a.Perm (rangeZ n) := by
  rw [List.perm_ext_iff_of_nodup h.2.2 (rangeZ_nodup n)]
  intro x
  constructor
  · intro hx; exact rangeZ_mem.2 (h.2.1 x hx)
  · intro hx
    by_cases hm : x ∈ a
    · exact hm
    · exfalso
      have hs : a ⊆ (rangeZ n).erase x := by
        intro y hy
        rw [(rangeZ_nodup n).mem_erase_iff]
        exact ⟨fun e => hm (e ▸ hy), rangeZ_mem.2 (h.2.1 y hy)⟩
      have h1 := h.2.2.length_le_of_subset hs
      rw [List.length_erase_of_mem hx, rangeZ_length] at h1
      have h2 := h.1
      have h3 : 0 < n := by
        have := (rangeZ_mem.1 hx)
        omega
      omega
theorem sortedZ_iff {n : Nat} {a : List Int} : sortedZ a = rangeZ n ↔ Perm n a := by
  constructor
  · intro h
    have hp := sortedZ_perm a
    rw [h] at hp
    refine ⟨?_, fun x hx => rangeZ_mem.1 (hp.mem_iff.2 hx), hp.nodup_iff.1 (rangeZ_nodup n)⟩
    have := hp.length_eq
    rw [rangeZ_length] at this
    omega
  · intro h
    refine List.Perm.eq_of_pairwise (le := fun x y => decide (x ≤ y) = true) (fun x y _ _ h1 h2 => by simp at h1 h2; omega) (List.pairwise_mergeSort (fun x y z h1 h2 => by simp at h1 h2 ⊢; omega) (fun x y => by simp; omega) a) ((rangeZ_pairwise n).imp fun h => by simp; omega) ((sortedZ_perm a).trans (perm_of_Perm h))
theorem isPermutation_ok (va : AV) (a : List Int) (n : Nat) (hn : n ≤ 12) (hl : a.length < 2 ^ 31) (ha : RowV H va a.length 1 (ints a)) : ACall Try.prog w0 66 [va, .int .i64 n] H fun v H' => Ext H H' ∧ ∃ r, v = .bool r ∧ (r = true ↔ Perm n a) := by
  obtain ⟨ba, oa, ca, rfl, ha⟩ := ha
  refine ACall.enterW mix Try.func66 (by kernel_rfl) fun hw => ?_
  simp (disch := first | omega | (simp only [n_alloc, n_put, n_kill]; omega) | (simp; done) | fail) [Try.f66]
  refine call_of (values_ok _ _ _ _ _) fun v H1 hw1 ⟨hv, he1⟩ => ?_
  subst hv he1
  simp (disch := first | omega | (simp only [n_alloc, n_put, n_kill]; omega) | (simp; done) | fail)
  refine call_of (sorted_ok a H.n ba oa ca true hl get_alloc_new (ha.alloc hw)) fun v H2 hw2 ⟨he2, b2, o2, c2, hv, hO2⟩ => ?_
  subst hv
  have hx2 : Ext H H2 := ((Ext.refl H).alloc _).trans he2
  simp (disch := first | omega | (simp only [n_alloc, n_put, n_kill]; omega) | (simp; done) | fail)
  refine call_of (upTo_ok n hn) fun v H3 hw3 ⟨he3, b3, o3, c3, hv, hO3⟩ => ?_
  subst hv
  simp (disch := first | omega | (simp only [n_alloc, n_put, n_kill]; omega) | (simp; done) | fail)
  have hs : RowV H3 (.slice b2 o2 a.length 1 c2) (sortedZ a).length 1 (ints (sortedZ a)) := by
    rw [sortedZ_length]
    exact ⟨_, _, _, rfl, hO2.toRow.ext hw2 he3⟩
  have hu : RowV H3 (.slice b3 o3 n 1 c3) (rangeZ n).length 1 (ints (rangeZ n)) := by
    rw [rangeZ_length]
    exact ⟨_, _, _, rfl, hO3.toRow⟩
  refine call_of (equal_ok _ _ (sortedZ a) (rangeZ n) (by rw [sortedZ_length]; omega) hs hu) fun v H4 hw4 ⟨hv, he4⟩ => ?_
  generalize hr : decide (sortedZ a = rangeZ n) = r at hv
  subst hv he4
  simp (disch := first | omega | (simp only [n_alloc, n_put, n_kill]; omega) | (simp; done) | fail)
  refine ⟨hx2.trans he3, ?_⟩
  have := sortedZ_iff (n := n) (a := a)
  cases r <;> simp_all
theorem areSeats_ok (va vb : AV) (n : Int) (ps : List (Int × Int)) (a : List Int) (hl : ps.length < 2 ^ 31) (hl2 : a.length < 2 ^ 31) (ha : PartyAt H va n ps) (hb : RowV H vb a.length 1 (ints a)) :
    ACall Try.prog w0 35 [va, vb, .int .i64 3] H fun v H' => Ext H H' ∧ ∃ r, v = .bool r ∧ (r = true ↔ GoodP n ps ∧ Perm n a ∧ 3 ≤ n) := by
  obtain ⟨ba, oa, ca, rfl, ha⟩ := ha
  obtain ⟨bb, ob, cb, rfl, hb⟩ := hb
  refine ACall.enterW mix Try.func35 (by kernel_rfl) fun hw => ?_
  simp (disch := first | omega | (simp only [n_alloc, n_put, n_kill]; omega) | (simp; done) | fail) [Try.f35]
  refine call_of (isParty_ok _ n ps hl ⟨_, _, _, rfl, ha.ext hw (by simp (disch := first | omega | (simp only [n_alloc, n_put, n_kill]; omega) | (simp; done) | fail))⟩) fun v H1 hw1 ⟨he1, r1, hv, hr1⟩ => ?_
  subst hv
  have hx : Ext H H1 := Ext.trans (by simp (disch := first | omega | (simp only [n_alloc, n_put, n_kill]; omega) | (simp; done) | fail)) he1
  have g0 : H1.get H.n = some (.cells [.int .i64 n, .slice ba oa ps.length 2 ca] true) := by
    rw [he1.2 H.n (by (first | omega | (simp only [n_alloc, n_put, n_kill]; omega)))]
    simp (disch := first | omega | (simp only [n_alloc, n_put, n_kill]; omega) | (simp; done) | fail)
  simp (disch := first | omega | (simp only [n_alloc, n_put, n_kill]; omega) | (simp; done) | fail) [g0]
  refine gB (fun h => ?_) fun h => ?_
  · have hg := hr1.1 h
    have hn := hg.1
    simp (disch := first | omega | (simp only [n_alloc, n_put, n_kill]; omega) | (simp; done) | fail) [g0, h]
    refine gP (fun h3 => ?_) fun h3 => ?_
    · simp (disch := first | omega | (simp only [n_alloc, n_put, n_kill]; omega) | (simp; done) | fail) [g0, h, h3]
      obtain ⟨m, rfl⟩ : ∃ m : Nat, n = m := ⟨n.toNat, by omega⟩
      refine call_of (isPermutation_ok _ a m (by omega) hl2 ⟨_, _, _, rfl, hb.ext hw hx⟩) fun v H2 hw2 ⟨he2, r2, hv, hr2⟩ => ?_
      subst hv
      simp (disch := first | omega | (simp only [n_alloc, n_put, n_kill]; omega) | (simp; done) | fail) [h, h3]
      refine ⟨hx.trans he2, ?_⟩
      cases r2 <;> simp_all
    · simp (disch := first | omega | (simp only [n_alloc, n_put, n_kill]; omega) | (simp; done) | fail) [h, h3]
      refine ⟨hx, fun _ _ => by omega⟩
  · simp (disch := first | omega | (simp only [n_alloc, n_put, n_kill]; omega) | (simp; done) | fail) [h]
    refine ⟨hx, ?_⟩
    simp_all
theorem implMendAll_ok (va vb : AV) (n : Int) (ps : List (Int × Int)) (a : List Int) (hl : ps.length < 2 ^ 31) (hl2 : a.length < 2 ^ 31) (ha : PartyAt H va n ps) (hb : RowV H vb a.length 1 (ints a)) :
    ACall Try.prog w0 9 [va, vb] H fun v H' => Ext H H' ∧ MendSaid H' H.n n ps a v := by
  obtain ⟨ba, oa, ca, rfl, ha⟩ := ha
  obtain ⟨bb, ob, cb, rfl, hb⟩ := hb
  refine ACall.enterW mix Try.func9 (by kernel_rfl) fun hw => ?_
  simp (disch := first | omega | (simp only [n_alloc, n_put, n_kill]; omega) | (simp; done) | fail) [Try.f9]
  refine call_of (areSeats_ok _ _ n ps a hl hl2 ⟨_, _, _, rfl, ha.ext hw (by simp (disch := first | omega | (simp only [n_alloc, n_put, n_kill]; omega) | (simp; done) | fail))⟩ ⟨_, _, _, rfl, hb.ext hw (by simp (disch := first | omega | (simp only [n_alloc, n_put, n_kill]; omega) | (simp; done) | fail))⟩) fun v H1 hw1 ⟨he1, r1, hv, hr1⟩ => ?_
  subst hv
  have hx : Ext H H1 := Ext.trans (by simp (disch := first | omega | (simp only [n_alloc, n_put, n_kill]; omega) | (simp; done) | fail)) he1
  have g0 : H1.get H.n = some (.cells [.int .i64 n, .slice ba oa ps.length 2 ca] true) := by
    rw [he1.2 H.n (by (first | omega | (simp only [n_alloc, n_put, n_kill]; omega)))]
    simp (disch := first | omega | (simp only [n_alloc, n_put, n_kill]; omega) | (simp; done) | fail)
  simp (disch := first | omega | (simp only [n_alloc, n_put, n_kill]; omega) | (simp; done) | fail) [g0]
  refine cNB (fun h => ?_) fun h => ?_
  · simp (disch := first | omega | (simp only [n_alloc, n_put, n_kill]; omega) | (simp; done) | fail)
    refine ⟨hx, .inl ⟨fun q => ?_, rfl⟩⟩
    have := hr1.2 q
    rw [h] at this
    cases this
  · obtain ⟨hg, hp, h3⟩ := hr1.1 h
    have hpl := hp.1
    have hn := hg.1
    simp (disch := first | omega | (simp only [n_alloc, n_put, n_kill]; omega) | (simp; done) | fail) [g0]
    obtain ⟨m, rfl⟩ : ∃ m : Nat, n = m := ⟨n.toNat, by omega⟩
    refine call_of (table_ok _ m ps hg hl ⟨_, _, _, rfl, ha.ext hw hx⟩) fun vt H2 hw2 ⟨he2, hT⟩ => ?_
    have hT' := hT
    obtain ⟨bt, ot, ct, ws, rfl, _⟩ := hT'
    simp (disch := first | omega | (simp only [n_alloc, n_put, n_kill]; omega) | (simp; done) | fail)
    refine call_of (clone_ok _ a hl2 ⟨_, _, _, rfl, hb.ext hw (hx.trans he2)⟩) fun vo H3 hw3 ⟨he3, hO⟩ => ?_
    have hx3 : Ext H H3 := hx.trans (he2.trans he3)
    simp (disch := first | omega | (simp only [n_alloc, n_put, n_kill]; omega) | (simp; done) | fail)
    refine run_loop (fun w E H' => ∃ k cur, w = strangeL (fr ps) cur ∧ Chain (fr ps) a k cur ∧ Ext H3 H' ∧ E 7 = .slice bt ot m 1 ct ∧ E 9 = .int .i64 k ∧ OwnV H.n H' (E 8) cur.length 1 (ints cur)) (strangeL (fr ps) a) ?_ ?_
    · simp (disch := first | omega | (simp only [n_alloc, n_put, n_kill]; omega) | (simp; done) | fail)
      obtain ⟨b, off, cap, rfl, hO⟩ := hO
      exact ⟨0, a, rfl, .nil, rfl, (hO.base_le (hx.trans he2).1).v⟩
    · rintro w E H' hw' ⟨k, cur, rfl, hch, he, h7, h9, hOc⟩
      have hkeep := hch.keeps
      have hless := hch.less
      have hsl : strangeL (fr ps) a ≤ a.length := strTo_le ..
      have hcr : RowV H' (E 8) cur.length 1 (ints cur) := hOc.row
      have hTc := (hT.ext hw2 he3).ext hw3 he
      simp (disch := first | omega | (simp only [n_alloc, n_put, n_kill]; omega) | (simp; done) | fail) [h7, h9]
      refine call_of (mended_ok _ _ m (fr ps) cur (by omega) (by omega) (fun x hx => hp.2.1 x (hkeep.2 x hx)) hTc hcr) fun v H4 hw4 ⟨he4, vs, ok, hv, hres⟩ => ?_
      subst hv
      simp (disch := first | omega | (simp only [n_alloc, n_put, n_kill]; omega) | (simp; done) | fail) [h7, h9]
      rcases hres with ⟨rfl, hnone⟩ | ⟨m', rfl, hsome, hO'⟩
      · simp (disch := first | omega | (simp only [n_alloc, n_put, n_kill]; omega) | (simp; done) | fail) [h7, h9]
        refine ⟨hx3.trans (he.trans he4), .inr ⟨⟨hg, hp, by omega⟩, _, k, cur, rfl, ⟨hch, hnone⟩, ?_⟩⟩
        obtain ⟨b, off, cap, e8, hO8⟩ := hOc
        rw [e8]
        exact (hO8.keep he4.keep (.inl rfl)).v
      · have hb : strangeL (fr ps) m' < strangeL (fr ps) cur := by
          obtain ⟨i, j, _, _, h3, rfl, _⟩ := hsome
          exact h3
        simp (disch := first | omega | (simp only [n_alloc, n_put, n_kill]; omega) | (simp; done) | fail) [h7, h9]
        refine ⟨_, hb, k + 1, m', rfl, .step hch hsome, he.trans he4, by simp, ?_⟩
        obtain ⟨b, off, cap, rfl, hO8⟩ := hO'
        exact (hO8.base_le (hx3.trans he).1).v
end Go.Proofs.Ythkmbfifiojmhaa
