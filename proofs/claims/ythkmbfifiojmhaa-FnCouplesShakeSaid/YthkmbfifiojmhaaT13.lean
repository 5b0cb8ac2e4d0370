/- Couples: what both sides say. -/
import Derived.Test.YthkmbfifiojmhaaT12
set_option linter.unusedSimpArgs false
set_option linter.unusedVariables false
set_option maxRecDepth 100000
namespace Go.Proofs.Ythkmbfifiojmhaa
open Go.Abs
variable {w0 : World} {H : Heap}
/-- No two of a couple are friends. -/
def NoSp (n : Nat) (f : Nat → Nat → Bool) : Prop := ∀ k, 2 * k + 1 < n → f (2 * k) (2 * k + 1) = false
def CoupleP (n : Nat) (f : Nat → Nat → Bool) : Prop := NoSp n f ∧ (toldL n f).Nodup
theorem sortedZ_pairwise (a : List Int) : (sortedZ a).Pairwise (· ≤ ·) := by
  have := List.pairwise_mergeSort (le := fun x y : Int => decide (x ≤ y)) (fun x y z h1 h2 => by simp at h1 h2 ⊢; omega) (fun x y => by simp; omega) a
  exact this.imp fun h => by simpa using h
theorem sortedZ_perm (a : List Int) : (sortedZ a).Perm a := List.mergeSort_perm _ _
theorem adj_sorted {s : List Int} (h : s.Pairwise (· ≤ ·)) : Adj s ↔ s.Nodup := by
  constructor
  · intro ha
    have hlt : ∀ (i j : Nat) (hij : i < j) (hj : j < s.length), s[i]'(by omega) < s[j] := by
      intro i j
      induction j with
      | zero => intro hij; omega
      | succ j ih =>
        intro hij hj
        have h1 := ha j hj
        have h2 := List.pairwise_iff_getElem.1 h j (j + 1) (by omega) hj (by omega)
        rcases Nat.lt_or_ge i j with hlt | hge
        · have := ih hlt (by omega); omega
        · obtain rfl : i = j := by omega
          omega
    rw [List.Nodup, List.pairwise_iff_getElem]
    intro i j hi hj hij
    have := hlt i j hij hj
    omega
  · intro hn i hi
    exact List.pairwise_iff_getElem.1 hn i (i + 1) (by omega) hi (by omega)
theorem fr_mem {n : Int} {ps : List (Int × Int)} (hg : GoodP n ps) {a b : Nat} (hab : a < b) : fr ps a b = true ↔ ((a : Int), (b : Int)) ∈ ps := by
  unfold fr
  rw [List.any_eq_true]
  constructor
  · rintro ⟨p, hp, h⟩
    obtain ⟨i, hi, rfl⟩ := List.getElem_of_mem hp
    have := hg.2 i hi
    simp at h
    have e : ps[i] = ((a : Int), (b : Int)) := by ext <;> simp <;> omega
    rw [← e]; exact hp
  · intro hm
    exact ⟨_, hm, by simp⟩
theorem areCouples_ok (n : Nat) (ps : List (Int × Int)) (hg : GoodP n ps) (he : n % 2 = 0) (h2 : 2 ≤ n) (hl : ps.length < 2 ^ 31) : PCall Try.prog 46 [partyT n ps] (IsB (CoupleP n (fr ps))) := by
  have hn := hg.1
  refine PCall.run mix Try.func46 (by kernel_rfl) fun w0 H hw => ?_
  simp (disch := first | omega | (simp only [n_alloc, n_put, n_kill, n_allocT, n_tabH, n_less]; omega) | (simp; done) | fail) [Try.f46]
  refine box_f rfl ?_
  simp (disch := first | omega | (simp only [n_alloc, n_put, n_kill, n_allocT, n_tabH, n_less]; omega) | (simp; done) | fail)
  refine run_pure (tableT_ok n ps hg hl) fun v hv => ?_
  subst hv
  simp (disch := first | omega | (simp only [n_alloc, n_put, n_kill, n_allocT, n_tabH, n_less]; omega) | (simp; done) | fail)
  refine run_for (n / 2) (fun k E H' => H' = H ∧ E 1 = .fptr [.int .i64 n, pairsT ps] ∧ E 3 = wordsT n (fr ps) ∧ E 4 = .int .i64 ((2 * k : Nat) : Int) ∧ ∀ j, j < k → fr ps (2 * j) (2 * j + 1) = false) 0 (Nat.zero_le _) ?_ ?_
  · simp (disch := first | omega | (simp only [n_alloc, n_put, n_kill, n_allocT, n_tabH, n_less]; omega) | (simp; done) | fail)
  · rintro k E H' hw' hk ⟨rfl, h1, h3, h4, hc⟩
    simp (disch := first | omega | (simp only [n_alloc, n_put, n_kill, n_allocT, n_tabH, n_less]; omega) | (simp; done) | fail) [h1, h3, h4]
    refine cP (fun g => ?_) fun g => ?_
    · simp (disch := first | omega | (simp only [n_alloc, n_put, n_kill, n_allocT, n_tabH, n_less]; omega) | (simp; done) | fail) [h1, h3, h4]
      refine run_pureB (has_ok n (fr ps) (2 * k) (2 * k + 1) (by omega) (by omega) (by omega)) fun b hb => ?_
      rw [show (2 * (k : Int)).toNat = 2 * k by omega, show (2 * (k : Int) + 1).toNat = 2 * k + 1 by omega] at hb
      simp (disch := first | omega | (simp only [n_alloc, n_put, n_kill, n_allocT, n_tabH, n_less]; omega) | (simp; done) | fail)
      refine cB (fun q => ?_) fun q => ?_
      · simp (disch := first | omega | (simp only [n_alloc, n_put, n_kill, n_allocT, n_tabH, n_less]; omega) | (simp; done) | fail)
        exact Done.no (Ext.refl _) fun hp => by have := hp.1 k (by omega); rw [hb.1 q] at this; cases this
      · simp (disch := first | omega | (simp only [n_alloc, n_put, n_kill, n_allocT, n_tabH, n_less]; omega) | (simp; done) | fail) [h1, h3, h4]
        refine ⟨by omega, by omega, fun j hj => ?_⟩
        rcases Nat.lt_or_ge j k with hlt | hge
        · exact hc j hlt
        · obtain rfl : j = k := by omega
          cases hf : fr ps (2 * j) (2 * j + 1) with
          | false => rfl
          | true => rw [hb.2 hf] at q; cases q
    · simp (disch := first | omega | (simp only [n_alloc, n_put, n_kill, n_allocT, n_tabH, n_less]; omega) | (simp; done) | fail) [h1]
      refine run_any plan46_7 (by kernel_rfl) ?_
      simp (disch := first | omega | (simp only [n_alloc, n_put, n_kill, n_allocT, n_tabH, n_less]; omega) | (simp; done) | fail) [plan46_7, h1]
      refine call_of (told_ok n ps hg (by omega) hl) fun v H1 hw1 ⟨he1, b, off, cap, hv, hO⟩ => ?_
      subst hv
      have hsl : (sortedZ (toldL n (fr ps))).length = n - 1 := by rw [sortedZ_length]; simp [toldL]
      simp (disch := first | omega | (simp only [n_alloc, n_put, n_kill, n_allocT, n_tabH, n_less]; omega) | (simp; done) | fail)
      have hO' : OwnAt H'.n H1 b off (sortedZ (toldL n (fr ps))).length 1 cap (ints (sortedZ (toldL n (fr ps)))) := by rw [hsl]; exact hO
      have hcomp := compact_ok (w0 := w0) H'.n (sortedZ (toldL n (fr ps))) b off cap (by omega) hO'
      rw [hsl] at hcomp
      refine call_of hcomp fun v H2 hw2 ⟨hk2, m, cap', hv, hm, hadj⟩ => ?_
      subst hv
      simp (disch := first | omega | (simp only [n_alloc, n_put, n_kill, n_allocT, n_tabH, n_less]; omega) | (simp; done) | fail) [h1]
      refine Done.iff (hk2.ext he1 hO.base) ?_
      rw [decide_eq_true_eq]
      have hA : (m : Int) = (n : Int) - 1 ↔ m = n - 1 := by omega
      rw [hA, hadj, adj_sorted (sortedZ_pairwise _), (sortedZ_perm _).nodup_iff]
      constructor
      · intro h
        exact ⟨fun j hj => hc j (by omega), h⟩
      · exact fun h => h.2
end Go.Proofs.Ythkmbfifiojmhaa
