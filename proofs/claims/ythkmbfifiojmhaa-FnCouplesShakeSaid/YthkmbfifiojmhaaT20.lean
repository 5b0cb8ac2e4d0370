/- What the couples' law says of the numbers that are told. -/
import Derived.Test.YthkmbfifiojmhaaT19
set_option linter.unusedSimpArgs false
set_option linter.unusedVariables false
set_option maxRecDepth 100000
namespace Go.Proofs.Ythkmbfifiojmhaa
open Go.Abs
theorem fr_irr {n : Int} {ps : List (Int × Int)} (hg : GoodP n ps) (a : Nat) : fr ps a a = false := by
  cases h : fr ps a a with
  | false => rfl
  | true =>
    simp only [fr, List.any_eq_true, Bool.or_eq_true, Bool.and_eq_true, beq_iff_eq] at h
    obtain ⟨p, hp, h⟩ := h
    obtain ⟨i, hi, rfl⟩ := List.getElem_of_mem hp
    have := (hg.2 i hi).2.1
    omega
theorem toldL_get {n : Nat} {f : Nat → Nat → Bool} {i : Nat} (h : i < (toldL n f).length) : (toldL n f)[i] = (deg n f (i + 1) : Int) := by
  simp only [toldL, degs, List.getElem_drop, List.getElem_map, List.getElem_range]
  rw [Nat.add_comm]
/-- The numbers of a party of couples. -/
theorem cp_law {m : Nat} {f : Nat → Nat → Bool} (hm : 1 ≤ m) (hsym : ∀ a b, f a b = f b a) (hirr : ∀ a, f a a = false) (h : CoupleP (2 * m) f) :
    deg (2 * m) f 0 = m - 1 ∧ deg (2 * m) f 1 = m - 1 ∧ ∀ k, 1 ≤ k → k < m → deg (2 * m) f (2 * k) + deg (2 * m) f (2 * k + 1) = 2 * m - 2 := by
  have key := couples_law hsym hirr m (List.range (2 * m)) (by simp) List.nodup_range (by simp; omega)
    (fun a ha => by
      have := List.mem_range.1 ha
      rw [List.mem_range]
      unfold sp
      split <;> omega)
    (fun a ha => by
      have := List.mem_range.1 ha
      unfold sp
      split
      · have := h.1 (a / 2) (by omega)
        rw [show 2 * (a / 2) = a by omega] at this
        exact this
      · have := h.1 (a / 2) (by omega)
        rw [show 2 * (a / 2) = a - 1 by omega, show a - 1 + 1 = a by omega] at this
        rw [hsym]
        exact this)
    (fun a ha b hb a0 b0 e => by
      have ha := List.mem_range.1 ha
      have hb := List.mem_range.1 hb
      have hp := List.pairwise_iff_getElem.1 (List.nodup_iff_pairwise_ne.1 h.2)
      have key : ∀ a b : Nat, 0 < a → a < b → b < 2 * m → hands f (List.range (2 * m)) a = hands f (List.range (2 * m)) b → False := fun a b a0 hab hb e => by
        have := hp (a - 1) (b - 1) (by rw [toldL_length]; omega) (by rw [toldL_length]; omega) (by omega)
        rw [toldL_get, toldL_get, show a - 1 + 1 = a by omega, show b - 1 + 1 = b by omega] at this
        exact this (by unfold deg; unfold hands at e; rw [e])
      rcases Nat.lt_trichotomy a b with q | q | q
      · exact (key a b (by omega) q hb e).elim
      · exact q
      · exact (key b a (by omega) q ha e.symm).elim)
  refine ⟨key.1, key.2.1, fun k h1 h2 => ?_⟩
  have := key.2.2 (2 * k) (by rw [List.mem_range]; omega) (by omega) (by omega)
  rw [show sp (2 * k) = 2 * k + 1 by unfold sp; rw [if_pos (by omega)]] at this
  exact this
theorem deg_upper {m : Nat} {f : Nat → Nat → Bool} (hsym : ∀ a b, f a b = f b a) (hirr : ∀ a, f a a = false) (h : NoSp (2 * m) f) {a : Nat} (ha : a < 2 * m) : deg (2 * m) f a + 2 ≤ 2 * m := by
  have := hands_le (f := f) (S := List.range (2 * m)) (a := a) List.nodup_range (List.mem_range.2 ha)
    (by
      rw [List.mem_range]
      unfold sp
      split <;> omega) (hirr a)
    (by
      unfold sp
      split
      · have := h (a / 2) (by omega)
        rw [show 2 * (a / 2) = a by omega] at this
        exact this
      · have := h (a / 2) (by omega)
        rw [show 2 * (a / 2) = a - 1 by omega, show a - 1 + 1 = a by omega] at this
        rw [hsym]
        exact this)
  simpa [hands, deg] using this
/-- All numbers are told. -/
theorem told_law {m : Nat} {f : Nat → Nat → Bool} (hsym : ∀ a b, f a b = f b a) (hirr : ∀ a, f a a = false) (h : CoupleP (2 * m) f) {i : Nat} (hi : i < (sortedZ (toldL (2 * m) f)).length) : (sortedZ (toldL (2 * m) f))[i] = (i : Int) := by
  have hperm := sortedZ_perm (toldL (2 * m) f)
  have hlen := hperm.length_eq
  have hnd : (sortedZ (toldL (2 * m) f)).Nodup := hperm.nodup_iff.2 h.2
  refine rising_is ?_ (fun x hx => ?_) i hi
  · have h1 := sortedZ_pairwise (toldL (2 * m) f)
    have h2 := List.nodup_iff_pairwise_ne.1 hnd
    exact (h1.and h2).imp fun ⟨a, b⟩ => by omega
  · have := hperm.mem_iff.1 hx
    obtain ⟨j, hj, rfl⟩ := List.getElem_of_mem this
    rw [toldL_get, hlen, toldL_length]
    rw [toldL_length] at hj
    have := deg_upper hsym hirr h.1 (a := j + 1) (by omega)
    omega
theorem cpF_sym (k x a b : Nat) : cpF k x a b = cpF k x b a := by simp only [cpF]; exact Bool.or_comm _ _
theorem cpF_irr (k x a : Nat) : cpF k x a a = false := by
  simp [cpF, cpF.cpOne]
theorem cpF_nosp (m : Nat) : NoSp (2 * m) (cpF m 0) := fun k _ => by
  have h1 : 2 * k / 2 = k := by omega
  have h2 : (2 * k + 1) / 2 = k := by omega
  simp [cpF, cpF.cpOne, h1, h2]
theorem cpF_nodup : ∀ m : Nat, 1 ≤ m → m ≤ 6 → (toldL (2 * m) (cpF m 0)).Nodup := by
  intro m h1 h2
  have : m = 1 ∨ m = 2 ∨ m = 3 ∨ m = 4 ∨ m = 5 ∨ m = 6 := by omega
  rcases this with rfl | rfl | rfl | rfl | rfl | rfl <;> decide
theorem toldL_congr {n : Nat} {f g : Nat → Nat → Bool} (h : ∀ a b, a < n → b < n → f a b = g a b) : toldL n f = toldL n g := by
  unfold toldL degs
  congr 1
  apply List.map_congr_left
  intro a ha
  rw [deg_congr fun x hx => h a x (List.mem_range.1 ha) hx]
theorem made_couples {m : Nat} (h1 : 1 ≤ m) (h2 : m ≤ 6) : CpP ((2 * m : Nat) : Int) (tabPairs (2 * m) (cpF m 0)) := by
  have hf : ∀ a b, a < 2 * m → b < 2 * m → fr (tabPairs (2 * m) (cpF m 0)) a b = cpF m 0 a b := fun a b ha hb => fr_tabPairs (cpF_sym m 0) (cpF_irr m 0) ha hb
  refine ⟨⟨tabPairs_good _ (by omega), by omega, by omega⟩, ?_, ?_⟩
  · intro k hk
    rw [Int.toNat_natCast] at hk
    rw [hf _ _ (by omega) (by omega)]
    exact cpF_nosp m k hk
  · rw [Int.toNat_natCast, toldL_congr hf]
    exact cpF_nodup m h1 h2
end Go.Proofs.Ythkmbfifiojmhaa
