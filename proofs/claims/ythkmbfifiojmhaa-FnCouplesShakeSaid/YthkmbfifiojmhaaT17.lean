/- A party renamed. -/
import Derived.Test.YthkmbfifiojmhaaT16
set_option linter.unusedSimpArgs false
set_option linter.unusedVariables false
set_option maxRecDepth 100000
namespace Go.Proofs.Ythkmbfifiojmhaa
open Go.Abs
variable {w0 : World} {H : Heap}
theorem tabPairs_mem {n : Nat} {f : Nat → Nat → Bool} {p : Int × Int} : p ∈ tabPairs n f ↔ ∃ a b : Nat, p = ((a : Int), (b : Int)) ∧ a < b ∧ b < n ∧ f a b = true := by
  simp only [tabPairs, tabTo, List.mem_flatMap, List.mem_range, rowPairs, List.mem_map, List.mem_filter, Bool.and_eq_true, decide_eq_true_eq]
  constructor
  · rintro ⟨a, ha, b, ⟨hb, hab, hf⟩, rfl⟩
    exact ⟨a, b, rfl, hab, hb, hf⟩
  · rintro ⟨a, b, rfl, hab, hb, hf⟩
    exact ⟨a, by omega, b, ⟨hb, hab, hf⟩, rfl⟩
theorem tabPairs_sorted (n : Nat) (f : Nat → Nat → Bool) : (tabPairs n f).Pairwise PLess := by
  unfold tabPairs tabTo
  rw [List.pairwise_flatMap]
  refine ⟨fun a _ => ?_, ?_⟩
  · unfold rowPairs
    rw [List.pairwise_map]
    refine List.Pairwise.imp ?_ (List.pairwise_lt_range.filter _)
    intro x y h
    exact .inr ⟨rfl, by simpa using h⟩
  · refine List.Pairwise.imp ?_ List.pairwise_lt_range
    intro a b h x hx y hy
    simp only [rowPairs, List.mem_map] at hx hy
    obtain ⟨_, _, rfl⟩ := hx
    obtain ⟨_, _, rfl⟩ := hy
    exact .inl (by simpa using h)
theorem tabPairs_good {n : Nat} (f : Nat → Nat → Bool) (hn : n ≤ 12) : GoodP n (tabPairs n f) := by
  refine ⟨by omega, fun i hi => ?_⟩
  have hb := tabPairs_bd (List.getElem_mem hi)
  refine ⟨hb.1, hb.2.1, hb.2.2, fun h0 => ?_⟩
  exact List.pairwise_iff_getElem.1 (tabPairs_sorted n f) (i - 1) i (by omega) hi (by omega)
theorem tabPairs_small {n : Nat} (f : Nat → Nat → Bool) (hn : n ≤ 12) : (tabPairs n f).length < 2 ^ 31 := by
  have := tabTo_len n f n
  have : n * n ≤ 144 := Nat.le_trans (Nat.mul_le_mul hn hn) (by omega)
  simp only [tabPairs]; omega
/-- Friends of a party made from a table. -/
theorem fr_tabPairs {n : Nat} {f : Nat → Nat → Bool} (hs : ∀ a b, f a b = f b a) (hd : ∀ a, f a a = false) {a b : Nat} (ha : a < n) (hb : b < n) : fr (tabPairs n f) a b = f a b := by
  rw [Bool.eq_iff_iff]
  simp only [fr, List.any_eq_true, Bool.or_eq_true, Bool.and_eq_true, beq_iff_eq]
  constructor
  · rintro ⟨p, hp, h⟩
    obtain ⟨x, y, rfl, h1, h2, h3⟩ := tabPairs_mem.1 hp
    simp only at h
    rcases h with ⟨e1, e2⟩ | ⟨e1, e2⟩
    · have e1 : x = a := by omega
      have e2 : y = b := by omega
      subst e1 e2
      exact h3
    · have e1 : x = b := by omega
      have e2 : y = a := by omega
      subst e1 e2
      rw [hs]
      exact h3
  · intro h
    rcases Nat.lt_trichotomy a b with hab | hab | hab
    · exact ⟨_, tabPairs_mem.2 ⟨a, b, rfl, hab, hb, h⟩, .inl ⟨rfl, rfl⟩⟩
    · subst hab
      rw [hd] at h
      cases h
    · exact ⟨_, tabPairs_mem.2 ⟨b, a, rfl, hab, ha, by rw [hs]; exact h⟩, .inr ⟨rfl, rfl⟩⟩
theorem paRename_ok (n : Nat) (ps : List (Int × Int)) (l : List Int) (hg : GoodP n ps) (hl : ps.length < 2 ^ 31) (hn1 : l.length = n) (hL : ∀ x ∈ l, 0 ≤ x ∧ x < n) : PCall Try.prog 44 [partyT n ps, intsT l] SomeP := by
  have hn := hg.1
  refine PCall.run mix Try.func44 (by kernel_rfl) fun w0 H hw => ?_
  simp (disch := first | omega | (simp only [n_alloc, n_put, n_kill, n_allocT, n_tabH, n_less]; omega) | (simp; done) | fail) [Try.f44]
  refine box_f rfl ?_
  simp (disch := first | omega | (simp only [n_alloc, n_put, n_kill, n_allocT, n_tabH, n_less]; omega) | (simp; done) | fail)
  refine run_pure (paTable_ok n ps hg hl) fun v hv => ?_
  subst hv
  simp (disch := first | omega | (simp only [n_alloc, n_put, n_kill, n_allocT, n_tabH, n_less]; omega) | (simp; done) | fail)
  refine call_of (paTable0_ok n (by omega) 1) fun v H1 hw1 ⟨hv, he1⟩ => ?_
  subst hv he1
  simp (disch := first | omega | (simp only [n_alloc, n_put, n_kill, n_allocT, n_tabH, n_less]; omega) | (simp; done) | fail) [tabT]
  refine run_for n (fun a E H' => ∃ f, H' = tabH (H.alloc [.int .i64 0, .slice none 0 0 1 (some 0)]) n f ∧ E 1 = intsT l ∧ E 4 = .ptr (some H.n) 0 ∧ E 5 = tabT n (fr ps) ∧ E 6 = tabO (H.n + 1) n ∧ E 16 = .int .i64 n ∧ E 17 = .int .i64 a) 0 (Nat.zero_le _) ?_ ?_
  · simp (disch := first | omega | (simp only [n_alloc, n_put, n_kill, n_allocT, n_tabH, n_less]; omega) | (simp; done) | fail) [tabT]
    exact ⟨_, rfl⟩
  · rintro a E H' hw' ha ⟨f, rfl, h1, h4, h5, h6, h16, h17⟩
    simp (disch := first | omega | (simp only [n_alloc, n_put, n_kill, n_allocT, n_tabH, n_less]; omega) | (simp; done) | fail) [h1, h4, h5, h6, h16, h17]
    refine cP (fun h => ?_) fun h => ?_
    · simp (disch := first | omega | (simp only [n_alloc, n_put, n_kill, n_allocT, n_tabH, n_less]; omega) | (simp; done) | fail) [h1, h4, h5, h6, h16, h17, tabT]
      refine run_for n (fun b E H' => ∃ f, H' = tabH (H.alloc [.int .i64 0, .slice none 0 0 1 (some 0)]) n f ∧ E 1 = intsT l ∧ E 4 = .ptr (some H.n) 0 ∧ E 5 = tabT n (fr ps) ∧ E 6 = tabO (H.n + 1) n ∧ E 7 = .int .i64 a ∧ E 16 = .int .i64 n ∧ E 17 = .int .i64 a ∧ E 21 = .int .i64 n ∧ E 22 = .int .i64 b) 0 (Nat.zero_le _) ?_ ?_
      · simp (disch := first | omega | (simp only [n_alloc, n_put, n_kill, n_allocT, n_tabH, n_less]; omega) | (simp; done) | fail) [h1, h4, h5, h6, h16, h17, tabT]
        exact ⟨f, rfl⟩
      · clear hw' h1 h4 h5 h6 h16 h17
        clear f E
        rintro b E H' hw' hb ⟨f, rfl, h1, h4, h5, h6, h7, h16, h17, h21, h22⟩
        simp (disch := first | omega | (simp only [n_alloc, n_put, n_kill, n_allocT, n_tabH, n_less]; omega) | (simp; done) | fail) [h1, h4, h5, h6, h7, h16, h17, h21, h22]
        refine cP (fun g => ?_) fun g => ?_
        · simp (disch := first | omega | (simp only [n_alloc, n_put, n_kill, n_allocT, n_tabH, n_less]; omega) | (simp; done) | fail) [h1, h4, h5, h6, h7, h16, h17, h21, h22, tabT]
          refine run_any plan44_9 (by kernel_rfl) ?_
          obtain ⟨x, hx⟩ := Int.eq_ofNat_of_zero_le (hL _ (List.getElem_mem (by omega : a < l.length))).1
          obtain ⟨y, hy⟩ := Int.eq_ofNat_of_zero_le (hL _ (List.getElem_mem (by omega : b < l.length))).1
          have hxn := (hL _ (List.getElem_mem (by omega : a < l.length))).2
          have hyn := (hL _ (List.getElem_mem (by omega : b < l.length))).2
          rw [hx] at hxn
          rw [hy] at hyn
          have hget : (tabH (H.alloc [.int .i64 0, .slice none 0 0 1 (some 0)]) n f).get (H.n + 1 + x) = some (.cells (bools (rowT n (f x))) true) := tabH_get (H := H.alloc _) (by omega)
          have hput : ∀ v, (tabH (H.alloc [.int .i64 0, .slice none 0 0 1 (some 0)]) n f).put (H.n + 1 + x) (splice (bools (rowT n (f x))) y [.bool v]) = tabH (H.alloc [.int .i64 0, .slice none 0 0 1 (some 0)]) n (updT f x y v) := fun v => tabH_put (H := H.alloc _) (by omega) (by omega)
          simp (disch := first | omega | (simp only [n_alloc, n_put, n_kill, n_allocT, n_tabH, n_less]; omega) | (simp; done) | fail) [plan44_9, h1, h4, h5, h6, h7, h16, h17, h21, h22, tabO, tabT, rowV, hx, hy, hget, hput]
          exact ⟨by omega, g, _, rfl⟩
        · have : b = n := by omega
          subst this
          simp (disch := first | omega | (simp only [n_alloc, n_put, n_kill, n_allocT, n_tabH, n_less]; omega) | (simp; done) | fail) [h1, h4, h5, h6, h7, h16, h17, h21, h22]
          exact ⟨h, f, rfl⟩
    · have : a = n := by omega
      subst this
      simp (disch := first | omega | (simp only [n_alloc, n_put, n_kill, n_allocT, n_tabH, n_less]; omega) | (simp; done) | fail) [h4, h6]
      refine run_frzT (H := H.alloc [.int .i64 0, .slice none 0 0 1 (some 0)]) (wf_alloc hw) (paOf_ok a f (by omega)) fun v hv => ?_
      subst hv
      simp (disch := first | omega | (simp only [n_alloc, n_put, n_kill, n_allocT, n_tabH, n_less]; omega) | (simp; done) | fail) [h4, h6]
      exact Done.mk (r := partyT a (tabPairs a f)) hw (by rw [ext_put (by (first | omega | (simp only [n_alloc, n_put, n_kill, n_allocT, n_tabH, n_less]; omega))), ext_less (by (first | omega | (simp only [n_alloc, n_put, n_kill, n_allocT, n_tabH, n_less]; omega))) (by (first | omega | (simp only [n_alloc, n_put, n_kill, n_allocT, n_tabH, n_less]; omega))), ext_tabH (by (first | omega | (simp only [n_alloc, n_put, n_kill, n_allocT, n_tabH, n_less]; omega)))]; simp (disch := first | omega | (simp only [n_alloc, n_put, n_kill, n_allocT, n_tabH, n_less]; omega) | (simp; done) | fail)) (fun hs => Fz.same hs under_partyT) (tabPairs_some a f (by omega))
end Go.Proofs.Ythkmbfifiojmhaa
