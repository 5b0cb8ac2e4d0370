/- Tables: the program's words, the reference's rows. -/
import Derived.Test.YthkmbfifiojmhaaT2
import Derived.Test.YthkmbfifiojmhaaAbs3
set_option linter.unusedSimpArgs false
set_option linter.unusedVariables false
set_option maxRecDepth 100000
namespace Go.Proofs.Ythkmbfifiojmhaa
open Go.Abs
variable {w0 : World} {H : Heap}
/-- Are two people friends? -/
def fr (ps : List (Int × Int)) (a b : Nat) : Bool := ps.any fun p => (p.1 == (a : Int) && p.2 == (b : Int)) || (p.1 == (b : Int) && p.2 == (a : Int))
theorem fr_step (ps : List (Int × Int)) (i : Nat) (h : i < ps.length) (h0 : 0 ≤ ps[i].1) (h1 : 0 ≤ ps[i].2) :
    updT (updT (fr (ps.take i)) ps[i].1.toNat ps[i].2.toNat true) ps[i].2.toNat ps[i].1.toNat true = fr (ps.take (i + 1)) := by
  funext a b
  rw [List.take_succ_eq_append_getElem h]
  simp only [updT, fr, List.any_append, List.any_cons, List.any_nil, Bool.or_false]
  generalize ps[i] = p at *
  obtain ⟨x, y⟩ := p
  simp only at *
  have e1 : (x == (a : Int)) = decide (a = x.toNat) := by rw [Bool.eq_iff_iff]; simp; omega
  have e2 : (y == (b : Int)) = decide (b = y.toNat) := by rw [Bool.eq_iff_iff]; simp; omega
  have e3 : (x == (b : Int)) = decide (b = x.toNat) := by rw [Bool.eq_iff_iff]; simp; omega
  have e4 : (y == (a : Int)) = decide (a = y.toNat) := by rw [Bool.eq_iff_iff]; simp; omega
  rw [e1, e2, e3, e4]
  generalize List.any (List.take i ps) _ = q
  by_cases p1 : a = x.toNat <;> by_cases p2 : b = y.toNat <;> by_cases p3 : b = x.toNat <;> by_cases p4 : a = y.toNat <;> cases q <;> simp [p1, p2, p3, p4]
/-- The pairs of one person with those behind, as far as j. -/
def rowPairs (f : Nat → Nat → Bool) (a j : Nat) : List (Int × Int) := ((List.range j).filter fun b => decide (a < b) && f a b).map fun (b : Nat) => ((a : Int), (b : Int))
def tabTo (n : Nat) (f : Nat → Nat → Bool) (i : Nat) : List (Int × Int) := (List.range i).flatMap fun a => rowPairs f a n
def tabPairs (n : Nat) (f : Nat → Nat → Bool) : List (Int × Int) := tabTo n f n
theorem rowPairs_step (f : Nat → Nat → Bool) (a j : Nat) (h : a < j) : rowPairs f a (j + 1) = rowPairs f a j ++ if f a j then [((a : Int), (j : Int))] else [] := by
  unfold rowPairs
  rw [List.range_succ, List.filter_append, List.map_append]
  congr 1
  cases hf : f a j <;> simp [h, hf]
theorem rowPairs_zero (f : Nat → Nat → Bool) (a j : Nat) (h : j ≤ a + 1) : rowPairs f a j = [] := by
  unfold rowPairs
  rw [List.map_eq_nil_iff, List.filter_eq_nil_iff]
  intro b hb
  simp at hb ⊢
  omega
theorem rowPairs_len (f : Nat → Nat → Bool) (a j : Nat) : (rowPairs f a j).length ≤ j := by
  unfold rowPairs
  have := List.length_filter_le (fun b => decide (a < b) && f a b) (List.range j)
  simpa using this
theorem tabTo_step (n : Nat) (f : Nat → Nat → Bool) (i : Nat) : tabTo n f (i + 1) = tabTo n f i ++ rowPairs f i n := by
  unfold tabTo
  rw [List.range_succ, List.flatMap_append]
  simp
theorem tabTo_len (n : Nat) (f : Nat → Nat → Bool) : ∀ i, (tabTo n f i).length ≤ i * n
  | 0 => by simp [tabTo]
  | i + 1 => by
    have := tabTo_len n f i
    have := rowPairs_len f i n
    rw [tabTo_step, List.length_append, Nat.add_mul]
    omega
theorem pairs_append (a b : List (Int × Int)) : pairs (a ++ b) = pairs a ++ pairs b := by simp [pairs]
attribute [simp] wordsT
theorem has_ok (n : Nat) (f : Nat → Nat → Bool) (a b : Int) (hn : n ≤ 16) (h1 : 0 ≤ a ∧ a < n) (h2 : 0 ≤ b ∧ b < n) : PCall Try.prog 75 [wordsT n f, .int .i64 a, .int .i64 b] (IsB (f a.toNat b.toNat = true)) := by
  have hW := wordsAt_ok hn f
  have hlt : a.toNat < (wordsAt n f).length := by rw [wordsAt_length]; omega
  obtain ⟨w1, w2⟩ := hW.2 a.toNat hlt
  have w3 : wShr (wordsAt n f)[a.toNat] b.toNat < 65536 := wShr_lt w1
  refine PCall.run mix Try.func75 (by kernel_rfl) fun w0 H hw => ?_
  simp (disch := first | omega | (simp only [n_alloc, n_put, n_kill, n_allocT, n_tabH, n_less]; omega) | (simp; done) | fail) [Try.f75, wordsT, shr_u16, and_one_u16 w3, -bin_shr, -bin_and]
  refine Done.iff (Ext.refl _) ?_
  rw [decide_eq_true_eq, wOne_shr, w2]
  simp
  omega
theorem table_ok (n : Nat) (ps : List (Int × Int)) (hg : GoodP n ps) (hl : ps.length < 2 ^ 31) : ACall Try.prog w0 36 [partyT n ps] H fun v H' => v = .slice (some H.n) 0 n 1 none ∧ H' = H.alloc (u16s (wordsAt n (fr ps))) := by
  have hn := hg.1
  refine ACall.fresh (K := fun v H' => Ext H H' ∧ ∃ b off cap ws, v = .slice (some b) off n 1 cap ∧ OwnAt H.n H' (some b) off n 1 cap (u16s ws) ∧ Words n (fr ps) ws ∧ ∃ cs0, H'.get b = some (.cells cs0 true)) ?_ (flats_u16s _) (by simp) (fun v H' hw hw' ⟨he, b, off, cap, ws, e1, hO, hW, hc⟩ => ⟨he, b, off, cap, e1, by rw [hW.eq (by omega)] at hO; exact hO, hc⟩)
  refine ACall.enterW mix Try.func36 (by kernel_rfl) fun hw => ?_
  simp (disch := first | omega | (simp only [n_alloc, n_put, n_kill, n_allocT, n_tabH, n_less]; omega) | (simp; done) | fail) [Try.f36, partyT, pairsT]
  refine box_f rfl ?_
  simp (disch := first | omega | (simp only [n_alloc, n_put, n_kill, n_allocT, n_tabH, n_less]; omega) | (simp; done) | fail)
  refine make_row ?_
  simp (disch := first | omega | (simp only [n_alloc, n_put, n_kill, n_allocT, n_tabH, n_less]; omega) | (simp; done) | fail)
  refine ⟨by omega, by omega, ?_⟩
  refine run_for ps.length (fun j E H' => Ext H H' ∧ E 10 = pairsT ps ∧ E 11 = .int .i64 ps.length ∧ E 12 = .int .i64 j ∧ E 3 = .slice (some H.n) 0 n 1 (some n) ∧ ∃ ws, H'.get H.n = some (.cells (u16s ws) true) ∧ Words n (fr (ps.take j)) ws) 0 (Nat.zero_le _) ?_ ?_
  · simp (disch := first | omega | (simp only [n_alloc, n_put, n_kill, n_allocT, n_tabH, n_less]; omega) | (simp; done) | fail) [pairsT]
    exact ⟨List.replicate n 0, by rw [← u16s_zero], Words.zero⟩
  · rintro j E H' hw' hj ⟨he, h10, h11, h12, h3, ws, hg3, hW⟩
    simp (disch := first | omega | (simp only [n_alloc, n_put, n_kill, n_allocT, n_tabH, n_less]; omega) | (simp; done) | fail) [h10, h11, h12, h3, pairsT]
    refine cP (fun g => ?_) fun g => ?_
    · obtain ⟨q1, q2, q3, _⟩ := hg.2 j g
      have hA : ps[j].1.toNat < n := by omega
      have hB : ps[j].2.toNat < n := by omega
      have hWl := hW.1
      have hlt := hw' _ _ hg3
      have pA := wPow_lt (b := ps[j].2.toNat) (by omega)
      have pB := wPow_lt (b := ps[j].1.toNat) (by omega)
      have wA := (hW.2 ps[j].1.toNat (by omega)).1
      simp (disch := first | omega | (simp only [n_alloc, n_put, n_kill, n_allocT, n_tabH, n_less]; omega) | (simp; done) | fail) [h10, h11, h12, h3, g]
      refine run_any plan36_5 (by kernel_rfl) ?_
      simp (disch := first | omega | (simp only [n_alloc, n_put, n_kill, n_allocT, n_tabH, n_less]; omega) | (simp; done) | fail) [plan36_5, h10, h11, h12, h3, g, hg3, shl_u16, or_u16 wA pA, -bin_shl, -bin_or, splice_u16s]
      refine ⟨by omega, ?_⟩
      have hW2 := hW.set (by omega) hA hB
      obtain ⟨ws2, hws⟩ : ∃ ws2, ws2 = ws.set ps[j].1.toNat (wOr ws[ps[j].1.toNat] (wPow ps[j].2.toNat)) := ⟨_, rfl⟩
      rw [← hws] at hW2 ⊢
      have hlen2 := hW2.1
      have wB := (hW2.2 ps[j].2.toNat (by omega)).1
      refine run_any plan36_6 (by kernel_rfl) ?_
      simp (disch := first | omega | (simp only [n_alloc, n_put, n_kill, n_allocT, n_tabH, n_less]; omega) | (simp; done) | fail) [plan36_6, h10, h11, h12, h3, g, hg3, shl_u16, or_u16 wB pB, -bin_shl, -bin_or, splice_u16s]
      refine ⟨by omega, ?_⟩
      have hW3 := hW2.set (by omega) hB hA
      rw [fr_step ps j g (by omega) (by omega)] at hW3
      exact ⟨he, _, rfl, hW3⟩
    · have : j = ps.length := by omega
      subst this
      rw [List.take_length] at hW
      simp (disch := first | omega | (simp only [n_alloc, n_put, n_kill, n_allocT, n_tabH, n_less]; omega) | (simp; done) | fail) [h3]
      have hlt := hw' _ _ hg3
      refine ⟨he, H.n, 0, some n, ⟨rfl, rfl, rfl⟩, ws, ?_, hW, _, hg3⟩
      exact ⟨by simp [hW.1], .inr ⟨H.n, _, rfl, Nat.le_refl _, hlt, hg3, by simp [hW.1], by rw [List.drop_zero, Nat.mul_one, ← hW.1, ← u16s_len, List.take_length], fun c e => by cases e; simp [hW.1]⟩⟩
/-- The table, read alone. -/
theorem tableT_ok (n : Nat) (ps : List (Int × Int)) (hg : GoodP n ps) (hl : ps.length < 2 ^ 31) : PCall Try.prog 36 [partyT n ps] fun v => v = wordsT n (fr ps) :=
  PCall.of fun w0 H hw => (table_ok n ps hg hl).mono fun v H' ⟨h1, h2⟩ => by
    subst h1 h2
    have he : Ext H (H.alloc (u16s (wordsAt n (fr ps)))) := (Ext.refl H).alloc _
    refine ⟨he, _, Fz.row (he.sub hw) ?_ get_alloc_new (by simp) ?_, rfl⟩
    · cases hh : H.get H.n with
      | none => rfl
      | some o => have := hw _ _ hh; omega
    · rw [List.drop_zero, List.take_of_length_le (by simp)]
      exact FzL.flat (flats_u16s _)
end Go.Proofs.Ythkmbfifiojmhaa
