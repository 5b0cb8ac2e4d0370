/- Lists made compact; lists compared. -/
import Derived.Test.YthkmbfifiojmhaaT10
set_option linter.unusedSimpArgs false
set_option linter.unusedVariables false
set_option maxRecDepth 100000
namespace Go.Proofs.Ythkmbfifiojmhaa
open Go.Abs
variable {w0 : World} {H : Heap}
theorem clear_own {P : Program} {n0 len : Nat} {b : Option Nat} {off k : Nat} {cap cap2 : Option Nat} {cs : List AV} {t e : TypeId} {K : AV → Heap → Prop} {by' : Nat} (hO : OwnAt n0 H b off len 1 cap cs) (hk : k ≤ len) (ht : P.tk t = .slice e 1) (hz : P.bz e = some (by', .int .i64 0))
    (hK : ∀ H', Keep b H H' → Run (K (.tuple []) H')) : clearA P t (.slice b (off + k) (len - k) 1 cap2) H K := by
  unfold clearA
  rw [ht]
  simp only
  by_cases h0 : len - k = 0
  · rw [if_pos h0]
    exact hK _ (Keep.refl _ _)
  · rw [if_neg h0]
    rcases hO.row with ⟨_, e1, _⟩ | ⟨b', cs', rfl, h2, h3, h4, h5, h6, h7⟩
    · omega
    · rw [hz]
      simp only [h4]
      refine ⟨rfl, rfl, by omega, hK _ ⟨Nat.le_refl _, fun c hc hne => by rw [get_put_old (fun e => hne (by rw [e]))]⟩⟩
/-- No two beside each other are the same. -/
def Adj (l : List Int) : Prop := ∀ i (h : i + 1 < l.length), l[i] ≠ l[i + 1]
theorem compact_ok (n0 : Nat) (l : List Int) (b : Option Nat) (off : Nat) (cap : Option Nat) (hl : l.length < 2 ^ 31) (hO : OwnAt n0 H b off l.length 1 cap (ints l)) :
    ACall Try.prog w0 76 [.slice b off l.length 1 cap] H fun v H' => Keep b H H' ∧ ∃ k cap', v = .slice b off k 1 cap' ∧ k ≤ l.length ∧ (k = l.length ↔ Adj l) := by
  refine ACall.enterW mix Try.func76 (by kernel_rfl) fun hw => ?_
  simp (disch := first | omega | (simp only [n_alloc, n_put, n_kill, n_allocT, n_tabH, n_less]; omega) | (simp; done) | fail) [Try.f76]
  refine cP (fun h => ?_) fun h => ?_
  · simp (disch := first | omega | (simp only [n_alloc, n_put, n_kill, n_allocT, n_tabH, n_less]; omega) | (simp; done) | fail)
    intro i hi
    omega
  · simp (disch := first | omega | (simp only [n_alloc, n_put, n_kill, n_allocT, n_tabH, n_less]; omega) | (simp; done) | fail)
    refine run_for l.length (fun k E H' => H' = H ∧ 1 ≤ k ∧ E 0 = .slice b off l.length 1 cap ∧ E 3 = .int .i64 k ∧ ∀ i (h : i + 1 < k) (h' : i + 1 < l.length), l[i] ≠ l[i + 1]) 1 (by omega) ?_ ?_
    · simp (disch := first | omega | (simp only [n_alloc, n_put, n_kill, n_allocT, n_tabH, n_less]; omega) | (simp; done) | fail)
    · rintro k E H' hw' hk ⟨rfl, h1, h0, h3, hc⟩
      simp (disch := first | omega | (simp only [n_alloc, n_put, n_kill, n_allocT, n_tabH, n_less]; omega) | (simp; done) | fail) [h0, h3]
      refine cP (fun g => ?_) fun g => ?_
      · have e1 : ((k : Int) - 1).toNat = k - 1 := by omega
        simp (disch := first | omega | (simp only [n_alloc, n_put, n_kill, n_allocT, n_tabH, n_less]; omega) | (simp; done) | fail) [h0, h3]
        refine run_any plan76_6 (by kernel_rfl) ?_
        simp (disch := first | omega | (simp only [n_alloc, n_put, n_kill, n_allocT, n_tabH, n_less]; omega) | (simp; done) | fail) [plan76_6, h0, h3, g, e1, hO.toRow.int]
        refine cP (fun q => ?_) fun q => ?_
        · simp (disch := first | omega | (simp only [n_alloc, n_put, n_kill, n_allocT, n_tabH, n_less]; omega) | (simp; done) | fail) [h0, h3, g]
          have hnot : ¬ Adj l := fun ha => ha (k - 1) (by omega) (by rw [← q]; congr 1; omega)
          refine run_for (l.length - k) (fun j E H2 => 1 ≤ j ∧ Keep b H' H2 ∧ E 0 = .slice b off l.length 1 cap ∧ E 4 = .slice b (off + k) (l.length - k) 1 (cap.map (· - k)) ∧ E 5 = .int .i64 j ∧ (∃ m : Nat, E 3 = .int .i64 m ∧ m + 1 ≤ k + j) ∧ ∃ l' : List Int, l'.length = l.length ∧ OwnAt n0 H2 b off l.length 1 cap (ints l')) 1 (by omega) ?_ ?_
          · simp (disch := first | omega | (simp only [n_alloc, n_put, n_kill, n_allocT, n_tabH, n_less]; omega) | (simp; done) | fail) [h0, h3]
            exact ⟨⟨k, rfl, by omega⟩, l, rfl, hO⟩
          · rintro j E H' hw' hj ⟨hj1, hk', h0, h4, h5, ⟨m, h3, hm⟩, l', hl', hO'⟩
            simp (disch := first | omega | (simp only [n_alloc, n_put, n_kill, n_allocT, n_tabH, n_less]; omega) | (simp; done) | fail) [h0, h4, h5, h3]
            refine cP (fun g' => ?_) fun g' => ?_
            · have e2 : ((j : Int) - 1).toNat = j - 1 := by omega
              simp (disch := first | omega | (simp only [n_alloc, n_put, n_kill, n_allocT, n_tabH, n_less]; omega) | (simp; done) | fail) [h0, h4, h5, h3]
              refine run_any plan76_11 (by kernel_rfl) ?_
              have r1 : ∀ x : Nat, x < l.length - k → loadA Try.prog H' 3 (.ptr b (off + k + x)) = some (.int .i64 (l'[k + x]?.getD 0)) := fun x hx => by
                rw [Nat.add_assoc, hO'.toRow.int (by simp) (by omega)]
                simp [show k + x < l'.length by omega]
              simp (disch := first | omega | (simp only [n_alloc, n_put, n_kill, n_allocT, n_tabH, n_less]; omega) | (simp; done) | fail) [plan76_11, h0, h4, h5, h3, g', e2, r1]
              refine cN (fun q' => ?_) fun q' => ?_
              · simp (disch := first | omega | (simp only [n_alloc, n_put, n_kill, n_allocT, n_tabH, n_less]; omega) | (simp; done) | fail) [h0, h4, h5, h3, g', r1]
                refine store_own (by simp) hO' (by simp; omega) (by simp) (by simp) fun H2 hO2 hk2 _ => ?_
                rw [cells_int, splice_ints (by omega)] at hO2
                simp (disch := first | omega | (simp only [n_alloc, n_put, n_kill, n_allocT, n_tabH, n_less]; omega) | (simp; done) | fail) [h0, h4, h5, h3]
                exact ⟨hk'.trans hk2, ⟨m + 1, by simp, by omega⟩, _, by simp [hl'], hO2⟩
              · simp (disch := first | omega | (simp only [n_alloc, n_put, n_kill, n_allocT, n_tabH, n_less]; omega) | (simp; done) | fail) [h0, h4, h5, h3]
                exact ⟨hk', ⟨m, rfl, by omega⟩, l', hl', hO'⟩
            · simp (disch := first | omega | (simp only [n_alloc, n_put, n_kill, n_allocT, n_tabH, n_less]; omega) | (simp; done) | fail) [h0, h3]
              refine clear_own hO' (by omega) (tk25) (bz3) fun H3 hk3 => ?_
              simp (disch := first | omega | (simp only [n_alloc, n_put, n_kill, n_allocT, n_tabH, n_less]; omega) | (simp; done) | fail) [h0, h3]
              exact ⟨hk'.trans hk3, by omega, fun e => by omega, fun ha => absurd ha hnot⟩
        · simp (disch := first | omega | (simp only [n_alloc, n_put, n_kill, n_allocT, n_tabH, n_less]; omega) | (simp; done) | fail) [h0, h3]
          intro i hi hi'
          rcases Nat.lt_or_ge (i + 1) k with hlt | hge
          · exact hc i hlt hi'
          · obtain rfl : i = k - 1 := by omega
            intro e
            exact q (by rw [e]; congr 1; omega)
      · simp (disch := first | omega | (simp only [n_alloc, n_put, n_kill, n_allocT, n_tabH, n_less]; omega) | (simp; done) | fail) [h0]
        intro i hi
        exact hc i (by omega) hi
theorem vSame_ok (a b : List Int) (hl : a.length < 2 ^ 31) (hl2 : b.length < 2 ^ 31) : PCall Try.prog 23 [intsT a, intsT b] (IsB (a = b)) := by
  refine PCall.run mix Try.func23 (by kernel_rfl) fun w0 H hw => ?_
  simp (disch := first | omega | (simp only [n_alloc, n_put, n_kill, n_allocT, n_tabH, n_less]; omega) | (simp; done) | fail) [Try.f23]
  refine cN (fun h => ?_) fun h => ?_
  · simp (disch := first | omega | (simp only [n_alloc, n_put, n_kill, n_allocT, n_tabH, n_less]; omega) | (simp; done) | fail)
    exact Done.no (Ext.refl _) fun e => by subst e; omega
  · simp (disch := first | omega | (simp only [n_alloc, n_put, n_kill, n_allocT, n_tabH, n_less]; omega) | (simp; done) | fail)
    refine run_for a.length (fun i E H' => H' = H ∧ E 0 = intsT a ∧ E 1 = intsT b ∧ E 12 = .int .i64 a.length ∧ E 13 = .int .i64 i ∧ ∀ j (h : j < i) (h1 : j < a.length) (h2 : j < b.length), a[j] = b[j]) 0 (Nat.zero_le _) ?_ ?_
    · simp (disch := first | omega | (simp only [n_alloc, n_put, n_kill, n_allocT, n_tabH, n_less]; omega) | (simp; done) | fail)
    · rintro i E H' _ hi ⟨rfl, h0, h1, h12, h13, hc⟩
      simp (disch := first | omega | (simp only [n_alloc, n_put, n_kill, n_allocT, n_tabH, n_less]; omega) | (simp; done) | fail) [h0, h1, h12, h13]
      refine cP (fun g => ?_) fun g => ?_
      · simp (disch := first | omega | (simp only [n_alloc, n_put, n_kill, n_allocT, n_tabH, n_less]; omega) | (simp; done) | fail) [h0, h1, h12, h13]
        refine run_any plan23_6 (by kernel_rfl) ?_
        simp (disch := first | omega | (simp only [n_alloc, n_put, n_kill, n_allocT, n_tabH, n_less]; omega) | (simp; done) | fail) [plan23_6, h0, h1, h12, h13, g]
        refine cN (fun q => ?_) fun q => ?_
        · simp (disch := first | omega | (simp only [n_alloc, n_put, n_kill, n_allocT, n_tabH, n_less]; omega) | (simp; done) | fail)
          refine Done.no (Ext.refl _) fun e => ?_
          subst e
          exact q rfl
        · simp (disch := first | omega | (simp only [n_alloc, n_put, n_kill, n_allocT, n_tabH, n_less]; omega) | (simp; done) | fail) [h0, h1, h12, h13]
          intro j hj h1 h2
          rcases Nat.lt_or_ge j i with hlt | hge
          · exact hc j hlt h1 h2
          · obtain rfl : j = i := by omega
            exact q
      · simp (disch := first | omega | (simp only [n_alloc, n_put, n_kill, n_allocT, n_tabH, n_less]; omega) | (simp; done) | fail)
        refine Done.yes (Ext.refl _) (List.ext_getElem (by omega) fun j h1 h2 => hc j (by omega) h1 h2)
theorem neq_pair {P : Program} {t : TypeId} {a b c d : Int} (h : P.eqPlain t = some 2) : binA P .neq t (.agg [.int .i64 a, .int .i64 b]) (.agg [.int .i64 c, .int .i64 d]) = some (.bool (!decide ((a, b) = (c, d)))) := by
  by_cases h1 : a = c <;> by_cases h2 : b = d <;> simp [binA, h, eqCells, AV.plain, h1, h2]
theorem eql_pair {P : Program} {t : TypeId} {a b c d : Int} (h : P.eqPlain t = some 2) : binA P .eql t (.agg [.int .i64 a, .int .i64 b]) (.agg [.int .i64 c, .int .i64 d]) = some (.bool (decide ((a, b) = (c, d)))) := by
  by_cases h1 : a = c <;> by_cases h2 : b = d <;> simp [binA, h, eqCells, AV.plain, h1, h2]
theorem vPairs_ok (a b : List (Int × Int)) (hl : a.length < 2 ^ 31) (hl2 : b.length < 2 ^ 31) : PCall Try.prog 60 [pairsT a, pairsT b] (IsB (a = b)) := by
  refine PCall.run mix Try.func60 (by kernel_rfl) fun w0 H hw => ?_
  simp (disch := first | omega | (simp only [n_alloc, n_put, n_kill, n_allocT, n_tabH, n_less]; omega) | (simp; done) | fail) [Try.f60]
  refine cN (fun h => ?_) fun h => ?_
  · simp (disch := first | omega | (simp only [n_alloc, n_put, n_kill, n_allocT, n_tabH, n_less]; omega) | (simp; done) | fail)
    exact Done.no (Ext.refl _) fun e => by subst e; omega
  · simp (disch := first | omega | (simp only [n_alloc, n_put, n_kill, n_allocT, n_tabH, n_less]; omega) | (simp; done) | fail)
    refine run_for a.length (fun i E H' => H' = H ∧ E 0 = pairsT a ∧ E 1 = pairsT b ∧ E 12 = .int .i64 a.length ∧ E 13 = .int .i64 i ∧ ∀ j (h : j < i) (h1 : j < a.length) (h2 : j < b.length), a[j] = b[j]) 0 (Nat.zero_le _) ?_ ?_
    · simp (disch := first | omega | (simp only [n_alloc, n_put, n_kill, n_allocT, n_tabH, n_less]; omega) | (simp; done) | fail)
    · rintro i E H' _ hi ⟨rfl, h0, h1, h12, h13, hc⟩
      simp (disch := first | omega | (simp only [n_alloc, n_put, n_kill, n_allocT, n_tabH, n_less]; omega) | (simp; done) | fail) [h0, h1, h12, h13]
      refine cP (fun g => ?_) fun g => ?_
      · simp (disch := first | omega | (simp only [n_alloc, n_put, n_kill, n_allocT, n_tabH, n_less]; omega) | (simp; done) | fail) [h0, h1, h12, h13]
        refine run_any plan60_6 (by kernel_rfl) ?_
        simp (disch := first | omega | (simp only [n_alloc, n_put, n_kill, n_allocT, n_tabH, n_less]; omega) | (simp; done) | fail) [plan60_6, h0, h1, h12, h13, g]
        rw [neq_pair (by simp (disch := first | omega | (simp only [n_alloc, n_put, n_kill, n_allocT, n_tabH, n_less]; omega) | (simp; done) | fail))]
        generalize hq : decide ((a[i].1, a[i].2) = (b[i].1, b[i].2)) = r
        have hr : r = true ↔ a[i] = b[i] := by rw [← hq]; simp [Prod.ext_iff]
        simp (disch := first | omega | (simp only [n_alloc, n_put, n_kill, n_allocT, n_tabH, n_less]; omega) | (simp; done) | fail)
        refine cNB (fun q => ?_) fun q => ?_
        · simp (disch := first | omega | (simp only [n_alloc, n_put, n_kill, n_allocT, n_tabH, n_less]; omega) | (simp; done) | fail)
          refine Done.no (Ext.refl _) fun e => ?_
          subst e
          simp_all
        · simp (disch := first | omega | (simp only [n_alloc, n_put, n_kill, n_allocT, n_tabH, n_less]; omega) | (simp; done) | fail) [h0, h1, h12, h13]
          intro j hj h1 h2
          rcases Nat.lt_or_ge j i with hlt | hge
          · exact hc j hlt h1 h2
          · obtain rfl : j = i := by omega
            exact hr.1 q
      · simp (disch := first | omega | (simp only [n_alloc, n_put, n_kill, n_allocT, n_tabH, n_less]; omega) | (simp; done) | fail)
        refine Done.yes (Ext.refl _) (List.ext_getElem (by omega) fun j h1 h2 => hc j (by omega) h1 h2)
theorem vParty_ok (n m : Int) (a b : List (Int × Int)) (hl : a.length < 2 ^ 31) (hl2 : b.length < 2 ^ 31) : PCall Try.prog 28 [partyT n a, partyT m b] (IsB (n = m ∧ a = b)) := by
  refine PCall.run mix Try.func28 (by kernel_rfl) fun w0 H hw => ?_
  simp (disch := first | omega | (simp only [n_alloc, n_put, n_kill, n_allocT, n_tabH, n_less]; omega) | (simp; done) | fail) [Try.f28]
  refine box_f rfl ?_
  simp (disch := first | omega | (simp only [n_alloc, n_put, n_kill, n_allocT, n_tabH, n_less]; omega) | (simp; done) | fail)
  refine box_f rfl ?_
  simp (disch := first | omega | (simp only [n_alloc, n_put, n_kill, n_allocT, n_tabH, n_less]; omega) | (simp; done) | fail)
  refine gP (fun h => ?_) fun h => ?_
  · simp (disch := first | omega | (simp only [n_alloc, n_put, n_kill, n_allocT, n_tabH, n_less]; omega) | (simp; done) | fail) [h]
    refine run_pureB (vPairs_ok a b hl hl2) fun r hr => ?_
    simp (disch := first | omega | (simp only [n_alloc, n_put, n_kill, n_allocT, n_tabH, n_less]; omega) | (simp; done) | fail) [h]
    exact Done.iff (Ext.refl _) (by simp [h, hr])
  · simp (disch := first | omega | (simp only [n_alloc, n_put, n_kill, n_allocT, n_tabH, n_less]; omega) | (simp; done) | fail) [h]
    exact Done.iff (Ext.refl _) (by simp [h])
/-- A number put into its place, unless it is there. -/
def putZ (l : List Int) (x : Int) : List Int := if x ∈ l then l else l.takeWhile (· < x) ++ x :: l.dropWhile (· < x)
end Go.Proofs.Ythkmbfifiojmhaa
