/- Choices drawn from bytes: what is known of them. -/
import Derived.Test.YthkmbfifiojmhaaT5
import Derived.Test.YthkmbfifiojmhaaAbs4
set_option linter.unusedSimpArgs false
set_option linter.unusedVariables false
set_option maxRecDepth 100000
namespace Go.Proofs.Ythkmbfifiojmhaa
open Go.Abs
variable {w0 : World} {H : Heap}
theorem next_ok (bc m : Nat) (c : List AV) (hm : m < 2 ^ 40) (hbc : bc < H.n) (hg : H.get bc = some (.cells c true)) (hC : CurOk c m) : ACall Try.prog w0 72 [.ptr (some bc) 0] H fun v H' => ∃ c, H' = H.put bc c ∧ CurOk c (m + 1) ∧ ∃ r, v = .int .i64 r ∧ 0 ≤ r ∧ r < 256 := by
  obtain ⟨l, pos, s, rfl, hl, p1, p2, hll, hs1, hs2⟩ := hC
  simp only [curC] at hg
  refine ACall.enterC hbc mix Try.func72 (by kernel_rfl) fun hw => ?_
  simp (disch := first | omega | (simp only [n_alloc, n_put, n_kill, n_allocT, n_tabH, n_less]; omega) | (simp; done) | fail) [Try.f72]
  refine run_any plan72_2 (by kernel_rfl) ?_
  simp (disch := first | omega | (simp only [n_alloc, n_put, n_kill, n_allocT, n_tabH, n_less]; omega) | (simp; done) | fail) [plan72_2, hg]
  refine cP (fun h => ?_) fun h => ?_
  · refine run_any plan72_3 (by kernel_rfl) ?_
    have hlt : pos.toNat < l.length := by omega
    have hx := hl l[pos.toNat] (List.getElem_mem hlt)
    have hcx : IntKind.i64.wrap l[pos.toNat] = l[pos.toNat] := wrap64 (by omega) (by omega)
    simp (disch := first | omega | (simp only [n_alloc, n_put, n_kill, n_allocT, n_tabH, n_less]; omega) | (simp; done) | fail) [plan72_3, hg, hcx]
    generalize hq : IntKind.u64.wrap (IntKind.u64.wrap (IntKind.u64.wrap (s * 6364136223846793005) + IntKind.u64.wrap l[pos.toNat]) + 1442695040888963407) = q
    have hqb : 0 ≤ q ∧ q < 18446744073709551616 := by rw [← hq]; exact valid_u64 _
    have hC' : CurOk (curC l (pos + 1) q) (m + 1) := ⟨l, pos + 1, q, rfl, hl, by omega, by omega, hll, hqb⟩
    refine run_any plan72_6 (by kernel_rfl) ?_
    simp (disch := first | omega | (simp only [n_alloc, n_put, n_kill, n_allocT, n_tabH, n_less]; omega) | (simp; done) | fail) [plan72_6]
    refine cP (fun h2 => ?_) fun h2 => ?_
    · simp (disch := first | omega | (simp only [n_alloc, n_put, n_kill, n_allocT, n_tabH, n_less]; omega) | (simp; done) | fail)
      exact DoneC.flat get_put_new hC' (keep_put (Keep.refl _ _) (.inr rfl)) rfl ⟨hC', _, rfl, hx⟩
    · simp (disch := first | omega | (simp only [n_alloc, n_put, n_kill, n_allocT, n_tabH, n_less]; omega) | (simp; done) | fail)
      exact DoneC.flat get_put_new hC' (keep_put (Keep.refl _ _) (.inr rfl)) rfl ⟨hC', _, rfl, by first | exact low8 hqb | exact low8' hqb⟩
  · have hpw : IntKind.i64.wrap (pos + 1) = pos + 1 := wrap64 (by omega) (by omega)
    simp (disch := first | omega | (simp only [n_alloc, n_put, n_kill, n_allocT, n_tabH, n_less]; omega) | (simp; done) | fail) [hg, hpw]
    generalize hq : IntKind.u64.wrap (IntKind.u64.wrap (IntKind.u64.wrap (s * 6364136223846793005) + IntKind.u64.wrap 0) + 1442695040888963407) = q
    have hqb : 0 ≤ q ∧ q < 18446744073709551616 := by rw [← hq]; exact valid_u64 _
    have hC' : CurOk (curC l (pos + 1) q) (m + 1) := ⟨l, pos + 1, q, rfl, hl, by omega, by omega, hll, hqb⟩
    refine run_any plan72_6 (by kernel_rfl) ?_
    simp (disch := first | omega | (simp only [n_alloc, n_put, n_kill, n_allocT, n_tabH, n_less]; omega) | (simp; done) | fail) [plan72_6]
    refine cP (fun h2 => ?_) fun h2 => ?_
    · simp (disch := first | omega | (simp only [n_alloc, n_put, n_kill, n_allocT, n_tabH, n_less]; omega) | (simp; done) | fail)
      exact DoneC.flat get_put_new hC' (keep_put (Keep.refl _ _) (.inr rfl)) rfl ⟨hC', _, rfl, by omega⟩
    · simp (disch := first | omega | (simp only [n_alloc, n_put, n_kill, n_allocT, n_tabH, n_less]; omega) | (simp; done) | fail)
      exact DoneC.flat get_put_new hC' (keep_put (Keep.refl _ _) (.inr rfl)) rfl ⟨hC', _, rfl, by first | exact low8 hqb | exact low8' hqb⟩
theorem pick_ok (bc m : Nat) (c : List AV) (n : Int) (hn : n < 2 ^ 20) (hm : m < 2 ^ 39) (hbc : bc < H.n) (hg : H.get bc = some (.cells c true)) (hC : CurOk c m) : ACall Try.prog w0 43 [.ptr (some bc) 0, .int .i64 n] H fun v H' => ∃ c, H' = H.put bc c ∧ CurOk c (m + 2) ∧ ∃ r, v = .int .i64 r ∧ 0 ≤ r ∧ (r < n ∨ r = 0) := by
  refine ACall.enterC hbc mix Try.func43 (by kernel_rfl) fun hw => ?_
  simp (disch := first | omega | (simp only [n_alloc, n_put, n_kill, n_allocT, n_tabH, n_less]; omega) | (simp; done) | fail) [Try.f43]
  refine cP (fun h => ?_) fun h => ?_
  · simp (disch := first | omega | (simp only [n_alloc, n_put, n_kill, n_allocT, n_tabH, n_less]; omega) | (simp; done) | fail)
    exact DoneC.flat hg hC (Keep.refl _ _) rfl ⟨hC.mono (by omega), _, rfl, by omega⟩
  · simp (disch := first | omega | (simp only [n_alloc, n_put, n_kill, n_allocT, n_tabH, n_less]; omega) | (simp; done) | fail)
    refine call_of (next_ok bc m c (by omega) hbc hg hC) fun v H1 hw1 ⟨c1, he1, hC1, r, hv, hr⟩ => ?_
    subst hv he1
    simp (disch := first | omega | (simp only [n_alloc, n_put, n_kill, n_allocT, n_tabH, n_less]; omega) | (simp; done) | fail)
    refine cP (fun h2 => ?_) fun h2 => ?_
    · simp (disch := first | omega | (simp only [n_alloc, n_put, n_kill, n_allocT, n_tabH, n_less]; omega) | (simp; done) | fail)
      refine call_of (next_ok bc (m + 1) c1 (by omega) (by (first | omega | (simp only [n_alloc, n_put, n_kill, n_allocT, n_tabH, n_less]; omega))) get_put_new hC1) fun v H2 hw2 ⟨c2, he2, hC2, r2, hv, hr2⟩ => ?_
      subst hv he2
      simp (disch := first | omega | (simp only [n_alloc, n_put, n_kill, n_allocT, n_tabH, n_less]; omega) | (simp; done) | fail)
      have ht := Int.tmod_lt_of_pos (r * 256 + r2) (show (0 : Int) < n by omega)
      have h0 := Int.tmod_nonneg n (show (0 : Int) ≤ r * 256 + r2 by omega)
      exact DoneC.flat get_put_new hC2 (keep_put (Keep.refl _ _) (.inr rfl)) rfl ⟨hC2, _, rfl, h0, .inl ht⟩
    · simp (disch := first | omega | (simp only [n_alloc, n_put, n_kill, n_allocT, n_tabH, n_less]; omega) | (simp; done) | fail)
      have ht := Int.tmod_lt_of_pos r (show (0 : Int) < n by omega)
      have h0 := Int.tmod_nonneg n hr.1
      exact DoneC.flat get_put_new hC1 (keep_put (Keep.refl _ _) (.inr rfl)) rfl ⟨hC1.mono (by omega), _, rfl, h0, .inl ht⟩
theorem one_ok (bc m : Nat) (c : List AV) (n : Int) (hn : n < 2 ^ 20) (hm : m < 2 ^ 39) (hbc : bc < H.n) (hg : H.get bc = some (.cells c true)) (hC : CurOk c m) : ACall Try.prog w0 41 [.ptr (some bc) 0, .int .i64 n] H fun v H' => ∃ c, H' = H.put bc c ∧ CurOk c (m + 2) ∧ AnyB v := by
  refine ACall.enterC hbc mix Try.func41 (by kernel_rfl) fun hw => ?_
  simp (disch := first | omega | (simp only [n_alloc, n_put, n_kill, n_allocT, n_tabH, n_less]; omega) | (simp; done) | fail) [Try.f41]
  refine call_of (pick_ok bc m c n hn hm hbc hg hC) fun v H1 hw1 ⟨c1, he1, hC1, r, hv, hr⟩ => ?_
  subst hv he1
  simp (disch := first | omega | (simp only [n_alloc, n_put, n_kill, n_allocT, n_tabH, n_less]; omega) | (simp; done) | fail)
  exact DoneC.flat get_put_new hC1 (keep_put (Keep.refl _ _) (.inr rfl)) rfl ⟨hC1, _, rfl⟩
theorem among_ok (bc m : Nat) (c : List AV) (l : List Int) (hl : 0 < l.length) (hl2 : l.length < 2 ^ 20) (hm : m < 2 ^ 39) (hbc : bc < H.n) (hg : H.get bc = some (.cells c true)) (hC : CurOk c m) : ACall Try.prog w0 54 [.ptr (some bc) 0, intsT l] H fun v H' => ∃ c, H' = H.put bc c ∧ CurOk c (m + 2) ∧ ∃ r, v = .int .i64 r ∧ r ∈ l := by
  refine ACall.enterC hbc mix Try.func54 (by kernel_rfl) fun hw => ?_
  simp (disch := first | omega | (simp only [n_alloc, n_put, n_kill, n_allocT, n_tabH, n_less]; omega) | (simp; done) | fail) [Try.f54]
  refine call_of (pick_ok bc m c l.length (by omega) hm hbc hg hC) fun v H1 hw1 ⟨c1, he1, hC1, r, hv, hr0, hr1⟩ => ?_
  subst hv he1
  have hlt : r.toNat < l.length := by omega
  simp (disch := first | omega | (simp only [n_alloc, n_put, n_kill, n_allocT, n_tabH, n_less]; omega) | (simp; done) | fail)
  exact DoneC.flat get_put_new hC1 (keep_put (Keep.refl _ _) (.inr rfl)) rfl ⟨hC1, _, rfl, List.getElem_mem hlt⟩
end Go.Proofs.Ythkmbfifiojmhaa
