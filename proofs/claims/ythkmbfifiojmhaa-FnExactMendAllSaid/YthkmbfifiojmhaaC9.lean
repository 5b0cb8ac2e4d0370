/- The program's table. -/
import Derived.Test.YthkmbfifiojmhaaC7
import Derived.Test.YthkmbfifiojmhaaAbsV
set_option linter.unusedSimpArgs false
set_option linter.unusedVariables false
set_option maxRecDepth 100000
namespace Go.Proofs.Ythkmbfifiojmhaa
open Go.Abs
variable {w0 : World} {H : Heap}
theorem has_ok (va : AV) (n : Nat) (f : Nat → Nat → Bool) (a b : Int) (hn : n ≤ 16) (h1 : 0 ≤ a ∧ a < n) (h2 : 0 ≤ b ∧ b < n) (ha : WTab H va n f) : ACall Try.prog w0 75 [va, .int .i64 a, .int .i64 b] H fun v H' => H' = H ∧ v = .bool (f a.toNat b.toNat) := by
  obtain ⟨ba, oa, ca, ws, rfl, ha, hl, hW⟩ := ha
  have hlt : a.toNat < ws.length := by omega
  obtain ⟨w1, w2⟩ := hW a.toNat hlt
  have w3 : wShr ws[a.toNat] b.toNat < 65536 := wShr_lt w1
  refine ACall.enterW mix Try.func75 (by kernel_rfl) fun hw => ?_
  simp (disch := first | omega | (simp only [n_alloc, n_put, n_kill]; omega) | (simp; done) | fail) [Try.f75, ha.u16, shr_u16, and_one_u16 w3, -bin_shr, -bin_and]
  rw [Bool.eq_iff_iff, decide_eq_true_eq, wOne_shr, w2]
  simp
  omega
theorem strangers_ok (va vb : AV) (n : Nat) (f : Nat → Nat → Bool) (a : List Int) (hn : n ≤ 16) (hl : a.length < 2 ^ 31) (hr : ∀ x ∈ a, 0 ≤ x ∧ x ≤ (n : Int) - 1) (ha : WTab H va n f) (hb : RowV H vb a.length 1 (ints a)) :
    ACall Try.prog w0 67 [va, vb] H fun v H' => H' = H ∧ v = .int .i64 (strangeL f a) := by
  have ha0 := ha
  obtain ⟨ba, oa, ca, ws, rfl, _⟩ := ha0
  obtain ⟨bb, ob, cb, rfl, hb⟩ := hb
  refine ACall.enterW mix Try.func67 (by kernel_rfl) fun hw => ?_
  simp (disch := first | omega | (simp only [n_alloc, n_put, n_kill]; omega) | (simp; done) | fail) [Try.f67]
  refine run_for a.length (fun i E H' => H' = H ∧ E 0 = .slice ba oa n 1 ca ∧ E 1 = .slice bb ob a.length 1 cb ∧ E 8 = .slice bb ob a.length 1 cb ∧ E 9 = .int .i64 a.length ∧ E 10 = .int .i64 i ∧ E 5 = .int .i64 (strTo f a i)) 0 (Nat.zero_le _) ?_ ?_
  · simp (disch := first | omega | (simp only [n_alloc, n_put, n_kill]; omega) | (simp; done) | fail)
    simp [strTo]
  · rintro i E H' hw' hi ⟨rfl, h0, h1, h8, h9, h10, h5⟩
    simp (disch := first | omega | (simp only [n_alloc, n_put, n_kill]; omega) | (simp; done) | fail) [h0, h1, h8, h9, h10, h5]
    refine cP (fun h => ?_) fun h => ?_
    · obtain ⟨m, hme, em⟩ : ∃ m : Nat, (i + 1) % a.length = m ∧ ((i : Int) + 1).tmod a.length = (m : Int) := ⟨_, rfl, by
        rw [Int.tmod_eq_emod_of_nonneg (by omega), Int.natCast_emod]; simp⟩
      have hm : m < a.length := by rw [← hme]; exact Nat.mod_lt _ (by omega)
      have hx := hr a[i] (List.getElem_mem h)
      have hy := hr a[m] (List.getElem_mem hm)
      have hs : strAt f a i = !f a[i].toNat a[m].toNat := by simp [strAt, hme, List.getD, h, hm]
      have hle := strTo_le f a i
      simp (disch := first | omega | (simp only [n_alloc, n_put, n_kill]; omega) | (simp; done) | fail) [h0, h1, h8, h9, h10, h5, h, em, hb.int]
      refine call_of (has_ok _ n f a[i] a[m] hn (by omega) (by omega) ha) fun v H1 hw1 ⟨he1, hv⟩ => ?_
      subst hv he1
      simp (disch := first | omega | (simp only [n_alloc, n_put, n_kill]; omega) | (simp; done) | fail) [h0, h1, h8, h9, h10, h5, h]
      refine call_of (bit_ok _) fun v H1 hw1 ⟨hv, he1⟩ => ?_
      subst hv he1
      cases hf : f a[i].toNat a[m].toNat
      · simp (disch := first | omega | (simp only [n_alloc, n_put, n_kill]; omega) | (simp; done) | fail) [h0, h1, h8, h9, h10, h5, h, strTo_step, hs, hf]
      · simp (disch := first | omega | (simp only [n_alloc, n_put, n_kill]; omega) | (simp; done) | fail) [h0, h1, h8, h9, h10, h5, h, strTo_step, hs, hf]
    · have : i = a.length := by omega
      subst this
      simp (disch := first | omega | (simp only [n_alloc, n_put, n_kill]; omega) | (simp; done) | fail) [h5, strangeL]
theorem table_ok (va : AV) (n : Nat) (ps : List (Int × Int)) (hg : GoodP n ps) (hl : ps.length < 2 ^ 31) (ha : PartyAt H va n ps) : ACall Try.prog w0 36 [va] H fun v H' => Ext H H' ∧ WTab H' v n (fr ps) := by
  obtain ⟨ba, oa, ca, rfl, ha⟩ := ha
  have hn := hg.1
  refine ACall.enterW mix Try.func36 (by kernel_rfl) fun hw => ?_
  simp (disch := first | omega | (simp only [n_alloc, n_put, n_kill]; omega) | (simp; done) | fail) [Try.f36]
  refine ⟨by omega, by omega, ?_⟩
  refine run_for ps.length (fun j E H' => Ext H H' ∧ E 10 = .slice ba oa ps.length 2 ca ∧ E 11 = .int .i64 ps.length ∧ E 12 = .int .i64 j ∧ H.n < H'.n ∧
    ∃ b off cap ws, E 3 = .slice b off n 1 cap ∧ OwnAt (H.n + 1) H' b off n 1 cap (u16s ws) ∧ Words n (fr (ps.take j)) ws) 0 (Nat.zero_le _) ?_ ?_
  · simp (disch := first | omega | (simp only [n_alloc, n_put, n_kill]; omega) | (simp; done) | fail)
    have hO := OwnAt.new (n0 := H.n + 1) (H := H.alloc [.int .i64 n, .slice ba oa ps.length 2 ca]) (by (first | omega | (simp only [n_alloc, n_put, n_kill]; omega))) (cs := u16s (List.replicate n 0)) (len := n) (sz := 1) (by simp)
    rw [← u16s_zero] at hO
    refine ⟨by omega, _, _, _, ⟨rfl, rfl, rfl⟩, List.replicate n 0, ?_, Words.zero⟩
    rw [← u16s_zero]
    exact hO
  · rintro j E H' hw' hj ⟨he, h10, h11, h12, hlt, b, off, cap, ws, h3, hO, hW⟩
    simp (disch := first | omega | (simp only [n_alloc, n_put, n_kill]; omega) | (simp; done) | fail) [h10, h11, h12, h3]
    refine cP (fun g => ?_) fun g => ?_
    · have hr := ha.ext hw he
      obtain ⟨q1, q2, q3, _⟩ := hg.2 j g
      have hA : ps[j].1.toNat < n := by omega
      have hB : ps[j].2.toNat < n := by omega
      have hWl := hW.1
      have hx : Ext H ((H'.alloc [.int .i64 0, .int .i64 0]).put H'.n [.int .i64 ps[j].1, .int .i64 ps[j].2]) := by
        have := he.1
        simp (disch := first | omega | (simp only [n_alloc, n_put, n_kill]; omega) | (simp; done) | fail)
        exact he
      have hkn : Keep (some H'.n) H' ((H'.alloc [.int .i64 0, .int .i64 0]).put H'.n [.int .i64 ps[j].1, .int .i64 ps[j].2]) := ⟨by (first | omega | (simp only [n_alloc, n_put, n_kill]; omega)), fun c hc hne => by rw [get_put_old (by omega), get_alloc_old (by omega)]⟩
      have hO1 := hO.keep hkn (.inr fun e => by have := hO.lt _ e.symm; omega)
      have pA := wPow_lt (b := ps[j].2.toNat) (by omega)
      have pB := wPow_lt (b := ps[j].1.toNat) (by omega)
      have wA := (hW.2 ps[j].1.toNat (by omega)).1
      simp (disch := first | omega | (simp only [n_alloc, n_put, n_kill]; omega) | (simp; done) | fail) [h10, h11, h12, h3, hr.pair, g]
      refine run_any plan36_5 (by kernel_rfl) ?_
      simp (disch := first | omega | (simp only [n_alloc, n_put, n_kill]; omega) | (simp; done) | fail) [plan36_5, h10, h11, h12, h3, g, hO1.toRow.u16, shl_u16, or_u16 wA pA, -bin_shl, -bin_or]
      refine store_own (by simp) hO1 (by simp; omega) (by simp) (by simp) fun H2 hO2 hk2 hn2 => ?_
      rw [cells_int, splice_u16s (by omega)] at hO2
      have hW2 := hW.set (by omega) hA hB
      obtain ⟨ws2, hws⟩ : ∃ ws2, ws2 = ws.set ps[j].1.toNat (wOr ws[ps[j].1.toNat] (wPow ps[j].2.toNat)) := ⟨_, rfl⟩
      rw [← hws] at hO2 hW2
      have gB : H2.get H'.n = some (.cells [.int .i64 ps[j].1, .int .i64 ps[j].2] true) := by
        rw [hk2.2 _ (by (first | omega | (simp only [n_alloc, n_put, n_kill]; omega))) (fun e => by have := hO.lt _ e; omega)]
        simp (disch := first | omega | (simp only [n_alloc, n_put, n_kill]; omega) | (simp; done) | fail)
      simp (disch := first | omega | (simp only [n_alloc, n_put, n_kill]; omega) | (simp; done) | fail)
      refine run_any plan36_6 (by kernel_rfl) ?_
      have hlen2 := hW2.1
      have wB := (hW2.2 ps[j].2.toNat (by omega)).1
      simp (disch := first | omega | (simp only [n_alloc, n_put, n_kill]; omega) | (simp; done) | fail) [plan36_6, h10, h11, h12, h3, g, gB, hO2.toRow.u16, shl_u16, or_u16 wB pB, -bin_shl, -bin_or]
      refine store_own (by simp) hO2 (by simp; omega) (by simp) (by simp) fun H3 hO3 hk3 hn3 => ?_
      rw [cells_int, splice_u16s (by omega)] at hO3
      have hW3 := hW2.set (by omega) hB hA
      rw [fr_step ps j g (by omega) (by omega)] at hW3
      simp (disch := first | omega | (simp only [n_alloc, n_put, n_kill]; omega) | (simp; done) | fail) [h10, h11, h12, h3, g]
      exact ⟨(hk3.ext (hk2.ext hx (fun k e => by have := hO.base k e; omega)) (fun k e => by have := hO.base k e; omega)), by simp only [n_alloc, n_put] at hn2; omega, _, _, _, ⟨rfl, rfl, rfl⟩, _, hO3, hW3⟩
    · have : j = ps.length := by omega
      subst this
      rw [List.take_length] at hW
      simp (disch := first | omega | (simp only [n_alloc, n_put, n_kill]; omega) | (simp; done) | fail) [h3]
      exact ⟨he, _, _, _, ws, rfl, hO.toRow, hW⟩
theorem clone_ok (va : AV) (a : List Int) (hl : a.length < 2 ^ 31) (ha : RowV H va a.length 1 (ints a)) : ACall Try.prog w0 37 [va] H fun v H' => Ext H H' ∧ OwnV H.n H' v a.length 1 (ints a) := by
  obtain ⟨ba, oa, ca, rfl, ha⟩ := ha
  refine ACall.enterW mix Try.func37 (by kernel_rfl) fun hw => ?_
  simp (disch := first | omega | (simp only [n_alloc, n_put, n_kill]; omega) | (simp; done) | fail) [Try.f37]
  refine cB (fun h => ?_) fun h => ?_
  · cases ba with
    | some x => cases h
    | none =>
      have e := ha.of_none
      have : a = [] := by simpa [ints] using e
      subst this
      simp (disch := first | omega | (simp only [n_alloc, n_put, n_kill]; omega) | (simp; done) | fail)
      exact ⟨none, 0, some 0, rfl, OwnAt.nil⟩
  · simp (disch := first | omega | (simp only [n_alloc, n_put, n_kill]; omega) | (simp; done) | fail)
    refine build_full ?_
    simp (disch := first | omega | (simp only [n_alloc, n_put, n_kill]; omega) | (simp; done) | fail) [buildC]
    have hO := OwnAt.new (n0 := H.n) (H := H) (Nat.le_refl _) (cs := []) (len := 0) (sz := 1) rfl
    refine append_ok (ints a) hO (by (first | omega | (simp only [n_alloc, n_put, n_kill]; omega))) (by simp (disch := first | omega | (simp only [n_alloc, n_put, n_kill]; omega) | (simp; done) | fail); omega) (by simp (disch := first | omega | (simp only [n_alloc, n_put, n_kill]; omega) | (simp; done) | fail)) (by omega) (ha.ext hw (by simp (disch := first | omega | (simp only [n_alloc, n_put, n_kill]; omega) | (simp; done) | fail))) (by simp) (by simp [ints]) (by omega) fun b' off' cap' H2 h1 h2 h3 => ?_
    simp (disch := first | omega | (simp only [n_alloc, n_put, n_kill]; omega) | (simp; done) | fail)
    exact ⟨h2.ext (H0 := H) (by simp (disch := first | omega | (simp only [n_alloc, n_put, n_kill]; omega) | (simp; done) | fail)) (by rintro _ ⟨⟩; omega), by simpa using h1.v⟩
end Go.Proofs.Ythkmbfifiojmhaa
