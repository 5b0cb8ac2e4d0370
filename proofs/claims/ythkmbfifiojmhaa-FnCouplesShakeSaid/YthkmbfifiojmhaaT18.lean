/- What is drawn for the law. -/
import Derived.Test.YthkmbfifiojmhaaT17
set_option linter.unusedSimpArgs false
set_option linter.unusedVariables false
set_option maxRecDepth 100000
namespace Go.Proofs.Ythkmbfifiojmhaa
open Go.Abs
variable {w0 : World} {H : Heap}
/-- Bytes. -/
def bytesT (l : List Int) : AV := .lst none l.length 1 (u8s l)
attribute [simp] bytesT
def Bytes (l : List Int) : Prop := (∀ x ∈ l, 0 ≤ x ∧ x < 256) ∧ l.length < 2 ^ 31
theorem Bytes.cur {l : List Int} (h : Bytes l) : CurOk (curC l 0 0) 0 := ⟨l, 0, 0, rfl, h.1, by omega, by omega, h.2, by omega, by omega⟩
theorem drawMade_ok (l : List Int) (hl : Bytes l) : PCall Try.prog 25 [bytesT l] fun v => ∃ m, v = .int .i64 m := by
  refine PCall.run mix Try.func25 (by kernel_rfl) fun w0 H hw => ?_
  simp (disch := first | omega | (simp only [n_alloc, n_put, n_kill, n_allocT, n_tabH, n_less]; omega) | (simp; done) | fail) [Try.f25]
  refine box_r rfl ?_
  simp (disch := first | omega | (simp only [n_alloc, n_put, n_kill, n_allocT, n_tabH, n_less]; omega) | (simp; done) | fail)
  refine build_lst ?_
  simp (disch := first | omega | (simp only [n_alloc, n_put, n_kill, n_allocT, n_tabH, n_less]; omega) | (simp; done) | fail) [buildL]
  refine call_of (among_ok H.n 0 (curC l 0 0) [1, 2, 3, 4, 5, 6, 7, 0, -1] (by simp) (by simp) (by omega) (by (first | omega | (simp only [n_alloc, n_put, n_kill, n_allocT, n_tabH, n_less]; omega))) (by simp (disch := first | omega | (simp only [n_alloc, n_put, n_kill, n_allocT, n_tabH, n_less]; omega) | (simp; done) | fail) [curC]) hl.cur) fun v H1 hw1 ⟨c1, he1, hC1, r, hv, hr⟩ => ?_
  subst hv he1
  simp (disch := first | omega | (simp only [n_alloc, n_put, n_kill, n_allocT, n_tabH, n_less]; omega) | (simp; done) | fail)
  exact Done.flat (by simp (disch := first | omega | (simp only [n_alloc, n_put, n_kill, n_allocT, n_tabH, n_less]; omega) | (simp; done) | fail)) rfl ⟨r, rfl⟩
/-- The numbers below. -/
def numsTo (k : Nat) : List Int := (List.range k).map fun (x : Nat) => (x : Int)
theorem numsTo_length (k : Nat) : (numsTo k).length = k := by simp [numsTo]
theorem numsTo_succ (k : Nat) : ints (numsTo (k + 1)) = ints (numsTo k) ++ [.int .i64 k] := by simp [numsTo, ints, List.range_succ]
theorem numsTo_mem {k : Nat} {x : Int} (h : x ∈ numsTo k) : 0 ≤ x ∧ x < k := by
  simp only [numsTo, List.mem_map, List.mem_range] at h
  obtain ⟨y, hy, rfl⟩ := h
  omega
theorem drawAre_ok (l : List Int) (hl : Bytes l) : PCall Try.prog 16 [bytesT l] SomeP := by
  refine PCall.run mix Try.func16 (by kernel_rfl) fun w0 H hw => ?_
  simp (disch := first | omega | (simp only [n_alloc, n_put, n_kill, n_allocT, n_tabH, n_less]; omega) | (simp; done) | fail) [Try.f16]
  refine box_r rfl ?_
  simp (disch := first | omega | (simp only [n_alloc, n_put, n_kill, n_allocT, n_tabH, n_less]; omega) | (simp; done) | fail)
  refine call_of (one_ok (H.n + 1) 0 (curC l 0 0) 3 (by omega) (by omega) (by (first | omega | (simp only [n_alloc, n_put, n_kill, n_allocT, n_tabH, n_less]; omega))) (by simp (disch := first | omega | (simp only [n_alloc, n_put, n_kill, n_allocT, n_tabH, n_less]; omega) | (simp; done) | fail) [curC]) hl.cur) fun v H1 hw1 ⟨c1, he1, hC1, b, hv⟩ => ?_
  subst hv he1
  simp (disch := first | omega | (simp only [n_alloc, n_put, n_kill, n_allocT, n_tabH, n_less]; omega) | (simp; done) | fail)
  refine cB (fun q => ?_) fun q => ?_
  · simp (disch := first | omega | (simp only [n_alloc, n_put, n_kill, n_allocT, n_tabH, n_less]; omega) | (simp; done) | fail)
    refine call_of (party_ok (H.n + 1) _ c1 6 (by omega) (by omega) (by (first | omega | (simp only [n_alloc, n_put, n_kill, n_allocT, n_tabH, n_less]; omega))) (by simp (disch := first | omega | (simp only [n_alloc, n_put, n_kill, n_allocT, n_tabH, n_less]; omega) | (simp; done) | fail)) hC1) fun v H1 hw1 ⟨c2, he1, hC2, hv⟩ => ?_
    subst he1
    obtain ⟨n, ps, rfl, hs⟩ := hv
    simp (disch := first | omega | (simp only [n_alloc, n_put, n_kill, n_allocT, n_tabH, n_less]; omega) | (simp; done) | fail)
    exact Done.mk (r := partyT n ps) hw (by simp (disch := first | omega | (simp only [n_alloc, n_put, n_kill, n_allocT, n_tabH, n_less]; omega) | (simp; done) | fail)) (fun hs => Fz.same hs under_partyT) ⟨n, ps, rfl, hs⟩
  · simp (disch := first | omega | (simp only [n_alloc, n_put, n_kill, n_allocT, n_tabH, n_less]; omega) | (simp; done) | fail)
    refine call_of (pick_ok (H.n + 1) _ c1 4 (by omega) (by omega) (by (first | omega | (simp only [n_alloc, n_put, n_kill, n_allocT, n_tabH, n_less]; omega))) (by simp (disch := first | omega | (simp only [n_alloc, n_put, n_kill, n_allocT, n_tabH, n_less]; omega) | (simp; done) | fail)) hC1) fun v H1 hw1 ⟨c2, he1, hC2, r, hv, hr⟩ => ?_
    subst hv he1
    simp (disch := first | omega | (simp only [n_alloc, n_put, n_kill, n_allocT, n_tabH, n_less]; omega) | (simp; done) | fail)
    refine run_pure (specCouples_ok (1 + r)) fun v hv => ?_
    rcases hv with ⟨q1, q2, hv⟩ | ⟨q1, _⟩
    · subst hv
      obtain ⟨m, hm⟩ := Int.eq_ofNat_of_zero_le (show 0 ≤ 1 + r by omega)
      rw [hm, Int.toNat_natCast, show (2 * (m : Int)).toNat = 2 * m by omega]
      generalize hps : tabPairs (2 * m) (cpF m 0) = ps
      have hsome : SomeP (partyT (2 * (m : Int)) ps) := by rw [← hps]; have := tabPairs_some (2 * m) (cpF m 0) (by omega); simpa using this
      have hgood : GoodP ((2 * m : Nat) : Int) ps := by rw [← hps]; exact tabPairs_good _ (by omega)
      have hsmall : ps.length < 2 ^ 31 := by rw [← hps]; exact tabPairs_small _ (by omega)
      simp (disch := first | omega | (simp only [n_alloc, n_put, n_kill, n_allocT, n_tabH, n_less]; omega) | (simp; done) | fail)
      refine call_of (one_ok (H.n + 1) _ c2 2 (by omega) (by omega) (by (first | omega | (simp only [n_alloc, n_put, n_kill, n_allocT, n_tabH, n_less]; omega))) (by simp (disch := first | omega | (simp only [n_alloc, n_put, n_kill, n_allocT, n_tabH, n_less]; omega) | (simp; done) | fail)) hC2) fun v H1 hw1 ⟨c3, he1, hC3, b, hv⟩ => ?_
      subst hv he1
      simp (disch := first | omega | (simp only [n_alloc, n_put, n_kill, n_allocT, n_tabH, n_less]; omega) | (simp; done) | fail)
      have hmm : m ≤ 4 := by omega
      have fin : ∀ H' : Heap, Ext H H' → H'.get H.n = some (.cells [.int .i64 0, .slice none 0 0 1 (some 0)] true) → Done H (H'.put H.n [.int .i64 (2 * (m : Int)), .lst none ps.length 2 (pairs ps)]) (.agg [.int .i64 (2 * (m : Int)), .lst none ps.length 2 (pairs ps)]) SomeP := fun H' he _ =>
        Done.mk (r := partyT (2 * (m : Int)) ps) hw (by rw [ext_put (Nat.le_refl _)]; exact he) (fun hs => Fz.same hs under_partyT) hsome
      have d2 : (2 * (m : Int)).tdiv 2 = m := by rw [Int.tdiv_eq_ediv_of_nonneg (by omega)]; omega
      have d2' : (2 * (m : Int)) / 2 = m := by omega
      have hw4 : ((((H.alloc [.int .i64 0, .slice none 0 0 1 (some 0)]).alloc c3).alloc [.int .i64 (2 * (m : Int)), .lst none ps.length 2 (pairs ps)])).wf := wf_alloc (wf_alloc (wf_alloc hw))
      have gn : ((((H.alloc [.int .i64 0, .slice none 0 0 1 (some 0)]).alloc c3).alloc [.int .i64 (2 * (m : Int)), .lst none ps.length 2 (pairs ps)])).n = H.n + 3 := by simp
      have g0 : ((((H.alloc [.int .i64 0, .slice none 0 0 1 (some 0)]).alloc c3).alloc [.int .i64 (2 * (m : Int)), .lst none ps.length 2 (pairs ps)])).get H.n = some (.cells [.int .i64 0, .slice none 0 0 1 (some 0)] true) := by simp (disch := first | omega | (simp only [n_alloc, n_put, n_kill, n_allocT, n_tabH, n_less]; omega) | (simp; done) | fail)
      have g1 : ((((H.alloc [.int .i64 0, .slice none 0 0 1 (some 0)]).alloc c3).alloc [.int .i64 (2 * (m : Int)), .lst none ps.length 2 (pairs ps)])).get (H.n + 1) = some (.cells c3 true) := by simp (disch := first | omega | (simp only [n_alloc, n_put, n_kill, n_allocT, n_tabH, n_less]; omega) | (simp; done) | fail)
      have g2 : ((((H.alloc [.int .i64 0, .slice none 0 0 1 (some 0)]).alloc c3).alloc [.int .i64 (2 * (m : Int)), .lst none ps.length 2 (pairs ps)])).get (H.n + 1 + 1) = some (.cells [.int .i64 (2 * (m : Int)), .lst none ps.length 2 (pairs ps)] true) := get_alloc_eq (by simp)
      have eB : Ext H (((H.alloc [.int .i64 0, .slice none 0 0 1 (some 0)]).alloc c3).alloc [.int .i64 (2 * (m : Int)), .lst none ps.length 2 (pairs ps)]) := by simp (disch := first | omega | (simp only [n_alloc, n_put, n_kill, n_allocT, n_tabH, n_less]; omega) | (simp; done) | fail)
      generalize ((H.alloc [.int .i64 0, .slice none 0 0 1 (some 0)]).alloc c3).alloc [.int .i64 (2 * (m : Int)), .lst none ps.length 2 (pairs ps)] = HB at *
      refine gB (fun qb => ?_) fun qb => ?_
      · subst qb
        simp (disch := first | omega | (simp only [n_alloc, n_put, n_kill, n_allocT, n_tabH, n_less]; omega) | (simp; done) | fail) [g2]
        refine cP (fun q3 => ?_) fun q3 => ?_
        · simp (disch := first | omega | (simp only [n_alloc, n_put, n_kill, n_allocT, n_tabH, n_less]; omega) | (simp; done) | fail) [g2]
          refine run_for (2 * m) (fun k E H' => ∃ v, OwnS (H.n + 3) H' v k 1 (ints (numsTo k)) ∧ H.n + 3 ≤ H'.n ∧ (∀ c, c < H.n + 3 → H'.get c = HB.get c) ∧ E 2 = .ptr (some H.n) 0 ∧ E 3 = .ptr (some (H.n + 1)) 0 ∧ E 4 = .ptr (some (H.n + 1 + 1)) 0 ∧ E 6 = v ∧ E 7 = .int .i64 k) 0 (by omega) ?_ ?_
          · simp (disch := first | omega | (simp only [n_alloc, n_put, n_kill, n_allocT, n_tabH, n_less]; omega) | (simp; done) | fail)
            exact ⟨.inl ⟨rfl, rfl, rfl⟩, by omega⟩
          · rintro k E H' hw' hk ⟨v, hO, hn3, hold, h2, h3, h4, h6, h7⟩
            have G0 := (hold H.n (by omega)).trans g0
            have G1 := (hold (H.n + 1) (by omega)).trans g1
            have G2 := (hold (H.n + 1 + 1) (by omega)).trans g2
            simp (disch := first | omega | (simp only [n_alloc, n_put, n_kill, n_allocT, n_tabH, n_less]; omega) | (simp; done) | fail) [h2, h3, h4, h6, h7, G2]
            refine cP (fun g => ?_) fun g => ?_
            · simp (disch := first | omega | (simp only [n_alloc, n_put, n_kill, n_allocT, n_tabH, n_less]; omega) | (simp; done) | fail) [h2, h3, h4, h6, h7, G2]
              refine build_full ?_
              simp (disch := first | omega | (simp only [n_alloc, n_put, n_kill, n_allocT, n_tabH, n_less]; omega) | (simp; done) | fail) [buildC]
              refine append_oneS hO hw' (by omega) (by simp (disch := first | omega | (simp only [n_alloc, n_put, n_kill, n_allocT, n_tabH, n_less]; omega) | (simp; done) | fail); omega) (by simp (disch := first | omega | (simp only [n_alloc, n_put, n_kill, n_allocT, n_tabH, n_less]; omega) | (simp; done) | fail)) (by omega) rfl rfl (by simp; omega) fun v' H2 hO2 hn2 hk2 => ?_
              simp (disch := first | omega | (simp only [n_alloc, n_put, n_kill, n_allocT, n_tabH, n_less]; omega) | (simp; done) | fail) [h2, h3, h4, h6, h7]
              exact Run.of ⟨by omega, v', .inr (by rw [numsTo_succ]; exact hO2), by omega, fun c hc => (hk2 c hc).trans (hold c hc), rfl⟩
            · have : k = 2 * m := by omega
              subst this
              rcases hO with ⟨_, e, _⟩ | hO
              · omega
              obtain ⟨bb, off, cap, rfl, hO⟩ := hO
              simp (disch := first | omega | (simp only [n_alloc, n_put, n_kill, n_allocT, n_tabH, n_less]; omega) | (simp; done) | fail) [h2, h3, h4, h6, h7, G2]
              refine call_of (pick_ok (H.n + 1) _ c3 ((m : Int) - 1) (by omega) (by omega) (by omega) G1 hC3) fun v H1 hw1 ⟨c4, he1, hC4, t, hv, ht⟩ => ?_
              subst hv he1
              simp (disch := first | omega | (simp only [n_alloc, n_put, n_kill, n_allocT, n_tabH, n_less]; omega) | (simp; done) | fail) [h2, h3, h4, h6, h7]
              refine run_for (2 * m) (fun k E H' => 2 ≤ k ∧ ∃ l', l'.length = 2 * m ∧ (∀ x ∈ l', 0 ≤ x ∧ x < ((2 * m : Nat) : Int)) ∧ OwnAt (H.n + 3) H' bb off (2 * m) 1 cap (ints l') ∧ H.n + 3 ≤ H'.n ∧ (∀ c, c < H.n + 3 → c ≠ H.n + 1 → H'.get c = HB.get c) ∧ E 2 = .ptr (some H.n) 0 ∧ E 4 = .ptr (some (H.n + 1 + 1)) 0 ∧ E 6 = .slice bb off (2 * m) 1 cap ∧ E 8 = .int .i64 (2 * (1 + t)) ∧ E 9 = .int .i64 k) 2 (by omega) ?_ ?_
              · simp (disch := first | omega | (simp only [n_alloc, n_put, n_kill, n_allocT, n_tabH, n_less]; omega) | (simp; done) | fail) [h2, h3, h4, h6, h7]
                refine ⟨numsTo (2 * m), numsTo_length _, fun x hx => ?_, hO.put (by omega), hn3, fun c hc hne => by rw [get_put_old hne]; exact hold c hc⟩
                have := numsTo_mem hx
                omega
              · rintro k E H' hw' hk ⟨hk2, l', hl1, hl2, hO, hn3, hold, h2, h4, h6, h8, h9⟩
                have G0 := (hold H.n (by omega) (by omega)).trans g0
                have G2 := (hold (H.n + 1 + 1) (by omega) (by omega)).trans g2
                simp (disch := first | omega | (simp only [n_alloc, n_put, n_kill, n_allocT, n_tabH, n_less]; omega) | (simp; done) | fail) [h2, h4, h6, h8, h9, G2]
                refine cP (fun g' => ?_) fun g' => ?_
                · have tm0 := Int.tmod_nonneg (2 * (m : Int) - 2) (show (0 : Int) ≤ (k : Int) - 2 + 2 * (1 + t) by omega)
                  have tm1 := Int.tmod_lt_of_pos ((k : Int) - 2 + 2 * (1 + t)) (show (0 : Int) < 2 * (m : Int) - 2 by omega)
                  have wp : IntKind.i64.wrap (2 + ((k : Int) - 2 + 2 * (1 + t)).tmod (2 * (m : Int) - 2)) = 2 + ((k : Int) - 2 + 2 * (1 + t)).tmod (2 * (m : Int) - 2) := wrap64 (by omega) (by omega)
                  simp (disch := first | omega | (simp only [n_alloc, n_put, n_kill, n_allocT, n_tabH, n_less]; omega) | (simp; done) | fail) [h2, h4, h6, h8, h9, G2, wp]
                  refine store_own (by simp) hO (by simp; omega) (by simp) (by simp) fun H2 hO2 hkp hn2 => ?_
                  rw [cells_int, splice_ints (by omega)] at hO2
                  simp (disch := first | omega | (simp only [n_alloc, n_put, n_kill, n_allocT, n_tabH, n_less]; omega) | (simp; done) | fail) [h2, h4, h6, h8, h9]
                  refine Run.of ⟨by omega, by omega, _, by simpa using hl1, fun x hx => ?_, hO2, by omega, fun c hc hne => (hkp.2 c (by omega) (fun e => by have := hO.base c e; omega)).trans (hold c hc hne)⟩
                  rcases List.mem_or_eq_of_mem_set hx with hx | rfl
                  · exact hl2 x hx
                  · omega
                · have : k = 2 * m := by omega
                  subst this
                  simp (disch := first | omega | (simp only [n_alloc, n_put, n_kill, n_allocT, n_tabH, n_less]; omega) | (simp; done) | fail) [h2, h4, h6, h8, h9, G2]
                  have PR : PCall Try.prog 44 [.agg [.int .i64 (2 * (m : Int)), .lst none ps.length 2 (pairs ps)], .lst none (2 * m) 1 (ints l')] SomeP := by
                    have := paRename_ok (2 * m) ps l' hgood hsmall hl1 hl2
                    simpa [hl1] using this
                  refine ACall.frz (H0 := H'.less (H.n + 3)) (less_sub hw') rfl (run_pure PR fun v hv => ?_) (FzL.cons (Fz.same (less_sub hw') under_partyT) (FzL.cons (own_fz (less_sub hw') (fun b hb => by simp only [Heap.less]; rw [if_neg (by omega)]) hO.v) FzL.nil))
                  obtain ⟨n2, ps2, rfl, hs2⟩ := hv
                  have G0' : (H'.less (H.n + 3)).get H.n = some (.cells [.int .i64 0, .slice none 0 0 1 (some 0)] true) := by rw [less_get (by omega)]; exact G0
                  simp (disch := first | omega | (simp only [n_alloc, n_put, n_kill, n_allocT, n_tabH, n_less]; omega) | (simp; done) | fail) [h2, h4, h6, h8, h9, G0', G0]
                  refine Done.mk (r := partyT n2 ps2) hw ?_ (fun hs => Fz.same hs under_partyT) ⟨n2, ps2, rfl, hs2⟩
                  rw [ext_put (Nat.le_refl _)]
                  refine ⟨by simp only [n_less]; omega, fun c hc => ?_⟩
                  rw [less_get (by omega), hold c (by omega) (by omega)]
                  exact eB.2 c hc
        · simp (disch := first | omega | (simp only [n_alloc, n_put, n_kill, n_allocT, n_tabH, n_less]; omega) | (simp; done) | fail) [g0, g2]
          exact fin HB eB g0
      · subst qb
        simp (disch := first | omega | (simp only [n_alloc, n_put, n_kill, n_allocT, n_tabH, n_less]; omega) | (simp; done) | fail) [g0, g2]
        exact fin HB eB g0
    · exact absurd (by omega) q1
end Go.Proofs.Ythkmbfifiojmhaa
