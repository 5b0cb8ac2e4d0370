/- The law itself: what it answers. -/
import Derived.Test.YthkmbfifiojmhaaT20
set_option linter.unusedSimpArgs false
set_option linter.unusedVariables false
set_option maxRecDepth 100000
namespace Go.Proofs.Ythkmbfifiojmhaa
open Go.Abs
variable {w0 : World} {H : Heap}
/-- Of the temps only what is still needed. -/
theorem run_cut {P : Program} {ops : Array Oper} {rest : List Oper} {E : Env} {K : Env → Heap → Prop} (I : Env → Prop) (h : I E) (hk : ∀ E, I E → Run (wpL P w0 ops rest E H K)) : Run (wpL P w0 ops rest E H K) := hk E h
theorem big_ok (l l2 : List Int) (h1 : l.length < 2 ^ 63) (h2 : l2.length < 2 ^ 63) : PCall Try.prog 15 [bytesT l, bytesT l2] (IsB (1048576 < l.length ∨ 1048576 < l.length + l2.length)) := by
  refine PCall.run mix Try.func15 (by kernel_rfl) fun w0 H hw => ?_
  simp (disch := first | omega | (simp only [n_alloc, n_put, n_kill, n_allocT, n_tabH, n_less]; omega) | (simp; done) | fail) [Try.f15]
  refine gN (fun h => ?_) fun h => ?_
  · have hw := wrap64 (n := 1048576 - (l.length : Int)) (by omega) (by omega)
    have hd := decide_eq_false h
    simp (disch := first | omega | (simp only [n_alloc, n_put, n_kill, n_allocT, n_tabH, n_less]; omega) | (simp; done) | fail) [hw, hd]
    exact Done.flat (Ext.refl _) rfl ⟨_, rfl, by simp; omega⟩
  · have hd := decide_eq_true h
    simp (disch := first | omega | (simp only [n_alloc, n_put, n_kill, n_allocT, n_tabH, n_less]; omega) | (simp; done) | fail) [hd]
    exact Done.flat (Ext.refl _) rfl ⟨_, rfl, by simp; omega⟩
open Classical in
theorem AnsAre.eq {n : Int} {ps : List (Int × Int)} {v : AV} (h : AnsAre n ps v) : v = .tuple [.bool (decide (CpP n ps)), .bool (decide (EvP n ps))] := by
  rcases h with ⟨he, a, rfl, ha⟩ | ⟨he, rfl⟩
  · congr 1
    have : a = decide (CpP n ps) := by
      rw [Bool.eq_iff_iff, ha, decide_eq_true_eq]
      exact ⟨fun h => ⟨he, h⟩, fun h => h.2⟩
    rw [this, decide_eq_true he]
  · rw [decide_eq_false he, decide_eq_false fun h : CpP n ps => he h.1]
theorem AnsMade.yes {k : Nat} {v : AV} (h : AnsMade (k : Int) v) (h1 : 1 ≤ k) (h2 : k ≤ 6) : v = .tuple [partyT (2 * (k : Int)) (tabPairs (2 * k) (cpF k 0)), .bool true] := by
  rcases h with ⟨_, _, rfl⟩ | ⟨h, _⟩
  · rw [show (2 * (k : Int)).toNat = 2 * k by omega, Int.toNat_natCast]
  · exact absurd (by omega) h
theorem AnsMade.no {m : Int} {v : AV} (h : AnsMade m v) (hn : ¬ (1 ≤ m ∧ m ≤ 6)) : v = .tuple [partyT 0 [], .bool false] := by
  rcases h with ⟨a, b, _⟩ | ⟨_, rfl⟩
  · exact absurd ⟨a, b⟩ hn
  · rfl
theorem AnsMade.eq {m : Int} {v : AV} (h : AnsMade m v) : (∃ k : Nat, 1 ≤ k ∧ k ≤ 6 ∧ m = (k : Int) ∧ v = .tuple [partyT (2 * (k : Int)) (tabPairs (2 * k) (cpF k 0)), .bool true]) ∨ (¬ (1 ≤ m ∧ m ≤ 6) ∧ v = .tuple [partyT 0 [], .bool false]) := by
  by_cases hm : 1 ≤ m ∧ m ≤ 6
  · obtain ⟨k, rfl⟩ := Int.eq_ofNat_of_zero_le (show 0 ≤ m by omega)
    exact .inl ⟨k, by omega, by omega, rfl, h.yes (by omega) (by omega)⟩
  · exact .inr ⟨hm, h.no hm⟩
set_option maxHeartbeats 4000000 in
open Classical in
theorem law_ok (l l2 : List Int) (h1 : l.length < 2 ^ 63) (h2 : l2.length < 2 ^ 63) (hb1 : ∀ x ∈ l, 0 ≤ x ∧ x < 256) (hb2 : ∀ x ∈ l2, 0 ≤ x ∧ x < 256) : PCall Try.prog 4 [bytesT l, bytesT l2] fun v => v = .bool true := by
  refine PCall.run mix Try.func4 (by kernel_rfl) fun w0 H hw => ?_
  simp (disch := first | omega | (simp only [n_alloc, n_put, n_kill, n_allocT, n_tabH, n_less]; omega) | (simp; done) | fail) [Try.f4]
  refine run_pureB (big_ok l l2 h1 h2) fun b hb => ?_
  simp (disch := first | omega | (simp only [n_alloc, n_put, n_kill, n_allocT, n_tabH, n_less]; omega) | (simp; done) | fail)
  refine cB (fun q => ?_) fun q => ?_
  · simp (disch := first | omega | (simp only [n_alloc, n_put, n_kill, n_allocT, n_tabH, n_less]; omega) | (simp; done) | fail)
    exact Done.flat (Ext.refl _) rfl rfl
  · have hs : ¬ (1048576 < l.length ∨ 1048576 < l.length + l2.length) := fun h => by rw [hb.2 h] at q; cases q
    simp (disch := first | omega | (simp only [n_alloc, n_put, n_kill, n_allocT, n_tabH, n_less]; omega) | (simp; done) | fail)
    refine run_pure (drawAre_ok l ⟨hb1, by omega⟩) fun v hv => ?_
    obtain ⟨n, ps, rfl, hlen, hn, hps⟩ := hv
    have hl : ps.length < 2 ^ 31 := by omega
    simp (disch := first | omega | (simp only [n_alloc, n_put, n_kill, n_allocT, n_tabH, n_less]; omega) | (simp; done) | fail)
    refine run_pure (implAre_ok n ps hl) fun v hv => ?_
    have ev := hv.eq
    subst ev
    clear hv
    simp (disch := first | omega | (simp only [n_alloc, n_put, n_kill, n_allocT, n_tabH, n_less]; omega) | (simp; done) | fail)
    refine run_pure (specAre_ok n ps hl) fun v hv => ?_
    have ev := hv.eq
    subst ev
    clear hv
    by_cases hC : CpP n ps
    · rw [decide_eq_true hC, decide_eq_true hC.1]
      have hg := hC.1.1
      obtain ⟨m, hm⟩ : ∃ m : Nat, n = ((2 * m : Nat) : Int) := ⟨(n / 2).toNat, by have := hC.1; unfold EvP at this; omega⟩
      have hm1 : 1 ≤ m := by have := hC.1.2.1; omega
      have hm2 : 2 * m ≤ 12 := by have := hg.1; omega
      have hsym := fr_symm ps
      have hirr := fr_irr hg
      have hcp : CoupleP (2 * m) (fr ps) := by have := hC.2; rw [hm, Int.toNat_natCast] at this; exact this
      have claw := cp_law hm1 hsym hirr hcp
      have tlaw := fun i hi => told_law (i := i) hsym hirr hcp hi
      have slen : (sortedZ (toldL (2 * m) (fr ps))).length = 2 * m - 1 := by rw [(sortedZ_perm _).length_eq, toldL_length]
      have en : n.toNat = 2 * m := by omega
      simp (disch := first | omega | (simp only [n_alloc, n_put, n_kill, n_allocT, n_tabH, n_less]; omega) | (simp; done) | fail)
      refine run_pure (implTold_ok n ps hl) fun v hv => ?_
      rcases hv with ⟨_, rfl⟩ | ⟨h, _⟩
      rotate_left
      · exact absurd hC h
      simp (disch := first | omega | (simp only [n_alloc, n_put, n_kill, n_allocT, n_tabH, n_less]; omega) | (simp; done) | fail)
      refine run_pure (specTold_ok n ps hl) fun v hv => ?_
      rcases hv with ⟨_, rfl⟩ | ⟨h, _⟩
      rotate_left
      · exact absurd hC h
      simp (disch := first | omega | (simp only [n_alloc, n_put, n_kill, n_allocT, n_tabH, n_less]; omega) | (simp; done) | fail)
      refine run_pure (implSpouse_ok n ps hl) fun v hv => ?_
      rcases hv with ⟨_, rfl⟩ | ⟨h, _⟩
      rotate_left
      · exact absurd hC h
      simp (disch := first | omega | (simp only [n_alloc, n_put, n_kill, n_allocT, n_tabH, n_less]; omega) | (simp; done) | fail)
      refine run_pure (specSpouse_ok n ps hl) fun v hv => ?_
      rcases hv with ⟨_, rfl⟩ | ⟨h, _⟩
      rotate_left
      · exact absurd hC h
      rw [en]
      generalize hS : sortedZ (toldL (2 * m) (fr ps)) = s at *
      refine run_cut (fun E => E 1 = bytesT l2 ∧ E 5 = .ptr (some H.n) 0 ∧ E 6 = .bool true ∧ E 7 = .bool true ∧ E 8 = .bool true ∧ E 9 = .bool true ∧ E 10 = intsT s ∧ E 11 = .bool true ∧ E 12 = intsT s ∧ E 13 = .bool true ∧ E 14 = .int .i64 (deg (2 * m) (fr ps) 1) ∧ E 15 = .bool true ∧ E 62 = .tuple [.int .i64 (deg (2 * m) (fr ps) 1), .bool true]) (by simp (disch := first | omega | (simp only [n_alloc, n_put, n_kill, n_allocT, n_tabH, n_less]; omega) | (simp; done) | fail)) ?_
      rintro E ⟨h1, h5, h6, h7, h8, h9, h10, h11, h12, h13, h14, h15, h62⟩
      simp (disch := first | omega | (simp only [n_alloc, n_put, n_kill, n_allocT, n_tabH, n_less]; omega) | (simp; done) | fail) [h1, h5, h6, h7, h8, h9, h10, h11, h12, h13, h14, h15, h62]
      refine run_pureB (vSame_ok s s (by omega) (by omega)) fun b hb => ?_
      have hb := hb.2 rfl
      subst hb
      refine run_cut (fun E => E 1 = bytesT l2 ∧ E 5 = .ptr (some H.n) 0 ∧ E 6 = .bool true ∧ E 7 = .bool true ∧ E 10 = intsT s ∧ E 11 = .bool true ∧ E 14 = .int .i64 (deg (2 * m) (fr ps) 1) ∧ E 15 = .bool true ∧ E 16 = .int .i64 (deg (2 * m) (fr ps) 1) ∧ E 17 = .bool true ∧ E 78 = .bool false ∧ E 81 = .bool true) (by simp (disch := first | omega | (simp only [n_alloc, n_put, n_kill, n_allocT, n_tabH, n_less]; omega) | (simp; done) | fail) [h1, h5, h6, h7, h8, h9, h10, h11, h12, h13, h14, h15]) ?_
      clear h1 h5 h6 h7 h8 h9 h10 h11 h12 h13 h14 h15 h62
      clear E
      rintro E ⟨h1, h5, h6, h7, h10, h11, h14, h15, h16, h17, h78, h81⟩
      simp (disch := first | omega | (simp only [n_alloc, n_put, n_kill, n_allocT, n_tabH, n_less]; omega) | (simp; done) | fail) [h1, h5, h6, h7, h10, h11, h14, h15, h16, h17, h78, h81]
      refine run_pure (numbersOf_ok n ps hl) fun v hv => ?_
      rcases hv with ⟨_, rfl⟩ | ⟨h, _⟩
      rotate_left
      · exact absurd hg h
      rw [en]
      have hl10 : lenA (TK.slice 3 1) (E 10) = some (.int .i64 s.length) := by rw [h10]; simp
      have dl : degs (2 * m) (fr ps) ≠ [] := by intro h; have := degs_length (2 * m) (fr ps); rw [h] at this; simp at this; omega
      refine run_cut (fun E => E 1 = bytesT l2 ∧ E 5 = .ptr (some H.n) 0 ∧ E 10 = intsT s ∧ E 11 = .bool true ∧ E 14 = .int .i64 (deg (2 * m) (fr ps) 1) ∧ E 110 = .tuple [intsT (degs (2 * m) (fr ps)), .bool true]) (by simp (disch := first | omega | (simp only [n_alloc, n_put, n_kill, n_allocT, n_tabH, n_less]; omega) | (simp; done) | fail) [h1, h5, h10, h11, h14]) ?_
      clear hl10 h1 h5 h6 h7 h10 h11 h14 h15 h16 h17 h78 h81
      clear E
      rintro E ⟨h1, h5, h10, h11, h14, h110⟩
      have dq1 : decide ((s.length : Int) = 2 * (m : Int) - 1) = true := decide_eq_true (by omega)
      have c0 : ((deg (2 * m) (fr ps) 0 : Nat) : Int) = (m : Int) - 1 := by have := claw.1; omega
      have c1 : ((deg (2 * m) (fr ps) 1 : Nat) : Int) = (m : Int) - 1 := by have := claw.2.1; omega
      have d2 : (2 * (m : Int)).tdiv 2 = m := by rw [Int.tdiv_eq_ediv_of_nonneg (by omega)]; omega
      have d2' : (2 * (m : Int)) / 2 = m := by omega
      rw [c1] at h14
      have dg : ∀ a, a < 2 * m → (ints (degs (2 * m) (fr ps)))[a]? = some (.int .i64 (deg (2 * m) (fr ps) a)) := fun a ha => by simp [ints, degs, ha]
      have g0 := dg 0 (by omega)
      have g1 := dg 1 (by omega)
      rw [c0] at g0
      rw [c1] at g1
      simp (maxSteps := 1000000) (disch := first | omega | (simp only [n_alloc, n_put, n_kill, n_allocT, n_tabH, n_less]; omega) | (simp; done) | fail) [h1, h5, h10, h11, h14, h110, hm, dq1, d2, d2', g0, g1]
      refine run_for (2 * m - 1) (fun i E H' => H' = H.alloc [.int .i64 (2 * (m : Int)), .lst none ps.length 2 (pairs ps)] ∧ E 1 = bytesT l2 ∧ E 5 = .ptr (some H.n) 0 ∧ E 18 = .lst none (2 * m) 1 (ints (degs (2 * m) (fr ps))) ∧ E 145 = intsT s ∧ E 146 = .int .i64 s.length ∧ E 147 = .int .i64 i) 0 (by omega) ?_ ?_
      · simp (disch := first | omega | (simp only [n_alloc, n_put, n_kill, n_allocT, n_tabH, n_less]; omega) | (simp; done) | fail) [h1, h5, h10, h11, h14, h110, hm]
      · clear h1 h5 h10 h11 h14 h110
        clear E
        rintro i E H' hw' hi ⟨rfl, h1, h5, h18, h145, h146, h147⟩
        simp (disch := first | omega | (simp only [n_alloc, n_put, n_kill, n_allocT, n_tabH, n_less]; omega) | (simp; done) | fail) [h1, h5, h18, h145, h146, h147]
        refine cP (fun g => ?_) fun g => ?_
        · have hti : (ints s)[i]? = some (.int .i64 i) := by rw [ints, List.getElem?_map, List.getElem?_eq_getElem (by omega), tlaw i (by omega)]; rfl
          simp (disch := first | omega | (simp only [n_alloc, n_put, n_kill, n_allocT, n_tabH, n_less]; omega) | (simp; done) | fail) [h1, h5, h18, h145, h146, h147, hti]
          exact Run.of (by omega)
        · have : i = 2 * m - 1 := by omega
          subst this
          simp (disch := first | omega | (simp only [n_alloc, n_put, n_kill, n_allocT, n_tabH, n_less]; omega) | (simp; done) | fail) [h1, h5, h18, h145, h146, h147]
          refine run_for m (fun k E H' => 1 ≤ k ∧ H' = H.alloc [.int .i64 (2 * (m : Int)), .lst none ps.length 2 (pairs ps)] ∧ E 1 = bytesT l2 ∧ E 5 = .ptr (some H.n) 0 ∧ E 18 = .lst none (2 * m) 1 (ints (degs (2 * m) (fr ps))) ∧ E 22 = .int .i64 (2 * (k : Int))) 1 (by omega) ?_ ?_
          · simp (disch := first | omega | (simp only [n_alloc, n_put, n_kill, n_allocT, n_tabH, n_less]; omega) | (simp; done) | fail) [h1, h5, h18]
          · clear h1 h5 h18 h145 h146 h147 hw'
            clear E
            rintro k E H' hw' hk ⟨hk2, rfl, h1, h5, h18, h22⟩
            simp (disch := first | omega | (simp only [n_alloc, n_put, n_kill, n_allocT, n_tabH, n_less]; omega) | (simp; done) | fail) [h1, h5, h18, h22]
            refine cP (fun g => ?_) fun g => ?_
            · have p0 := dg (2 * k) (by omega)
              have p1 := dg (2 * k + 1) (by omega)
              have hsum := claw.2.2 k hk2 g
              have db1 := deg_le (2 * m) (fr ps) (2 * k)
              have db2 := deg_le (2 * m) (fr ps) (2 * k + 1)
              have dsum : decide (((deg (2 * m) (fr ps) (2 * k) : Nat) : Int) + ((deg (2 * m) (fr ps) (2 * k + 1) : Nat) : Int) = 2 * (m : Int) - 2) = true := decide_eq_true (by omega)
              have t2 : (2 * (k : Int)).toNat = 2 * k := by omega
              have t3 : (2 * (k : Int) + 1).toNat = 2 * k + 1 := by omega
              simp (disch := first | omega | (simp only [n_alloc, n_put, n_kill, n_allocT, n_tabH, n_less]; omega) | (simp; done) | fail) [h1, h5, h18, h22]
              refine run_any plan4_25 (by kernel_rfl) ?_
              simp (disch := first | omega | (simp only [n_alloc, n_put, n_kill, n_allocT, n_tabH, n_less]; omega) | (simp; done) | fail) [plan4_25, h1, h5, h18, h22, p0, p1, t2, t3, dsum]
              exact Run.of ⟨g, by omega⟩
            · have : k = m := by omega
              subst this
              simp (disch := first | omega | (simp only [n_alloc, n_put, n_kill, n_allocT, n_tabH, n_less]; omega) | (simp; done) | fail) [h1, h5, h18, h22]
              refine run_pure (drawMade_ok l2 ⟨hb2, by omega⟩) fun v hv => ?_
              obtain ⟨m, rfl⟩ := hv
              simp (disch := first | omega | (simp only [n_alloc, n_put, n_kill, n_allocT, n_tabH, n_less]; omega) | (simp; done) | fail)
              refine run_pure (implCouples_ok m) fun v hv => ?_
              have ev := hv.eq
              rcases ev with ⟨k, k1, k2, rfl, ev⟩ | ev
              · subst ev
                clear hv
                simp (disch := first | omega | (simp only [n_alloc, n_put, n_kill, n_allocT, n_tabH, n_less]; omega) | (simp; done) | fail)
                refine run_pure (specCouples_ok (k : Int)) fun v hv => ?_
                have ev := hv.yes k1 k2
                subst ev
                clear hv
                have hmade := made_couples k1 k2
                have hsmall := tabPairs_small (cpF k 0) (show 2 * k ≤ 12 by omega)
                generalize tabPairs (2 * k) (cpF k 0) = qs at *
                have e2 : ((2 * k : Nat) : Int) = 2 * (k : Int) := by omega
                rw [e2] at hmade
                simp (disch := first | omega | (simp only [n_alloc, n_put, n_kill, n_allocT, n_tabH, n_less]; omega) | (simp; done) | fail)
                refine run_pureB (vParty_ok (2 * (k : Int)) (2 * (k : Int)) qs qs hsmall hsmall) fun b hb => ?_
                have hb := hb.2 ⟨rfl, rfl⟩
                subst hb
                simp (disch := first | omega | (simp only [n_alloc, n_put, n_kill, n_allocT, n_tabH, n_less]; omega) | (simp; done) | fail)
                refine run_pure (implAre_ok (2 * (k : Int)) qs hsmall) fun v hv => ?_
                have ev := hv.eq
                subst ev
                clear hv
                rw [decide_eq_true hmade, decide_eq_true hmade.1]
                simp (disch := first | omega | (simp only [n_alloc, n_put, n_kill, n_allocT, n_tabH, n_less]; omega) | (simp; done) | fail)
                exact Done.flat (by simp (disch := first | omega | (simp only [n_alloc, n_put, n_kill, n_allocT, n_tabH, n_less]; omega) | (simp; done) | fail)) rfl rfl
              · obtain ⟨hno, ev⟩ := ev
                subst ev
                clear hv
                simp (disch := first | omega | (simp only [n_alloc, n_put, n_kill, n_allocT, n_tabH, n_less]; omega) | (simp; done) | fail)
                refine run_pure (specCouples_ok m) fun v hv => ?_
                have ev := hv.no hno
                subst ev
                clear hv
                simp (disch := first | omega | (simp only [n_alloc, n_put, n_kill, n_allocT, n_tabH, n_less]; omega) | (simp; done) | fail)
                refine run_pureB (vParty_ok 0 0 [] [] (by simp) (by simp)) fun b hb => ?_
                have hb := hb.2 ⟨rfl, rfl⟩
                subst hb
                simp (disch := first | omega | (simp only [n_alloc, n_put, n_kill, n_allocT, n_tabH, n_less]; omega) | (simp; done) | fail)
                exact Done.flat (by simp (disch := first | omega | (simp only [n_alloc, n_put, n_kill, n_allocT, n_tabH, n_less]; omega) | (simp; done) | fail)) rfl rfl
    · rw [decide_eq_false hC]
      simp (disch := first | omega | (simp only [n_alloc, n_put, n_kill, n_allocT, n_tabH, n_less]; omega) | (simp; done) | fail)
      refine run_pure (implTold_ok n ps hl) fun v hv => ?_
      rcases hv with ⟨h, _⟩ | ⟨_, rfl⟩
      · exact absurd h hC
      simp (disch := first | omega | (simp only [n_alloc, n_put, n_kill, n_allocT, n_tabH, n_less]; omega) | (simp; done) | fail)
      refine run_pure (specTold_ok n ps hl) fun v hv => ?_
      rcases hv with ⟨h, _⟩ | ⟨_, rfl⟩
      · exact absurd h hC
      simp (disch := first | omega | (simp only [n_alloc, n_put, n_kill, n_allocT, n_tabH, n_less]; omega) | (simp; done) | fail)
      refine run_pure (implSpouse_ok n ps hl) fun v hv => ?_
      rcases hv with ⟨h, _⟩ | ⟨_, rfl⟩
      · exact absurd h hC
      simp (disch := first | omega | (simp only [n_alloc, n_put, n_kill, n_allocT, n_tabH, n_less]; omega) | (simp; done) | fail)
      refine run_pure (specSpouse_ok n ps hl) fun v hv => ?_
      rcases hv with ⟨h, _⟩ | ⟨_, rfl⟩
      · exact absurd h hC
      by_cases hE : EvP n ps
      · rw [decide_eq_true hE]
        refine run_cut (fun E => E 1 = bytesT l2 ∧ E 6 = .bool false ∧ E 7 = .bool true ∧ E 8 = .bool false ∧ E 9 = .bool true ∧ E 10 = intsT [] ∧ E 11 = .bool false ∧ E 12 = intsT [] ∧ E 13 = .bool false ∧ E 14 = .int .i64 0 ∧ E 15 = .bool false ∧ E 62 = .tuple [.int .i64 0, .bool false]) (by simp (disch := first | omega | (simp only [n_alloc, n_put, n_kill, n_allocT, n_tabH, n_less]; omega) | (simp; done) | fail)) ?_
        rintro E ⟨h1, h6, h7, h8, h9, h10, h11, h12, h13, h14, h15, h62⟩
        simp (disch := first | omega | (simp only [n_alloc, n_put, n_kill, n_allocT, n_tabH, n_less]; omega) | (simp; done) | fail) [h1, h6, h7, h8, h9, h10, h11, h12, h13, h14, h15, h62]
        refine run_pureB (vSame_ok [] [] (by simp) (by simp)) fun b hb => ?_
        have hb := hb.2 rfl
        subst hb
        refine run_cut (fun E => E 1 = bytesT l2 ∧ E 6 = .bool false ∧ E 7 = .bool true ∧ E 11 = .bool false ∧ E 14 = .int .i64 0 ∧ E 15 = .bool false ∧ E 16 = .int .i64 0 ∧ E 17 = .bool false ∧ E 78 = .bool false ∧ E 81 = .bool true) (by simp (disch := first | omega | (simp only [n_alloc, n_put, n_kill, n_allocT, n_tabH, n_less]; omega) | (simp; done) | fail) [h1, h6, h7, h8, h9, h10, h11, h12, h13, h14, h15]) ?_
        clear h1 h6 h7 h8 h9 h10 h11 h12 h13 h14 h15 h62
        clear E
        rintro E ⟨h1, h6, h7, h11, h14, h15, h16, h17, h78, h81⟩
        simp (disch := first | omega | (simp only [n_alloc, n_put, n_kill, n_allocT, n_tabH, n_less]; omega) | (simp; done) | fail) [h1, h6, h7, h11, h14, h15, h16, h17, h78, h81]
        refine run_pure (drawMade_ok l2 ⟨hb2, by omega⟩) fun v hv => ?_
        obtain ⟨m, rfl⟩ := hv
        simp (disch := first | omega | (simp only [n_alloc, n_put, n_kill, n_allocT, n_tabH, n_less]; omega) | (simp; done) | fail)
        refine run_pure (implCouples_ok m) fun v hv => ?_
        have ev := hv.eq
        rcases ev with ⟨k, k1, k2, rfl, ev⟩ | ev
        · subst ev
          clear hv
          simp (disch := first | omega | (simp only [n_alloc, n_put, n_kill, n_allocT, n_tabH, n_less]; omega) | (simp; done) | fail)
          refine run_pure (specCouples_ok (k : Int)) fun v hv => ?_
          have ev := hv.yes k1 k2
          subst ev
          clear hv
          have hmade := made_couples k1 k2
          have hsmall := tabPairs_small (cpF k 0) (show 2 * k ≤ 12 by omega)
          generalize tabPairs (2 * k) (cpF k 0) = qs at *
          have e2 : ((2 * k : Nat) : Int) = 2 * (k : Int) := by omega
          rw [e2] at hmade
          simp (disch := first | omega | (simp only [n_alloc, n_put, n_kill, n_allocT, n_tabH, n_less]; omega) | (simp; done) | fail)
          refine run_pureB (vParty_ok (2 * (k : Int)) (2 * (k : Int)) qs qs hsmall hsmall) fun b hb => ?_
          have hb := hb.2 ⟨rfl, rfl⟩
          subst hb
          simp (disch := first | omega | (simp only [n_alloc, n_put, n_kill, n_allocT, n_tabH, n_less]; omega) | (simp; done) | fail)
          refine run_pure (implAre_ok (2 * (k : Int)) qs hsmall) fun v hv => ?_
          have ev := hv.eq
          subst ev
          clear hv
          rw [decide_eq_true hmade, decide_eq_true hmade.1]
          simp (disch := first | omega | (simp only [n_alloc, n_put, n_kill, n_allocT, n_tabH, n_less]; omega) | (simp; done) | fail)
          exact Done.flat (by simp (disch := first | omega | (simp only [n_alloc, n_put, n_kill, n_allocT, n_tabH, n_less]; omega) | (simp; done) | fail)) rfl rfl
        · obtain ⟨hno, ev⟩ := ev
          subst ev
          clear hv
          simp (disch := first | omega | (simp only [n_alloc, n_put, n_kill, n_allocT, n_tabH, n_less]; omega) | (simp; done) | fail)
          refine run_pure (specCouples_ok m) fun v hv => ?_
          have ev := hv.no hno
          subst ev
          clear hv
          simp (disch := first | omega | (simp only [n_alloc, n_put, n_kill, n_allocT, n_tabH, n_less]; omega) | (simp; done) | fail)
          refine run_pureB (vParty_ok 0 0 [] [] (by simp) (by simp)) fun b hb => ?_
          have hb := hb.2 ⟨rfl, rfl⟩
          subst hb
          simp (disch := first | omega | (simp only [n_alloc, n_put, n_kill, n_allocT, n_tabH, n_less]; omega) | (simp; done) | fail)
          exact Done.flat (by simp (disch := first | omega | (simp only [n_alloc, n_put, n_kill, n_allocT, n_tabH, n_less]; omega) | (simp; done) | fail)) rfl rfl
      · rw [decide_eq_false hE]
        refine run_cut (fun E => E 1 = bytesT l2 ∧ E 6 = .bool false ∧ E 7 = .bool false ∧ E 8 = .bool false ∧ E 9 = .bool false ∧ E 10 = intsT [] ∧ E 11 = .bool false ∧ E 12 = intsT [] ∧ E 13 = .bool false ∧ E 14 = .int .i64 0 ∧ E 15 = .bool false ∧ E 62 = .tuple [.int .i64 0, .bool false]) (by simp (disch := first | omega | (simp only [n_alloc, n_put, n_kill, n_allocT, n_tabH, n_less]; omega) | (simp; done) | fail)) ?_
        rintro E ⟨h1, h6, h7, h8, h9, h10, h11, h12, h13, h14, h15, h62⟩
        simp (disch := first | omega | (simp only [n_alloc, n_put, n_kill, n_allocT, n_tabH, n_less]; omega) | (simp; done) | fail) [h1, h6, h7, h8, h9, h10, h11, h12, h13, h14, h15, h62]
        refine run_pureB (vSame_ok [] [] (by simp) (by simp)) fun b hb => ?_
        have hb := hb.2 rfl
        subst hb
        refine run_cut (fun E => E 1 = bytesT l2 ∧ E 6 = .bool false ∧ E 7 = .bool false ∧ E 11 = .bool false ∧ E 14 = .int .i64 0 ∧ E 15 = .bool false ∧ E 16 = .int .i64 0 ∧ E 17 = .bool false ∧ E 78 = .bool false ∧ E 81 = .bool true) (by simp (disch := first | omega | (simp only [n_alloc, n_put, n_kill, n_allocT, n_tabH, n_less]; omega) | (simp; done) | fail) [h1, h6, h7, h8, h9, h10, h11, h12, h13, h14, h15]) ?_
        clear h1 h6 h7 h8 h9 h10 h11 h12 h13 h14 h15 h62
        clear E
        rintro E ⟨h1, h6, h7, h11, h14, h15, h16, h17, h78, h81⟩
        simp (disch := first | omega | (simp only [n_alloc, n_put, n_kill, n_allocT, n_tabH, n_less]; omega) | (simp; done) | fail) [h1, h6, h7, h11, h14, h15, h16, h17, h78, h81]
        refine run_pure (drawMade_ok l2 ⟨hb2, by omega⟩) fun v hv => ?_
        obtain ⟨m, rfl⟩ := hv
        simp (disch := first | omega | (simp only [n_alloc, n_put, n_kill, n_allocT, n_tabH, n_less]; omega) | (simp; done) | fail)
        refine run_pure (implCouples_ok m) fun v hv => ?_
        have ev := hv.eq
        rcases ev with ⟨k, k1, k2, rfl, ev⟩ | ev
        · subst ev
          clear hv
          simp (disch := first | omega | (simp only [n_alloc, n_put, n_kill, n_allocT, n_tabH, n_less]; omega) | (simp; done) | fail)
          refine run_pure (specCouples_ok (k : Int)) fun v hv => ?_
          have ev := hv.yes k1 k2
          subst ev
          clear hv
          have hmade := made_couples k1 k2
          have hsmall := tabPairs_small (cpF k 0) (show 2 * k ≤ 12 by omega)
          generalize tabPairs (2 * k) (cpF k 0) = qs at *
          have e2 : ((2 * k : Nat) : Int) = 2 * (k : Int) := by omega
          rw [e2] at hmade
          simp (disch := first | omega | (simp only [n_alloc, n_put, n_kill, n_allocT, n_tabH, n_less]; omega) | (simp; done) | fail)
          refine run_pureB (vParty_ok (2 * (k : Int)) (2 * (k : Int)) qs qs hsmall hsmall) fun b hb => ?_
          have hb := hb.2 ⟨rfl, rfl⟩
          subst hb
          simp (disch := first | omega | (simp only [n_alloc, n_put, n_kill, n_allocT, n_tabH, n_less]; omega) | (simp; done) | fail)
          refine run_pure (implAre_ok (2 * (k : Int)) qs hsmall) fun v hv => ?_
          have ev := hv.eq
          subst ev
          clear hv
          rw [decide_eq_true hmade, decide_eq_true hmade.1]
          simp (disch := first | omega | (simp only [n_alloc, n_put, n_kill, n_allocT, n_tabH, n_less]; omega) | (simp; done) | fail)
          exact Done.flat (by simp (disch := first | omega | (simp only [n_alloc, n_put, n_kill, n_allocT, n_tabH, n_less]; omega) | (simp; done) | fail)) rfl rfl
        · obtain ⟨hno, ev⟩ := ev
          subst ev
          clear hv
          simp (disch := first | omega | (simp only [n_alloc, n_put, n_kill, n_allocT, n_tabH, n_less]; omega) | (simp; done) | fail)
          refine run_pure (specCouples_ok m) fun v hv => ?_
          have ev := hv.no hno
          subst ev
          clear hv
          simp (disch := first | omega | (simp only [n_alloc, n_put, n_kill, n_allocT, n_tabH, n_less]; omega) | (simp; done) | fail)
          refine run_pureB (vParty_ok 0 0 [] [] (by simp) (by simp)) fun b hb => ?_
          have hb := hb.2 ⟨rfl, rfl⟩
          subst hb
          simp (disch := first | omega | (simp only [n_alloc, n_put, n_kill, n_allocT, n_tabH, n_less]; omega) | (simp; done) | fail)
          exact Done.flat (by simp (disch := first | omega | (simp only [n_alloc, n_put, n_kill, n_allocT, n_tabH, n_less]; omega) | (simp; done) | fail)) rfl rfl
end Go.Proofs.Ythkmbfifiojmhaa
