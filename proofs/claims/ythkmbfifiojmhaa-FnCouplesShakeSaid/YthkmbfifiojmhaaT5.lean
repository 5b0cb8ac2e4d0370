/- The parties of tables. -/
import Derived.Test.YthkmbfifiojmhaaT4
set_option linter.unusedSimpArgs false
set_option linter.unusedVariables false
set_option maxRecDepth 100000
namespace Go.Proofs.Ythkmbfifiojmhaa
open Go.Abs
variable {w0 : World} {H : Heap}
attribute [simp] tabT rowV rowT_length rowT_get
theorem tabTo_zero (n : Nat) (f : Nat → Nat → Bool) : tabTo n f 0 = [] := rfl
/-- A party comes back whose pairs have been written one behind the other. -/
theorem Done.party {H H' : Heap} {n0 : Nat} {n : Int} {v : AV} {ps : List (Int × Int)} (hw : H.wf) (he : Ext H H') (hT : Tl n0 H' v ps.length 2 (pairs ps)) : Done H H' (.agg [.int .i64 n, v]) fun r => r = partyT n ps :=
  .mk hw he (fun hs => Fz.agg (FzL.cons (Fz.flat rfl) (FzL.cons (hT.fz hs (FzL.flat (flats_pairs _))) FzL.nil))) rfl
theorem tab_step {n : Nat} {f : Nat → Nat → Bool} {i j : Nat} (hij : i < j) : tabTo n f i ++ rowPairs f i (j + 1) = (tabTo n f i ++ rowPairs f i j) ++ if f i j then [((i : Int), (j : Int))] else [] := by
  rw [rowPairs_step f i j hij, List.append_assoc]
theorem tabTo_le {n : Nat} {f : Nat → Nat → Bool} {i : Nat} (hn : n ≤ 12) (hi : i ≤ n) : (tabTo n f i).length ≤ 144 := Nat.le_trans (tabTo_len n f i) (Nat.le_trans (Nat.mul_le_mul (show i ≤ 12 by omega) hn) (by omega))
theorem paOfA_ok (n : Nat) (f : Nat → Nat → Bool) (hn : n ≤ 12) : ACall Try.prog w0 59 [tabT n f] H fun v H' => Ext H H' ∧ ∃ vs, v = .agg [.int .i64 n, vs] ∧ Tl H.n H' vs (tabPairs n f).length 2 (pairs (tabPairs n f)) := by
  refine ACall.enterW mix Try.func59 (by kernel_rfl) fun hw => ?_
  simp (disch := first | omega | (simp only [n_alloc, n_put, n_kill, n_allocT, n_tabH, n_less]; omega) | (simp; done) | fail) [Try.f59]
  refine run_for n (fun i E H' => Ext H H' ∧ E 0 = tabT n f ∧ E 10 = .int .i64 n ∧ E 11 = .int .i64 i ∧ E 2 = .ptr (some H.n) 0 ∧ E 3 = .ptr (some (H.n + 1)) 0 ∧ (∃ x y, H'.get H.n = some (.cells [x, y] true)) ∧
    ∃ vs, H'.get (H.n + 1) = some (.cells [.int .i64 n, vs] true) ∧ Tl (H.n + 2) H' vs (tabTo n f i).length 2 (pairs (tabTo n f i))) 0 (Nat.zero_le _) ?_ ?_
  · simp (disch := first | omega | (simp only [n_alloc, n_put, n_kill, n_allocT, n_tabH, n_less]; omega) | (simp; done) | fail) [tabTo_zero]
    exact Tl.nil
  · rintro i E H' hw' hi ⟨he, h0, h10, h11, h2, h3, ⟨x, y, g0⟩, vs, g1, hT⟩
    simp (disch := first | omega | (simp only [n_alloc, n_put, n_kill, n_allocT, n_tabH, n_less]; omega) | (simp; done) | fail) [h0, h10, h11, h2, h3]
    refine cP (fun h => ?_) fun h => ?_
    · simp (disch := first | omega | (simp only [n_alloc, n_put, n_kill, n_allocT, n_tabH, n_less]; omega) | (simp; done) | fail) [h0, h10, h11, h2, h3]
      refine run_for n (fun j E H' => i + 1 ≤ j ∧ Ext H H' ∧ E 0 = tabT n f ∧ E 10 = .int .i64 n ∧ E 11 = .int .i64 i ∧ E 4 = .int .i64 i ∧ E 5 = .int .i64 j ∧ E 2 = .ptr (some H.n) 0 ∧ E 3 = .ptr (some (H.n + 1)) 0 ∧ (∃ x y, H'.get H.n = some (.cells [x, y] true)) ∧
        ∃ vs, H'.get (H.n + 1) = some (.cells [.int .i64 n, vs] true) ∧ Tl (H.n + 2) H' vs (tabTo n f i ++ rowPairs f i j).length 2 (pairs (tabTo n f i ++ rowPairs f i j))) (i + 1) (by omega) ?_ ?_
      · simp (disch := first | omega | (simp only [n_alloc, n_put, n_kill, n_allocT, n_tabH, n_less]; omega) | (simp; done) | fail) [h0, h10, h11, h2, h3]
        rw [rowPairs_zero f i (i + 1) (by omega), List.append_nil]
        exact ⟨he, ⟨x, y, g0⟩, vs, g1, hT⟩
      · clear hw' he h0 h10 h11 h2 h3 g0 g1 hT
        clear vs x y H' E
        rintro j E H' hw' hj ⟨hij, he, h0, h10, h11, h4, h5, h2, h3, ⟨x, y, g0⟩, vs, g1, hT⟩
        simp (disch := first | omega | (simp only [n_alloc, n_put, n_kill, n_allocT, n_tabH, n_less]; omega) | (simp; done) | fail) [h0, h10, h11, h4, h5, h2, h3]
        refine cP (fun g => ?_) fun g => ?_
        · simp (disch := first | omega | (simp only [n_alloc, n_put, n_kill, n_allocT, n_tabH, n_less]; omega) | (simp; done) | fail) [h0, h10, h11, h4, h5, h2, h3]
          have hlen1 := tabTo_le (f := f) hn hi
          have hlen2 := rowPairs_len f i j
          have hst := tab_step (n := n) (f := f) (i := i) (j := j) (by omega)
          refine cB (fun hf => ?_) fun hf => ?_
          · simp (disch := first | omega | (simp only [n_alloc, n_put, n_kill, n_allocT, n_tabH, n_less]; omega) | (simp; done) | fail) [h0, h10, h11, h4, h5, h2, h3, g1]
            refine build_lst ?_
            simp (disch := first | omega | (simp only [n_alloc, n_put, n_kill, n_allocT, n_tabH, n_less]; omega) | (simp; done) | fail) [buildL]
            have hlt := hw' _ _ g1
            refine append_tl (n := 1) (new := [.int .i64 i, .int .i64 j]) hT hw' (by (first | omega | (simp only [n_alloc, n_put, n_kill, n_allocT, n_tabH, n_less]; omega))) (by simp (disch := first | omega | (simp only [n_alloc, n_put, n_kill, n_allocT, n_tabH, n_less]; omega) | (simp; done) | fail); omega) (by simp (disch := first | omega | (simp only [n_alloc, n_put, n_kill, n_allocT, n_tabH, n_less]; omega) | (simp; done) | fail)) (by omega) (by simp (disch := first | omega | (simp only [n_alloc, n_put, n_kill, n_allocT, n_tabH, n_less]; omega) | (simp; done) | fail)) (by simp (disch := first | omega | (simp only [n_alloc, n_put, n_kill, n_allocT, n_tabH, n_less]; omega) | (simp; done) | fail)) (by simp (disch := first | omega | (simp only [n_alloc, n_put, n_kill, n_allocT, n_tabH, n_less]; omega) | (simp; done) | fail)) (by simp (disch := first | omega | (simp only [n_alloc, n_put, n_kill, n_allocT, n_tabH, n_less]; omega) | (simp; done) | fail); omega) fun v2 H2 hw2 hT2 hk2 _ => ?_
            have g12 := hT.rows hw' hk2 g1
            have g02 := hT.rows hw' hk2 g0
            have e1 : pairs (tabTo n f i ++ rowPairs f i j) ++ [AV.int .i64 i, AV.int .i64 j] = pairs (tabTo n f i ++ rowPairs f i (j + 1)) := by rw [hst, hf, if_pos rfl, pairs_append _ [_]]; rfl
            have e2 : (tabTo n f i ++ rowPairs f i j).length + 1 = (tabTo n f i ++ rowPairs f i (j + 1)).length := by rw [hst, hf, if_pos rfl]; simp; omega
            rw [e1, e2] at hT2
            simp (disch := first | omega | (simp only [n_alloc, n_put, n_kill, n_allocT, n_tabH, n_less]; omega) | (simp; done) | fail) [h0, h10, h11, h4, h5, h2, h3, g12, g02, hT2.one, hT2.cells]
            refine ⟨g, by omega, hT.ext hk2 he (by omega), ?_⟩
            have := hT2.put g12 (ds := [.int .i64 n, v2])
            simpa using this
          · simp (disch := first | omega | (simp only [n_alloc, n_put, n_kill, n_allocT, n_tabH, n_less]; omega) | (simp; done) | fail) [h0, h10, h11, h4, h5, h2, h3, g0, g1]
            refine ⟨g, by omega, he, ?_⟩
            rw [hf] at hst
            simp only [Bool.false_eq_true, if_false, List.append_nil] at hst
            rw [← hst] at hT
            simpa using hT
        · have : j = n := by omega
          subst this
          simp (disch := first | omega | (simp only [n_alloc, n_put, n_kill, n_allocT, n_tabH, n_less]; omega) | (simp; done) | fail) [h0, h10, h11, h4, h5, h2, h3]
          exact ⟨h, he, ⟨x, y, g0⟩, vs, g1, by rw [tabTo_step]; simpa using hT⟩
    · have : i = n := by omega
      subst this
      simp (disch := first | omega | (simp only [n_alloc, n_put, n_kill, n_allocT, n_tabH, n_less]; omega) | (simp; done) | fail) [h2, h3, g0, g1, hT.one, hT.cells]
      exact ⟨he, (hT.put g0).base (by omega)⟩
theorem paOf_ok (n : Nat) (f : Nat → Nat → Bool) (hn : n ≤ 12) : PCall Try.prog 59 [tabT n f] fun v => v = partyT n (tabPairs n f) :=
  PCall.of fun w0 H hw => (paOfA_ok n f hn).mono fun v H' ⟨he, vs, e, hT⟩ => by subst e; exact Done.party hw he hT
theorem Done.partyT {H H' : Heap} {n : Int} {ps qs : List (Int × Int)} (hw : H.wf) (he : Ext H H') (e : ps = qs) : Done H H' (.agg [.int .i64 n, .lst none ps.length 2 (pairs ps)]) fun r => r = partyT n qs :=
  .same hw he (by simp only [AV.under, unders]; exact ⟨trivial, ⟨(by intro b hb; cases hb), unders_of_flats _ (flats_pairs _)⟩, trivial⟩) (by subst e; rfl)
theorem tabPairs_congr {n : Nat} {f g : Nat → Nat → Bool} (h : ∀ x y, x < n → y < n → f x y = g x y) : tabPairs n f = tabPairs n g := by
  unfold tabPairs tabTo
  rw [List.flatMap_def, List.flatMap_def]
  congr 1
  apply List.map_congr_left
  intro a ha
  unfold rowPairs
  congr 1
  apply List.filter_congr
  intro b hb
  rw [h a b (List.mem_range.1 ha) (List.mem_range.1 hb)]
theorem paOther_ok (n : Nat) (ps : List (Int × Int)) (hg : GoodP n ps) (hl : ps.length < 2 ^ 31) : PCall Try.prog 71 [partyT n ps] fun v => v = partyT n (tabPairs n fun a b => !fr ps a b) := by
  have hn := hg.1
  refine PCall.run mix Try.func71 (by kernel_rfl) fun w0 H hw => ?_
  simp (disch := first | omega | (simp only [n_alloc, n_put, n_kill, n_allocT, n_tabH, n_less]; omega) | (simp; done) | fail) [Try.f71]
  refine box_f rfl ?_
  simp (disch := first | omega | (simp only [n_alloc, n_put, n_kill, n_allocT, n_tabH, n_less]; omega) | (simp; done) | fail)
  refine call_of (paTableOwn_ok n ps hg hl) fun v H1 hw1 ⟨hv, he1⟩ => ?_
  subst hv he1
  simp (disch := first | omega | (simp only [n_alloc, n_put, n_kill, n_allocT, n_tabH, n_less]; omega) | (simp; done) | fail) [tabO]
  -- each person's row in turn
  refine run_for n (fun a E H' => ∃ f, H' = tabH (H.alloc [.int .i64 0, .slice none 0 0 1 (some 0)]) n f ∧ E 2 = .ptr (some H.n) 0 ∧ E 3 = tabO (H.n + 1) n ∧ E 9 = .int .i64 n ∧ E 10 = .int .i64 a ∧ ∀ x y, x < n → y < n → f x y = if x < a then !fr ps x y else fr ps x y) 0 (Nat.zero_le _) ?_ ?_
  · simp (disch := first | omega | (simp only [n_alloc, n_put, n_kill, n_allocT, n_tabH, n_less]; omega) | (simp; done) | fail) [tabO]
    exact ⟨_, rfl, fun x y _ _ => rfl⟩
  · rintro a E H' hw' ha ⟨f, rfl, h2, h3, h9, h10, hf⟩
    simp (disch := first | omega | (simp only [n_alloc, n_put, n_kill, n_allocT, n_tabH, n_less]; omega) | (simp; done) | fail) [h2, h3, h9, h10, tabO]
    refine cP (fun h => ?_) fun h => ?_
    · simp (disch := first | omega | (simp only [n_alloc, n_put, n_kill, n_allocT, n_tabH, n_less]; omega) | (simp; done) | fail) [h2, h3, h9, h10, tabO]
      refine run_for n (fun b E H' => ∃ f, H' = tabH (H.alloc [.int .i64 0, .slice none 0 0 1 (some 0)]) n f ∧ E 2 = .ptr (some H.n) 0 ∧ E 3 = tabO (H.n + 1) n ∧ E 4 = .int .i64 a ∧ E 9 = .int .i64 n ∧ E 10 = .int .i64 a ∧ E 14 = .int .i64 n ∧ E 15 = .int .i64 b ∧ ∀ x y, x < n → y < n → f x y = if x < a ∨ x = a ∧ y < b then !fr ps x y else fr ps x y) 0 (Nat.zero_le _) ?_ ?_
      · simp (disch := first | omega | (simp only [n_alloc, n_put, n_kill, n_allocT, n_tabH, n_less]; omega) | (simp; done) | fail) [h2, h3, h9, h10, tabO]
        exact ⟨f, rfl, hf⟩
      · clear hf hw' h2 h3 h9 h10
        clear f E
        rintro b E H' hw' hb ⟨f, rfl, h2, h3, h4, h9, h10, h14, h15, hf⟩
        simp (disch := first | omega | (simp only [n_alloc, n_put, n_kill, n_allocT, n_tabH, n_less]; omega) | (simp; done) | fail) [h2, h3, h4, h9, h10, h14, h15, tabO]
        refine cP (fun g => ?_) fun g => ?_
        · simp (disch := first | omega | (simp only [n_alloc, n_put, n_kill, n_allocT, n_tabH, n_less]; omega) | (simp; done) | fail) [h2, h3, h4, h9, h10, h14, h15, tabO]
          refine run_any plan71_8 (by kernel_rfl) ?_
          have hget : (tabH (H.alloc [.int .i64 0, .slice none 0 0 1 (some 0)]) n f).get (H.n + 1 + a) = some (.cells (bools (rowT n (f a))) true) := tabH_get (H := H.alloc _) h
          have hput : ∀ v, (tabH (H.alloc [.int .i64 0, .slice none 0 0 1 (some 0)]) n f).put (H.n + 1 + a) (splice (bools (rowT n (f a))) b [.bool v]) = tabH (H.alloc [.int .i64 0, .slice none 0 0 1 (some 0)]) n (updT f a b v) := fun v => tabH_put (H := H.alloc _) h g
          simp (disch := first | omega | (simp only [n_alloc, n_put, n_kill, n_allocT, n_tabH, n_less]; omega) | (simp; done) | fail) [plan71_8, h2, h3, h4, h9, h10, h14, h15, tabO, hget, hput]
          refine ⟨by omega, g, _, rfl, fun x y hx hy => ?_⟩
          simp only [updT]
          have h1 := hf x y hx hy
          have h2 := hf a b h g
          rw [if_neg (by omega)] at h2
          by_cases e : x = a ∧ y = b
          · rw [if_pos e, if_pos (by omega), h2, e.1, e.2]
          · rw [if_neg e, h1]
            by_cases e2 : x < a ∨ x = a ∧ y < b
            · rw [if_pos e2, if_pos (by omega)]
            · rw [if_neg e2, if_neg (by omega)]
        · have : b = n := by omega
          subst this
          simp (disch := first | omega | (simp only [n_alloc, n_put, n_kill, n_allocT, n_tabH, n_less]; omega) | (simp; done) | fail) [h2, h3, h4, h9, h10, tabO]
          refine ⟨h, f, rfl, fun x y hx hy => ?_⟩
          rw [hf x y hx hy]
          by_cases e : x < a + 1
          · rw [if_pos e, if_pos (by omega)]
          · rw [if_neg e, if_neg (by omega)]
    · have : a = n := by omega
      subst this
      simp (disch := first | omega | (simp only [n_alloc, n_put, n_kill, n_allocT, n_tabH, n_less]; omega) | (simp; done) | fail) [h2, h3]
      refine run_frzT (H := H.alloc [.int .i64 0, .slice none 0 0 1 (some 0)]) (wf_alloc hw) (paOf_ok a f (by omega)) fun v hv => ?_
      subst hv
      simp (disch := first | omega | (simp only [n_alloc, n_put, n_kill, n_allocT, n_tabH, n_less]; omega) | (simp; done) | fail) [h2, h3]
      exact Done.partyT hw (by rw [ext_put (by (first | omega | (simp only [n_alloc, n_put, n_kill, n_allocT, n_tabH, n_less]; omega))), ext_less (by (first | omega | (simp only [n_alloc, n_put, n_kill, n_allocT, n_tabH, n_less]; omega))) (by (first | omega | (simp only [n_alloc, n_put, n_kill, n_allocT, n_tabH, n_less]; omega))), ext_tabH (by (first | omega | (simp only [n_alloc, n_put, n_kill, n_allocT, n_tabH, n_less]; omega)))]; simp (disch := first | omega | (simp only [n_alloc, n_put, n_kill, n_allocT, n_tabH, n_less]; omega) | (simp; done) | fail)) (tabPairs_congr fun x y hx hy => by rw [hf x y hx hy, if_pos hx])
end Go.Proofs.Ythkmbfifiojmhaa
