/- Drawn parties. -/
import Derived.Test.YthkmbfifiojmhaaT6
set_option linter.unusedSimpArgs false
set_option linter.unusedVariables false
set_option maxRecDepth 100000
namespace Go.Proofs.Ythkmbfifiojmhaa
open Go.Abs
variable {w0 : World} {H : Heap}
theorem goodNil {n : Nat} (h : n ≤ 12) : GoodP n [] := ⟨by omega, fun i hi => by simp at hi⟩
/-- A party value, whatever its numbers are: few pairs. -/
def SomeP (v : AV) : Prop := ∃ (n : Int) (ps : List (Int × Int)), v = partyT n ps ∧ ps.length ≤ 145 ∧ (-1 ≤ n ∧ n ≤ 4611686018427387904) ∧ ∀ p ∈ ps, (-1 ≤ p.1 ∧ p.1 ≤ 4611686018427387904) ∧ (-1 ≤ p.2 ∧ p.2 ≤ 4611686018427387904)
theorem tabPairs_bd {n : Nat} {f : Nat → Nat → Bool} {p : Int × Int} (hp : p ∈ tabPairs n f) : 0 ≤ p.1 ∧ p.1 < p.2 ∧ p.2 < n := by
  simp only [tabPairs, tabTo, List.mem_flatMap, List.mem_range, rowPairs, List.mem_map, List.mem_filter] at hp
  obtain ⟨a, ha, b, ⟨hb, hab⟩, rfl⟩ := hp
  simp at hab
  simp only
  omega
/-- A party drawn: the hand has gone on, pairs that may be gone on with have come. -/
def DrewP (H : Heap) (bc m n : Nat) (v : AV) (H' : Heap) : Prop := ∃ c f vs, CurOk c m ∧ H'.get bc = some (.cells c true) ∧ Keep (some bc) H H' ∧ v = .agg [.int .i64 n, vs] ∧ Tl H.n H' vs (tabPairs n f).length 2 (pairs (tabPairs n f))
theorem tabPairs_some (n : Nat) (f : Nat → Nat → Bool) (hn : n ≤ 12) : SomeP (partyT n (tabPairs n f)) := by
  refine ⟨n, _, rfl, ?_, by omega, ?_⟩
  · have := tabTo_len n f n
    have : n * n ≤ 144 := Nat.le_trans (Nat.mul_le_mul hn hn) (by omega)
    simp only [tabPairs]; omega
  · intro p hp
    simp only [tabPairs, tabTo, List.mem_flatMap, List.mem_range, rowPairs, List.mem_map, List.mem_filter] at hp
    obtain ⟨a, ha, b, ⟨hb, _⟩, rfl⟩ := hp
    simp only
    omega
/-- A nil slice of pairs is the empty list. -/
theorem rc_party0 {n : Int} {s : Nat} : Rc (.agg [.int .i64 n, .slice none 0 0 s (some 0)]) (partyT n []) := Rc.agg (Rcs.cons Rc.refl (Rcs.cons (by exact Rc.nil) Rcs.nil))
theorem paTable0_ok (n : Nat) (hn : n ≤ 12) (s : Nat) : ACall Try.prog w0 31 [.agg [.int .i64 n, .slice none 0 0 s (some 0)]] H fun v H' => v = tabO H.n n ∧ H' = tabH H n (fr []) :=
  ACall.recast (fun σ vs h => Rcs.cons rc_party0 Rcs.nil σ vs h) (paTableOwn_ok n [] (goodNil hn) (by simp))
theorem under_partyT {n : Int} {ps : List (Int × Int)} {N : Nat} : (partyT n ps).under N := by
  simp only [partyT, pairsT, AV.under, unders]
  exact ⟨trivial, ⟨(by intro b hb; cases hb), unders_of_flats _ (flats_pairs _)⟩, trivial⟩
theorem sureParty_ok (bc m n : Nat) (c : List AV) (hn : n ≤ 12) (hm : m < 2 ^ 38) (hbc : bc < H.n) (hg : H.get bc = some (.cells c true)) (hC : CurOk c m) : ACall Try.prog w0 70 [.ptr (some bc) 0, .int .i64 n] H fun v H' => DrewP H bc (m + 1000) n v H' := by
  refine ACall.enterW mix Try.func70 (by kernel_rfl) fun hw => ?_
  simp (disch := first | omega | (simp only [n_alloc, n_put, n_kill, n_allocT, n_tabH, n_less]; omega) | (simp; done) | fail) [Try.f70]
  refine call_of (paTable0_ok n hn 1) fun v H1 hw1 ⟨hv, he1⟩ => ?_
  subst hv he1
  simp (disch := first | omega | (simp only [n_alloc, n_put, n_kill, n_allocT, n_tabH, n_less]; omega) | (simp; done) | fail) [tabO]
  refine call_of (pick_ok bc m c 4 (by omega) (by omega) (by (first | omega | (simp only [n_alloc, n_put, n_kill, n_allocT, n_tabH, n_less]; omega))) (by simp (disch := first | omega | (simp only [n_alloc, n_put, n_kill, n_allocT, n_tabH, n_less]; omega) | (simp; done) | fail) [hg]) hC) fun v H2 hw2 ⟨c2, he2, hC2, r, hv, hr⟩ => ?_
  subst hv he2
  simp (disch := first | omega | (simp only [n_alloc, n_put, n_kill, n_allocT, n_tabH, n_less]; omega) | (simp; done) | fail)
  refine run_for n (fun a E H' => ∃ c, (∃ f, H' = tabH ((H.put bc c).alloc [.int .i64 0, .slice none 0 0 1 (some 0)]) n f) ∧ CurOk c (m + 2 + 24 * a) ∧ E 0 = .ptr (some bc) 0 ∧ E 1 = .int .i64 n ∧ E 4 = .ptr (some H.n) 0 ∧ E 5 = tabO (H.n + 1) n ∧ E 6 = .int .i64 (1 + r) ∧ E 7 = .int .i64 a) 0 (Nat.zero_le _) ?_ ?_
  · simp (disch := first | omega | (simp only [n_alloc, n_put, n_kill, n_allocT, n_tabH, n_less]; omega) | (simp; done) | fail) [tabO]
    exact ⟨c2, ⟨fr [], rfl⟩, hC2⟩
  · rintro a E H' hw' ha ⟨c2, ⟨f, rfl⟩, hCa, h0, h1, h4, h5, h6, h7⟩
    simp (disch := first | omega | (simp only [n_alloc, n_put, n_kill, n_allocT, n_tabH, n_less]; omega) | (simp; done) | fail) [h0, h1, h4, h5, h6, h7]
    refine cP (fun h => ?_) fun h => ?_
    · simp (disch := first | omega | (simp only [n_alloc, n_put, n_kill, n_allocT, n_tabH, n_less]; omega) | (simp; done) | fail) [h0, h1, h4, h5, h6, h7]
      refine run_for n (fun j E H' => a + 1 ≤ j ∧ ∃ c, (∃ f, H' = tabH ((H.put bc c).alloc [.int .i64 0, .slice none 0 0 1 (some 0)]) n f) ∧ CurOk c (m + 2 + 24 * a + 2 * j) ∧ E 0 = .ptr (some bc) 0 ∧ E 1 = .int .i64 n ∧ E 4 = .ptr (some H.n) 0 ∧ E 5 = tabO (H.n + 1) n ∧ E 6 = .int .i64 (1 + r) ∧ E 7 = .int .i64 a ∧ E 8 = .int .i64 j) (a + 1) (by omega) ?_ ?_
      · simp (disch := first | omega | (simp only [n_alloc, n_put, n_kill, n_allocT, n_tabH, n_less]; omega) | (simp; done) | fail) [h0, h1, h4, h5, h6, h7]
        exact ⟨c2, ⟨f, rfl⟩, hCa.mono (by omega)⟩
      · rintro j E H' hw' hj ⟨haj, c2, ⟨f, rfl⟩, hCa, h0, h1, h4, h5, h6, h7, h8⟩
        simp (disch := first | omega | (simp only [n_alloc, n_put, n_kill, n_allocT, n_tabH, n_less]; omega) | (simp; done) | fail) [h0, h1, h4, h5, h6, h7, h8]
        refine cP (fun g => ?_) fun g => ?_
        · simp (disch := first | omega | (simp only [n_alloc, n_put, n_kill, n_allocT, n_tabH, n_less]; omega) | (simp; done) | fail) [h0, h1, h4, h5, h6, h7, h8]
          refine call_of (pick_ok bc _ c2 5 (by omega) (by omega) (by (first | omega | (simp only [n_alloc, n_put, n_kill, n_allocT, n_tabH, n_less]; omega))) (by simp (disch := first | omega | (simp only [n_alloc, n_put, n_kill, n_allocT, n_tabH, n_less]; omega) | (simp; done) | fail)) hCa) fun v H3 hw3 ⟨c3, he3, hC3, q, hv, hq⟩ => ?_
          subst hv he3
          have hget : ∀ (K : Heap) f x, x < n → K.n = H.n → (tabH (K.alloc [.int .i64 0, .slice none 0 0 1 (some 0)]) n f).get (H.n + 1 + x) = some (.cells (bools (rowT n (f x))) true) := fun K f x hx e => by rw [← e]; exact tabH_get (H := K.alloc _) hx
          have hput : ∀ (K : Heap) f x y v, x < n → y < n → K.n = H.n → (tabH (K.alloc [.int .i64 0, .slice none 0 0 1 (some 0)]) n f).put (H.n + 1 + x) (splice (bools (rowT n (f x))) y [.bool v]) = tabH (K.alloc [.int .i64 0, .slice none 0 0 1 (some 0)]) n (updT f x y v) := fun K f x y v hx hy e => by rw [← e]; exact tabH_put (H := K.alloc _) hx hy
          simp (disch := first | omega | (simp only [n_alloc, n_put, n_kill, n_allocT, n_tabH, n_less]; omega) | (simp; done) | fail) [h0, h1, h4, h5, h6, h7, h8, tabO, hget, hput]
          exact ⟨by omega, by omega, g, by omega, c3, ⟨_, rfl⟩, hC3.mono (by omega)⟩
        · have : j = n := by omega
          subst this
          simp (disch := first | omega | (simp only [n_alloc, n_put, n_kill, n_allocT, n_tabH, n_less]; omega) | (simp; done) | fail) [h0, h1, h4, h5, h6, h7, h8]
          exact ⟨h, c2, ⟨f, rfl⟩, hCa.mono (by omega)⟩
    · have : a = n := by omega
      subst this
      simp (disch := first | omega | (simp only [n_alloc, n_put, n_kill, n_allocT, n_tabH, n_less]; omega) | (simp; done) | fail) [h4, h5]
      have hwP : ((H.put bc c2).alloc [.int .i64 0, .slice none 0 0 1 (some 0)]).wf := wf_alloc (wf_put hw hbc)
      refine run_frzA (H := (H.put bc c2).alloc [.int .i64 0, .slice none 0 0 1 (some 0)]) hwP (call_of (paOfA_ok a f hn) fun v H4 hw4 ⟨he4, vs, hv, hT⟩ => ?_)
      subst hv
      have hk : Keep (some bc) H ((tabH ((H.put bc c2).alloc [.int .i64 0, .slice none 0 0 1 (some 0)]) a f).less (H.n + 1)) := by (repeat (first | exact Keep.refl _ _ | assumption | refine keep_put ?_ (by first | exact .inr rfl | exact .inl (by (first | omega | (simp only [n_alloc, n_put, n_kill, n_allocT, n_tabH, n_less]; omega)))) | refine keep_al ?_ | refine keep_tab ?_ | refine keep_less ?_ (by (first | omega | (simp only [n_alloc, n_put, n_kill, n_allocT, n_tabH, n_less]; omega)))))
      have g1 : H4.get H.n = some (.cells [.int .i64 0, .slice none 0 0 1 (some 0)] true) := by
        rw [he4.2 _ (by (first | omega | (simp only [n_alloc, n_put, n_kill, n_allocT, n_tabH, n_less]; omega)))]
        simp (disch := first | omega | (simp only [n_alloc, n_put, n_kill, n_allocT, n_tabH, n_less]; omega) | (simp; done) | fail)
      have g2 : H4.get bc = some (.cells c2 true) := by
        rw [he4.2 _ (by (first | omega | (simp only [n_alloc, n_put, n_kill, n_allocT, n_tabH, n_less]; omega)))]
        simp (disch := first | omega | (simp only [n_alloc, n_put, n_kill, n_allocT, n_tabH, n_less]; omega) | (simp; done) | fail)
      have hn4 := he4.1
      simp only [n_less, n_tabH, n_alloc, n_put] at hn4
      simp (disch := first | omega | (simp only [n_alloc, n_put, n_kill, n_allocT, n_tabH, n_less]; omega) | (simp; done) | fail) [h4, h5, g1, hT.one, hT.cells]
      exact ⟨c2, f, vs, hCa.mono (by omega), by rw [get_put_old (by omega)]; exact g2, keep_put (hk.trans he4.keep) (.inl (Nat.le_refl _)), rfl, (hT.put g1).base (by (first | omega | (simp only [n_alloc, n_put, n_kill, n_allocT, n_tabH, n_less]; omega)))⟩
theorem ext_keepC {bo : Option Nat} {H' : Heap} (h : Ext H H') : Keep bo H H' := h.keep
theorem party_end1 {bc m most r : Nat} (f : Nat → Nat → Bool) {H H2 H6 : Heap} {vs v6 : AV} {c5 : List AV} {x y : Int} (hw : H.wf) (hbc : bc < H.n) (hmo : most ≤ 11) (hr : 0 ≤ (r : Int) ∧ ((r : Int) < most + 1 ∨ (r : Int) = 0)) (hk0 : Keep (some bc) H H2) (hT2 : Tl (H.n + 1) ((H2.put bc c5).alloc [.int .i64 r, vs]) vs (tabPairs r f).length 2 (pairs (tabPairs r f)))
    (hT6 : Tl (H.n + 1) H6 v6 ((tabPairs r f).length + 1) 2 (pairs (tabPairs r f) ++ [.int .i64 x, .int .i64 y])) (hk6 : Keep vs.tok ((H2.put bc c5).alloc [.int .i64 r, vs]) H6) (hC5 : CurOk c5 (m + 2 + 1000 + 2 + 2 + 2))
    (g6 : H6.get H2.n = some (.cells [.int .i64 r, vs] true)) (g7 : H6.get H.n = some (.cells [.int .i64 0, .slice none 0 0 1 (some 0)] true)) (g8 : H6.get bc = some (.cells c5 true)) (hx : 0 ≤ x ∧ (x < 4 ∨ x = 0)) (hy : y ∈ [(0 : Int), 1, 11, 12, -1, 4611686018427387904]) (hlen : (tabPairs r f).length ≤ 144) (hl2 : H.n + 1 ≤ H2.n) (hl6 : H2.n + 1 ≤ H6.n) :
    DoneC H bc ((H6.put H2.n [.int .i64 r, v6]).put H.n [.int .i64 r, v6]) (.agg [.int .i64 r, v6]) fun v c => CurOk c (m + 2000) ∧ SomeP v := by
  have hT7 := (hT6.put g6 (ds := [.int .i64 r, v6])).put (c := H.n) (by rw [get_put_old (by omega)]; exact g7) (ds := [.int .i64 r, v6])
  have hk : Keep (some bc) H H6 := by
    refine ⟨by omega, fun d hd hne => ?_⟩
    have h1 := hk0.2 d hd hne
    rw [← h1]
    by_cases hv : vs.tok = some d
    · exfalso
      rcases hT2 with ⟨b, rfl, q1, q2, q3⟩ | ⟨s, rfl, q1, q2⟩
      · simp only [AV.tok, Option.some.injEq] at hv
        omega
      · simp [AV.tok] at hv
    · rw [hk6.2 d (by (first | omega | (simp only [n_alloc, n_put, n_kill, n_allocT, n_tabH, n_less]; omega))) hv, get_alloc_old (by (first | omega | (simp only [n_alloc, n_put, n_kill, n_allocT, n_tabH, n_less]; omega))), get_put_old (fun e => hne (by rw [e]))]
  refine DoneC.mk hw hbc (c := c5) (by rw [get_put_old (by omega), get_put_old (by omega)]; exact g8) hC5 (by (repeat (first | exact Keep.refl _ _ | assumption | refine keep_put ?_ (by first | exact .inr rfl | exact .inl (by (first | omega | (simp only [n_alloc, n_put, n_kill, n_allocT, n_tabH, n_less]; omega)))) | refine keep_al ?_ | refine keep_tab ?_ | refine keep_less ?_ (by (first | omega | (simp only [n_alloc, n_put, n_kill, n_allocT, n_tabH, n_less]; omega)))))) (fun hs => ?_) ⟨hC5.mono (by omega), r, tabPairs r f ++ [(x, y)], rfl, by simp; omega, by omega, fun p hp => ?_⟩
  · have e1 : pairs (tabPairs r f) ++ [.int .i64 x, .int .i64 y] = pairs (tabPairs r f ++ [(x, y)]) := by rw [pairs_append]; rfl
    have e2 : (tabPairs r f).length + 1 = (tabPairs r f ++ [(x, y)]).length := by simp
    rw [e1, e2] at hT7
    exact Fz.agg (FzL.cons (Fz.flat rfl) (FzL.cons (hT7.fz hs (FzL.flat (flats_pairs _))) FzL.nil))
  · rcases List.mem_append.1 hp with hp | hp
    · have := tabPairs_bd hp
      omega
    · simp at hp
      subst hp
      simp at hy
      simp only
      omega
theorem party_ok (bc m : Nat) (c : List AV) (most : Nat) (hmo : most ≤ 11) (hm : m < 2 ^ 37) (hbc : bc < H.n) (hg : H.get bc = some (.cells c true)) (hC : CurOk c m) : ACall Try.prog w0 42 [.ptr (some bc) 0, .int .i64 most] H fun v H' => ∃ c, H' = H.put bc c ∧ CurOk c (m + 2000) ∧ SomeP v := by
  refine ACall.enterC hbc mix Try.func42 (by kernel_rfl) fun hw => ?_
  simp (disch := first | omega | (simp only [n_alloc, n_put, n_kill, n_allocT, n_tabH, n_less]; omega) | (simp; done) | fail) [Try.f42]
  refine call_of (pick_ok bc m c (most + 1) (by omega) (by omega) (by (first | omega | (simp only [n_alloc, n_put, n_kill, n_allocT, n_tabH, n_less]; omega))) (by simp (disch := first | omega | (simp only [n_alloc, n_put, n_kill, n_allocT, n_tabH, n_less]; omega) | (simp; done) | fail) [hg]) hC) fun v H1 hw1 ⟨c1, he1, hC1, r, hv, hr⟩ => ?_
  subst hv he1
  obtain ⟨r, rfl⟩ := Int.eq_ofNat_of_zero_le hr.1
  simp (disch := first | omega | (simp only [n_alloc, n_put, n_kill, n_allocT, n_tabH, n_less]; omega) | (simp; done) | fail)
  refine call_of (sureParty_ok bc _ r c1 (by omega) (by omega) (by (first | omega | (simp only [n_alloc, n_put, n_kill, n_allocT, n_tabH, n_less]; omega))) (by simp (disch := first | omega | (simp only [n_alloc, n_put, n_kill, n_allocT, n_tabH, n_less]; omega) | (simp; done) | fail)) hC1) fun v H2 hw2 ⟨c2, f, vs, hC2, gc, hk2, hv, hT⟩ => ?_
  subst hv
  have hl2 := hk2.1
  simp only [n_alloc, n_put] at hl2
  have gr : H2.get H.n = some (.cells [.int .i64 0, .slice none 0 0 1 (some 0)] true) := by
    rw [hk2.2 _ (by (first | omega | (simp only [n_alloc, n_put, n_kill, n_allocT, n_tabH, n_less]; omega))) (by intro e; cases e; omega)]
    simp (disch := first | omega | (simp only [n_alloc, n_put, n_kill, n_allocT, n_tabH, n_less]; omega) | (simp; done) | fail)
  have hk0 : Keep (some bc) H H2 := Keep.trans (by (repeat (first | exact Keep.refl _ _ | assumption | refine keep_put ?_ (by first | exact .inr rfl | exact .inl (by (first | omega | (simp only [n_alloc, n_put, n_kill, n_allocT, n_tabH, n_less]; omega)))) | refine keep_al ?_ | refine keep_tab ?_ | refine keep_less ?_ (by (first | omega | (simp only [n_alloc, n_put, n_kill, n_allocT, n_tabH, n_less]; omega)))))) hk2
  simp (disch := first | omega | (simp only [n_alloc, n_put, n_kill, n_allocT, n_tabH, n_less]; omega) | (simp; done) | fail) [hT.one, hT.cells]
  refine call_of (pick_ok bc _ c2 20 (by omega) (by omega) (by (first | omega | (simp only [n_alloc, n_put, n_kill, n_allocT, n_tabH, n_less]; omega))) (by simp (disch := first | omega | (simp only [n_alloc, n_put, n_kill, n_allocT, n_tabH, n_less]; omega) | (simp; done) | fail) [gc]) hC2) fun v H3 hw3 ⟨c3, he3, hC3, q, hv, hq⟩ => ?_
  subst hv he3
  simp (disch := first | omega | (simp only [n_alloc, n_put, n_kill, n_allocT, n_tabH, n_less]; omega) | (simp; done) | fail)
  have hlen : (tabPairs r f).length ≤ 144 := tabTo_le (by omega) (Nat.le_refl _)
  refine cP (fun h => ?_) fun h => ?_
  · simp (disch := first | omega | (simp only [n_alloc, n_put, n_kill, n_allocT, n_tabH, n_less]; omega) | (simp; done) | fail)
    refine build_lst ?_
    simp (disch := first | omega | (simp only [n_alloc, n_put, n_kill, n_allocT, n_tabH, n_less]; omega) | (simp; done) | fail) [buildL]
    refine call_of (among_ok bc _ c3 [-1, 0, 1, 12, 13, 4611686018427387904] (by simp) (by simp) (by omega) (by (first | omega | (simp only [n_alloc, n_put, n_kill, n_allocT, n_tabH, n_less]; omega))) (by simp (disch := first | omega | (simp only [n_alloc, n_put, n_kill, n_allocT, n_tabH, n_less]; omega) | (simp; done) | fail)) hC3) fun v H4 hw4 ⟨c4, he4, hC4, x, hv, hx⟩ => ?_
    subst hv he4
    simp (disch := first | omega | (simp only [n_alloc, n_put, n_kill, n_allocT, n_tabH, n_less]; omega) | (simp; done) | fail) [gr, hT.one, hT.cells]
    have hT2 := (hT.put gc (ds := c4)).put (c := H.n) (by rw [get_put_old (by omega)]; exact gr) (ds := [.int .i64 x, vs])
    have hT3 := hT2.alloc (wf_put (wf_put hw2 (by (first | omega | (simp only [n_alloc, n_put, n_kill, n_allocT, n_tabH, n_less]; omega)))) (by (first | omega | (simp only [n_alloc, n_put, n_kill, n_allocT, n_tabH, n_less]; omega)))) (ds := [.int .i64 x, vs])
    refine DoneC.mk hw hbc (c := c4) (by simp (disch := first | omega | (simp only [n_alloc, n_put, n_kill, n_allocT, n_tabH, n_less]; omega) | (simp; done) | fail)) hC4 (by (repeat (first | exact Keep.refl _ _ | assumption | refine keep_put ?_ (by first | exact .inr rfl | exact .inl (by (first | omega | (simp only [n_alloc, n_put, n_kill, n_allocT, n_tabH, n_less]; omega)))) | refine keep_al ?_ | refine keep_tab ?_ | refine keep_less ?_ (by (first | omega | (simp only [n_alloc, n_put, n_kill, n_allocT, n_tabH, n_less]; omega)))))) (fun hs => Fz.agg (FzL.cons (Fz.flat rfl) (FzL.cons (hT3.fz hs (FzL.flat (flats_pairs _))) FzL.nil))) ⟨hC4.mono (by omega), x, tabPairs r f, rfl, by omega, ?_, fun p hp => ?_⟩
    · simp at hx
      omega
    · have := tabPairs_bd hp
      omega
  · simp (disch := first | omega | (simp only [n_alloc, n_put, n_kill, n_allocT, n_tabH, n_less]; omega) | (simp; done) | fail)
    refine cP (fun h' => ?_) fun h' => ?_
    · refine run_any plan42_6 (by kernel_rfl) ?_
      simp (disch := first | omega | (simp only [n_alloc, n_put, n_kill, n_allocT, n_tabH, n_less]; omega) | (simp; done) | fail) [plan42_6]
      refine ⟨?_, ?_⟩
      · refine call_of (pick_ok bc _ c3 4 (by omega) (by omega) (by (first | omega | (simp only [n_alloc, n_put, n_kill, n_allocT, n_tabH, n_less]; omega))) (by simp (disch := first | omega | (simp only [n_alloc, n_put, n_kill, n_allocT, n_tabH, n_less]; omega) | (simp; done) | fail)) hC3) fun v H4 hw4 ⟨c4, he4, hC4, x, hv, hx⟩ => ?_
        subst hv he4
        simp (disch := first | omega | (simp only [n_alloc, n_put, n_kill, n_allocT, n_tabH, n_less]; omega) | (simp; done) | fail) [hT.one, hT.cells]
        refine build_lst ?_
        simp (disch := first | omega | (simp only [n_alloc, n_put, n_kill, n_allocT, n_tabH, n_less]; omega) | (simp; done) | fail) [buildL]
        refine call_of (among_ok bc _ c4 [0, 1, 11, 12, -1, 4611686018427387904] (by simp) (by simp) (by omega) (by (first | omega | (simp only [n_alloc, n_put, n_kill, n_allocT, n_tabH, n_less]; omega))) (by simp (disch := first | omega | (simp only [n_alloc, n_put, n_kill, n_allocT, n_tabH, n_less]; omega) | (simp; done) | fail)) hC4) fun v H5 hw5 ⟨c5, he5, hC5, y, hv, hy⟩ => ?_
        subst hv he5
        simp (disch := first | omega | (simp only [n_alloc, n_put, n_kill, n_allocT, n_tabH, n_less]; omega) | (simp; done) | fail) [hT.one, hT.cells]
        refine build_lst ?_
        simp (disch := first | omega | (simp only [n_alloc, n_put, n_kill, n_allocT, n_tabH, n_less]; omega) | (simp; done) | fail) [buildL]
        have hT2 := (hT.put gc (ds := c5)).alloc (wf_put hw2 (by (first | omega | (simp only [n_alloc, n_put, n_kill, n_allocT, n_tabH, n_less]; omega)))) (ds := [.int .i64 r, vs])
        refine append_tl (n := 1) (new := [.int .i64 x, .int .i64 y]) hT2 (wf_alloc (wf_put hw2 (by (first | omega | (simp only [n_alloc, n_put, n_kill, n_allocT, n_tabH, n_less]; omega))))) (by (first | omega | (simp only [n_alloc, n_put, n_kill, n_allocT, n_tabH, n_less]; omega))) (by simp (disch := first | omega | (simp only [n_alloc, n_put, n_kill, n_allocT, n_tabH, n_less]; omega) | (simp; done) | fail); omega) (by simp (disch := first | omega | (simp only [n_alloc, n_put, n_kill, n_allocT, n_tabH, n_less]; omega) | (simp; done) | fail)) (by omega) (by simp (disch := first | omega | (simp only [n_alloc, n_put, n_kill, n_allocT, n_tabH, n_less]; omega) | (simp; done) | fail)) (by simp (disch := first | omega | (simp only [n_alloc, n_put, n_kill, n_allocT, n_tabH, n_less]; omega) | (simp; done) | fail)) (by simp (disch := first | omega | (simp only [n_alloc, n_put, n_kill, n_allocT, n_tabH, n_less]; omega) | (simp; done) | fail)) (by omega) fun v6 H6 hw6 hT6 hk6 _ => ?_
        have g6 : H6.get H2.n = some (.cells [.int .i64 r, vs] true) := hT2.rows (wf_alloc (wf_put hw2 (by (first | omega | (simp only [n_alloc, n_put, n_kill, n_allocT, n_tabH, n_less]; omega))))) hk6 (by simp (disch := first | omega | (simp only [n_alloc, n_put, n_kill, n_allocT, n_tabH, n_less]; omega) | (simp; done) | fail))
        have g7 : H6.get H.n = some (.cells [.int .i64 0, .slice none 0 0 1 (some 0)] true) := hT2.rows (wf_alloc (wf_put hw2 (by (first | omega | (simp only [n_alloc, n_put, n_kill, n_allocT, n_tabH, n_less]; omega))))) hk6 (by simp (disch := first | omega | (simp only [n_alloc, n_put, n_kill, n_allocT, n_tabH, n_less]; omega) | (simp; done) | fail) [gr])
        have g8 : H6.get bc = some (.cells c5 true) := hT2.rows (wf_alloc (wf_put hw2 (by (first | omega | (simp only [n_alloc, n_put, n_kill, n_allocT, n_tabH, n_less]; omega))))) hk6 (by simp (disch := first | omega | (simp only [n_alloc, n_put, n_kill, n_allocT, n_tabH, n_less]; omega) | (simp; done) | fail))
        have hl6 := hk6.1
        simp only [n_alloc, n_put] at hl6
        simp (disch := first | omega | (simp only [n_alloc, n_put, n_kill, n_allocT, n_tabH, n_less]; omega) | (simp; done) | fail) [g6, g7, hT6.one, hT6.cells]
        exact party_end1 f hw hbc hmo hr hk0 hT2 hT6 hk6 hC5 g6 g7 g8 hx hy hlen hl2 hl6
      · refine build_lst ?_
        simp (disch := first | omega | (simp only [n_alloc, n_put, n_kill, n_allocT, n_tabH, n_less]; omega) | (simp; done) | fail) [buildL]
        refine call_of (pick_ok bc _ c3 4 (by omega) (by omega) (by (first | omega | (simp only [n_alloc, n_put, n_kill, n_allocT, n_tabH, n_less]; omega))) (by simp (disch := first | omega | (simp only [n_alloc, n_put, n_kill, n_allocT, n_tabH, n_less]; omega) | (simp; done) | fail)) hC3) fun v H4 hw4 ⟨c4, he4, hC4, x, hv, hx⟩ => ?_
        subst hv he4
        simp (disch := first | omega | (simp only [n_alloc, n_put, n_kill, n_allocT, n_tabH, n_less]; omega) | (simp; done) | fail) [hT.one, hT.cells]
        refine call_of (among_ok bc _ c4 [0, 1, 11, 12, -1, 4611686018427387904] (by simp) (by simp) (by omega) (by (first | omega | (simp only [n_alloc, n_put, n_kill, n_allocT, n_tabH, n_less]; omega))) (by simp (disch := first | omega | (simp only [n_alloc, n_put, n_kill, n_allocT, n_tabH, n_less]; omega) | (simp; done) | fail)) hC4) fun v H5 hw5 ⟨c5, he5, hC5, y, hv, hy⟩ => ?_
        subst hv he5
        simp (disch := first | omega | (simp only [n_alloc, n_put, n_kill, n_allocT, n_tabH, n_less]; omega) | (simp; done) | fail) [hT.one, hT.cells]
        refine build_lst ?_
        simp (disch := first | omega | (simp only [n_alloc, n_put, n_kill, n_allocT, n_tabH, n_less]; omega) | (simp; done) | fail) [buildL]
        have hT2 := (hT.put gc (ds := c5)).alloc (wf_put hw2 (by (first | omega | (simp only [n_alloc, n_put, n_kill, n_allocT, n_tabH, n_less]; omega)))) (ds := [.int .i64 r, vs])
        refine append_tl (n := 1) (new := [.int .i64 x, .int .i64 y]) hT2 (wf_alloc (wf_put hw2 (by (first | omega | (simp only [n_alloc, n_put, n_kill, n_allocT, n_tabH, n_less]; omega))))) (by (first | omega | (simp only [n_alloc, n_put, n_kill, n_allocT, n_tabH, n_less]; omega))) (by simp (disch := first | omega | (simp only [n_alloc, n_put, n_kill, n_allocT, n_tabH, n_less]; omega) | (simp; done) | fail); omega) (by simp (disch := first | omega | (simp only [n_alloc, n_put, n_kill, n_allocT, n_tabH, n_less]; omega) | (simp; done) | fail)) (by omega) (by simp (disch := first | omega | (simp only [n_alloc, n_put, n_kill, n_allocT, n_tabH, n_less]; omega) | (simp; done) | fail)) (by simp (disch := first | omega | (simp only [n_alloc, n_put, n_kill, n_allocT, n_tabH, n_less]; omega) | (simp; done) | fail)) (by simp (disch := first | omega | (simp only [n_alloc, n_put, n_kill, n_allocT, n_tabH, n_less]; omega) | (simp; done) | fail)) (by omega) fun v6 H6 hw6 hT6 hk6 _ => ?_
        have g6 : H6.get H2.n = some (.cells [.int .i64 r, vs] true) := hT2.rows (wf_alloc (wf_put hw2 (by (first | omega | (simp only [n_alloc, n_put, n_kill, n_allocT, n_tabH, n_less]; omega))))) hk6 (by simp (disch := first | omega | (simp only [n_alloc, n_put, n_kill, n_allocT, n_tabH, n_less]; omega) | (simp; done) | fail))
        have g7 : H6.get H.n = some (.cells [.int .i64 0, .slice none 0 0 1 (some 0)] true) := hT2.rows (wf_alloc (wf_put hw2 (by (first | omega | (simp only [n_alloc, n_put, n_kill, n_allocT, n_tabH, n_less]; omega))))) hk6 (by simp (disch := first | omega | (simp only [n_alloc, n_put, n_kill, n_allocT, n_tabH, n_less]; omega) | (simp; done) | fail) [gr])
        have g8 : H6.get bc = some (.cells c5 true) := hT2.rows (wf_alloc (wf_put hw2 (by (first | omega | (simp only [n_alloc, n_put, n_kill, n_allocT, n_tabH, n_less]; omega))))) hk6 (by simp (disch := first | omega | (simp only [n_alloc, n_put, n_kill, n_allocT, n_tabH, n_less]; omega) | (simp; done) | fail))
        have hl6 := hk6.1
        simp only [n_alloc, n_put] at hl6
        simp (disch := first | omega | (simp only [n_alloc, n_put, n_kill, n_allocT, n_tabH, n_less]; omega) | (simp; done) | fail) [g6, g7, hT6.one, hT6.cells]
        exact party_end1 f hw hbc hmo hr hk0 hT2 hT6 hk6 hC5 g6 g7 g8 hx hy hlen hl2 hl6
    · simp (disch := first | omega | (simp only [n_alloc, n_put, n_kill, n_allocT, n_tabH, n_less]; omega) | (simp; done) | fail)
      refine cP (fun h3 => ?_) fun h3 => ?_
      · simp (disch := first | omega | (simp only [n_alloc, n_put, n_kill, n_allocT, n_tabH, n_less]; omega) | (simp; done) | fail)
        refine run_pureR (paOther_ok 12 [] (goodNil (by omega)) (by simp)) (Rcs.cons rc_party0 Rcs.nil) fun v hv => ?_
        subst hv
        simp (disch := first | omega | (simp only [n_alloc, n_put, n_kill, n_allocT, n_tabH, n_less]; omega) | (simp; done) | fail) [gr, hT.one, hT.cells]
        obtain ⟨n', ps', e, q1, q2, q3⟩ := tabPairs_some 12 (fun a b => !fr [] a b) (by omega)
        exact DoneC.same hw hbc (c := c3) (by simp (disch := first | omega | (simp only [n_alloc, n_put, n_kill, n_allocT, n_tabH, n_less]; omega) | (simp; done) | fail)) hC3 (by (repeat (first | exact Keep.refl _ _ | assumption | refine keep_put ?_ (by first | exact .inr rfl | exact .inl (by (first | omega | (simp only [n_alloc, n_put, n_kill, n_allocT, n_tabH, n_less]; omega)))) | refine keep_al ?_ | refine keep_tab ?_ | refine keep_less ?_ (by (first | omega | (simp only [n_alloc, n_put, n_kill, n_allocT, n_tabH, n_less]; omega)))))) under_partyT ⟨hC3.mono (by omega), tabPairs_some 12 (fun a b => !fr [] a b) (by omega)⟩
      · simp (disch := first | omega | (simp only [n_alloc, n_put, n_kill, n_allocT, n_tabH, n_less]; omega) | (simp; done) | fail) [gr, hT.one, hT.cells]
        have hT2 := (hT.put gc (ds := c3)).put (c := H.n) (by rw [get_put_old (by omega)]; exact gr) (ds := [.int .i64 r, vs])
        have hT3 := hT2.alloc (wf_put (wf_put hw2 (by (first | omega | (simp only [n_alloc, n_put, n_kill, n_allocT, n_tabH, n_less]; omega)))) (by (first | omega | (simp only [n_alloc, n_put, n_kill, n_allocT, n_tabH, n_less]; omega)))) (ds := [.int .i64 r, vs])
        exact DoneC.mk hw hbc (c := c3) (by simp (disch := first | omega | (simp only [n_alloc, n_put, n_kill, n_allocT, n_tabH, n_less]; omega) | (simp; done) | fail)) hC3 (by (repeat (first | exact Keep.refl _ _ | assumption | refine keep_put ?_ (by first | exact .inr rfl | exact .inl (by (first | omega | (simp only [n_alloc, n_put, n_kill, n_allocT, n_tabH, n_less]; omega)))) | refine keep_al ?_ | refine keep_tab ?_ | refine keep_less ?_ (by (first | omega | (simp only [n_alloc, n_put, n_kill, n_allocT, n_tabH, n_less]; omega)))))) (fun hs => Fz.agg (FzL.cons (Fz.flat rfl) (FzL.cons (hT3.fz hs (FzL.flat (flats_pairs _))) FzL.nil))) ⟨hC3.mono (by omega), tabPairs_some r f (by omega)⟩
end Go.Proofs.Ythkmbfifiojmhaa
