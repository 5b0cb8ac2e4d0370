/- Parties made of couples. -/
import Derived.Test.YthkmbfifiojmhaaT15
set_option linter.unusedSimpArgs false
set_option linter.unusedVariables false
set_option maxRecDepth 100000
namespace Go.Proofs.Ythkmbfifiojmhaa
open Go.Abs
variable {w0 : World} {H : Heap}
/-- The program's party of a table. -/
theorem implParty_ok (n : Nat) (f : Nat → Nat → Bool) (hn : n ≤ 12) : PCall Try.prog 57 [wordsT n f] fun v => v = partyT n (tabPairs n f) := by
  refine PCall.run mix Try.func57 (by kernel_rfl) fun w0 H hw => ?_
  simp (disch := first | omega | (simp only [n_alloc, n_put, n_kill, n_allocT, n_tabH, n_less]; omega) | (simp; done) | fail) [Try.f57]
  refine run_for n (fun i E H' => Ext H H' ∧ E 0 = wordsT n f ∧ E 10 = .int .i64 n ∧ E 11 = .int .i64 i ∧ E 2 = .ptr (some H.n) 0 ∧ E 3 = .ptr (some (H.n + 1)) 0 ∧ (∃ x y, H'.get H.n = some (.cells [x, y] true)) ∧
    ∃ vs, H'.get (H.n + 1) = some (.cells [.int .i64 n, vs] true) ∧ Tl (H.n + 2) H' vs (tabTo n f i).length 2 (pairs (tabTo n f i))) 0 (Nat.zero_le _) ?_ ?_
  · simp (disch := first | omega | (simp only [n_alloc, n_put, n_kill, n_allocT, n_tabH, n_less]; omega) | (simp; done) | fail) [tabTo_zero]
    exact Tl.nil
  · rintro i E H' hw' hi ⟨he, h0, h10, h11, h2, h3, ⟨x, y, g0⟩, vs, g1, hT⟩
    simp (disch := first | omega | (simp only [n_alloc, n_put, n_kill, n_allocT, n_tabH, n_less]; omega) | (simp; done) | fail) [h0, h10, h11, h2, h3]
    refine cP (fun h => ?_) fun h => ?_
    · simp (disch := first | omega | (simp only [n_alloc, n_put, n_kill, n_allocT, n_tabH, n_less]; omega) | (simp; done) | fail) [h0, h10, h11, h2, h3]
      refine run_for n (fun j E H' => i + 1 ≤ j ∧ Ext H H' ∧ E 0 = wordsT n f ∧ E 10 = .int .i64 n ∧ E 11 = .int .i64 i ∧ E 4 = .int .i64 i ∧ E 5 = .int .i64 j ∧ E 2 = .ptr (some H.n) 0 ∧ E 3 = .ptr (some (H.n + 1)) 0 ∧ (∃ x y, H'.get H.n = some (.cells [x, y] true)) ∧
        ∃ vs, H'.get (H.n + 1) = some (.cells [.int .i64 n, vs] true) ∧ Tl (H.n + 2) H' vs (tabTo n f i ++ rowPairs f i j).length 2 (pairs (tabTo n f i ++ rowPairs f i j))) (i + 1) (by omega) ?_ ?_
      · simp (disch := first | omega | (simp only [n_alloc, n_put, n_kill, n_allocT, n_tabH, n_less]; omega) | (simp; done) | fail) [h0, h10, h11, h2, h3]
        rw [rowPairs_zero f i (i + 1) (by omega), List.append_nil]
        exact ⟨he, ⟨x, y, g0⟩, vs, g1, hT⟩
      · clear hw' he h0 h10 h11 h2 h3 g0 g1 hT
        clear vs x y H' E
        rintro j E H' hw' hj ⟨hij, he, h0, h10, h11, h4, h5, h2, h3, ⟨x, y, g0⟩, vs, g1, hT⟩
        simp (disch := first | omega | (simp only [n_alloc, n_put, n_kill, n_allocT, n_tabH, n_less]; omega) | (simp; done) | fail) [h0, h10, h11, h4, h5, h2, h3]
        refine cP (fun g => ?_) fun g => ?_
        · simp (disch := first | omega | (simp only [n_alloc, n_put, n_kill, n_allocT, n_tabH, n_less]; omega) | (simp; done) | fail) [h0, h10, h11, h4, h5, h2, h3]
          have hlen1 := tabTo_le (f := f) hn hi
          have hlen2 := rowPairs_len f i j
          have hst := tab_step (n := n) (f := f) (i := i) (j := j) (by omega)
          refine run_pureB (has_ok n f i j (by omega) (by omega) (by omega)) fun b hb => ?_
          simp only [Int.toNat_natCast] at hb
          simp (disch := first | omega | (simp only [n_alloc, n_put, n_kill, n_allocT, n_tabH, n_less]; omega) | (simp; done) | fail) [h0, h10, h11, h4, h5, h2, h3]
          refine cB (fun q => ?_) fun q => ?_
          · have hf := hb.1 q
            simp (disch := first | omega | (simp only [n_alloc, n_put, n_kill, n_allocT, n_tabH, n_less]; omega) | (simp; done) | fail) [h0, h10, h11, h4, h5, h2, h3, g1]
            refine build_lst ?_
            simp (disch := first | omega | (simp only [n_alloc, n_put, n_kill, n_allocT, n_tabH, n_less]; omega) | (simp; done) | fail) [buildL]
            have hlt := hw' _ _ g1
            refine append_tl (n := 1) (new := [.int .i64 i, .int .i64 j]) hT hw' (by (first | omega | (simp only [n_alloc, n_put, n_kill, n_allocT, n_tabH, n_less]; omega))) (by simp (disch := first | omega | (simp only [n_alloc, n_put, n_kill, n_allocT, n_tabH, n_less]; omega) | (simp; done) | fail); omega) (by simp (disch := first | omega | (simp only [n_alloc, n_put, n_kill, n_allocT, n_tabH, n_less]; omega) | (simp; done) | fail)) (by omega) (by simp (disch := first | omega | (simp only [n_alloc, n_put, n_kill, n_allocT, n_tabH, n_less]; omega) | (simp; done) | fail)) (by simp (disch := first | omega | (simp only [n_alloc, n_put, n_kill, n_allocT, n_tabH, n_less]; omega) | (simp; done) | fail)) (by simp (disch := first | omega | (simp only [n_alloc, n_put, n_kill, n_allocT, n_tabH, n_less]; omega) | (simp; done) | fail)) (by simp (disch := first | omega | (simp only [n_alloc, n_put, n_kill, n_allocT, n_tabH, n_less]; omega) | (simp; done) | fail); omega) fun v2 H2 hw2 hT2 hk2 _ => ?_
            have g12 := hT.rows hw' hk2 g1
            have g02 := hT.rows hw' hk2 g0
            have e1 : pairs (tabTo n f i ++ rowPairs f i j) ++ [AV.int .i64 i, AV.int .i64 j] = pairs (tabTo n f i ++ rowPairs f i (j + 1)) := by rw [hst, hf, if_pos rfl, pairs_append _ [_]]; rfl
            have e2 : (tabTo n f i ++ rowPairs f i j).length + 1 = (tabTo n f i ++ rowPairs f i (j + 1)).length := by rw [hst, hf, if_pos rfl]; simp; omega
            rw [e1, e2] at hT2
            simp (disch := first | omega | (simp only [n_alloc, n_put, n_kill, n_allocT, n_tabH, n_less]; omega) | (simp; done) | fail) [h0, h10, h11, h4, h5, h2, h3, g12, g02, hT2.one, hT2.cells]
            refine ⟨g, by omega, hT.ext hk2 he (by omega), ?_⟩
            have := hT2.put g12 (ds := [.int .i64 n, v2])
            simpa using this
          · have hf : f i j = false := by cases hh : f i j with
              | false => rfl
              | true => rw [hb.2 hh] at q; cases q
            simp (disch := first | omega | (simp only [n_alloc, n_put, n_kill, n_allocT, n_tabH, n_less]; omega) | (simp; done) | fail) [h0, h10, h11, h4, h5, h2, h3, g0, g1]
            refine ⟨g, by omega, he, ?_⟩
            rw [hf] at hst
            simp only [Bool.false_eq_true, if_false, List.append_nil] at hst
            rw [← hst] at hT
            simpa using hT
        · have : j = n := by omega
          subst this
          simp (disch := first | omega | (simp only [n_alloc, n_put, n_kill, n_allocT, n_tabH, n_less]; omega) | (simp; done) | fail) [h0, h10, h11, h4, h5, h2, h3]
          exact ⟨h, he, ⟨x, y, g0⟩, vs, g1, by rw [tabTo_step]; simpa using hT⟩
    · have : i = n := by omega
      subst this
      simp (disch := first | omega | (simp only [n_alloc, n_put, n_kill, n_allocT, n_tabH, n_less]; omega) | (simp; done) | fail) [h2, h3, g0, g1, hT.one, hT.cells]
      exact Done.party hw (by rw [ext_put (by omega)]; exact he) (hT.put g0)
/-- Who shakes hands at the couples' party, as far as couple k and person x. -/
def cpF (k x : Nat) : Nat → Nat → Bool := fun a b => cpOne k x a b || cpOne k x b a
where cpOne (k x a b : Nat) : Bool := decide (a % 2 = 0 ∧ 2 ≤ a ∧ (a < 2 * k ∨ a = 2 * k ∧ b < x)) && decide (b / 2 ≠ a / 2 ∧ (b % 2 = 0 ∨ b = 1 ∨ a < b))
/-- The answer: a party of couples. -/
def AnsMade (m : Int) (v : AV) : Prop := (1 ≤ m ∧ m ≤ 6 ∧ v = .tuple [partyT (2 * m) (tabPairs (2 * m).toNat (cpF m.toNat 0)), .bool true]) ∨ (¬ (1 ≤ m ∧ m ≤ 6) ∧ v = .tuple [partyT 0 [], .bool false])
theorem cpF_zero : cpF 1 0 = fun _ _ => false := by
  funext a b
  simp only [cpF, cpF.cpOne]
  have h : ∀ a b : Nat, decide (a % 2 = 0 ∧ 2 ≤ a ∧ (a < 2 * 1 ∨ a = 2 * 1 ∧ b < 0)) = false := fun a b => by rw [decide_eq_false_iff_not]; omega
  rw [h, h]
  simp
theorem cpF_next {m k : Nat} (a b : Nat) (ha : a < 2 * m) (hb : b < 2 * m) : cpF k (2 * m) a b = cpF (k + 1) 0 a b := by
  have h : ∀ a b : Nat, a < 2 * m → b < 2 * m → cpF.cpOne k (2 * m) a b = cpF.cpOne (k + 1) 0 a b := fun a b ha hb => by
    unfold cpF.cpOne
    rw [show decide (a % 2 = 0 ∧ 2 ≤ a ∧ (a < 2 * k ∨ a = 2 * k ∧ b < 2 * m)) = decide (a % 2 = 0 ∧ 2 ≤ a ∧ (a < 2 * (k + 1) ∨ a = 2 * (k + 1) ∧ b < 0)) by rw [decide_eq_decide]; omega]
  simp only [cpF, h a b ha hb, h b a hb ha]
theorem cpF_step {k x : Nat} (hk : 1 ≤ k) (a b : Nat) : cpF k (x + 1) a b = if (x / 2 ≠ k ∧ (x % 2 = 0 ∨ x = 1 ∨ k < x / 2)) then updT (updT (cpF k x) (2 * k) x true) x (2 * k) true a b else cpF k x a b := by
  have h : ∀ a b : Nat, cpF.cpOne k (x + 1) a b = (cpF.cpOne k x a b || decide ((a = 2 * k ∧ b = x) ∧ (x / 2 ≠ k ∧ (x % 2 = 0 ∨ x = 1 ∨ k < x / 2)))) := fun a b => by
    unfold cpF.cpOne
    rw [Bool.eq_iff_iff]
    simp only [Bool.and_eq_true, Bool.or_eq_true, decide_eq_true_eq]
    constructor
    · rintro ⟨h1, h2⟩
      by_cases e : a = 2 * k ∧ b = x
      · right
        refine ⟨e, ?_⟩
        omega
      · left
        omega
    · rintro (h | ⟨⟨rfl, rfl⟩, h⟩)
      · omega
      · omega
  simp only [cpF, h a b, h b a, updT]
  by_cases c : x / 2 ≠ k ∧ (x % 2 = 0 ∨ x = 1 ∨ k < x / 2)
  · rw [if_pos c]
    by_cases e1 : a = x ∧ b = 2 * k
    · rw [if_pos e1]; simp [e1, c]
    · rw [if_neg e1]
      by_cases e2 : a = 2 * k ∧ b = x
      · rw [if_pos e2]; simp [e2, c]
      · rw [if_neg e2]
        have f1 : decide ((a = 2 * k ∧ b = x) ∧ x / 2 ≠ k ∧ (x % 2 = 0 ∨ x = 1 ∨ k < x / 2)) = false := by rw [decide_eq_false_iff_not]; exact fun q => e2 q.1
        have f2 : decide ((b = 2 * k ∧ a = x) ∧ x / 2 ≠ k ∧ (x % 2 = 0 ∨ x = 1 ∨ k < x / 2)) = false := by rw [decide_eq_false_iff_not]; exact fun q => e1 ⟨q.1.2, q.1.1⟩
        rw [f1, f2, Bool.or_false, Bool.or_false]
  · rw [if_neg c]
    simp only [c, and_false, decide_false, Bool.or_false]
theorem wordOf_congr {g h : Nat → Bool} : ∀ {n : Nat}, (∀ x, x < n → g x = h x) → wordOf n g = wordOf n h
  | 0, _ => rfl
  | n + 1, e => by
    simp only [wordOf]
    rw [wordOf_congr fun x hx => e x (by omega), e n (by omega)]
theorem wordsAt_congr {n : Nat} {f g : Nat → Nat → Bool} (h : ∀ a b, a < n → b < n → f a b = g a b) : wordsAt n f = wordsAt n g := by
  unfold wordsAt
  apply List.map_congr_left
  intro a ha
  exact wordOf_congr fun x hx => h a x (List.mem_range.1 ha) hx
theorem done_made {H H' : Heap} {k : Nat} (hw : H.wf) (he : Ext H H') (h1 : 1 ≤ k) (h2 : k ≤ 6) : Done H H' (.tuple [.agg [.int .i64 (2 * (k : Int)), .lst none (tabPairs (2 * k) (cpF k 0)).length 2 (pairs (tabPairs (2 * k) (cpF k 0)))], .bool true]) (AnsMade k) := by
  refine Done.mk hw he (r := .tuple [partyT (2 * (k : Int)) (tabPairs (2 * k) (cpF k 0)), .bool true]) (fun hs => Fz.tuple (FzL.cons (Fz.same hs under_partyT) (FzL.cons (Fz.flat rfl) FzL.nil))) (.inl ⟨by omega, by omega, ?_⟩)
  rw [show (2 * (k : Int)).toNat = 2 * k by omega, Int.toNat_natCast]
theorem implCouples_ok (m : Int) : PCall Try.prog 26 [.int .i64 m] (AnsMade m) := by
  refine PCall.run mix Try.func26 (by kernel_rfl) fun w0 H hw => ?_
  simp (disch := first | omega | (simp only [n_alloc, n_put, n_kill, n_allocT, n_tabH, n_less]; omega) | (simp; done) | fail) [Try.f26]
  refine run_pureB (within_ok m 1 6) fun b hb => ?_
  simp (disch := first | omega | (simp only [n_alloc, n_put, n_kill, n_allocT, n_tabH, n_less]; omega) | (simp; done) | fail)
  refine cNB (fun q => ?_) fun q => ?_
  · simp (disch := first | omega | (simp only [n_alloc, n_put, n_kill, n_allocT, n_tabH, n_less]; omega) | (simp; done) | fail)
    refine ⟨(Ext.refl _).alloc _, .tuple [partyT 0 [], .bool false], Fz.tuple (FzL.cons (Fz.agg (FzL.cons (Fz.flat rfl) (FzL.cons Fz.nil FzL.nil))) (FzL.cons (Fz.flat rfl) FzL.nil)), .inr ⟨fun h => by have := hb.2 h; simp_all, rfl⟩⟩
  · have hm := hb.1 q
    obtain ⟨m, rfl⟩ := Int.eq_ofNat_of_zero_le (show 0 ≤ m by omega)
    simp (disch := first | omega | (simp only [n_alloc, n_put, n_kill, n_allocT, n_tabH, n_less]; omega) | (simp; done) | fail)
    refine make_row ?_
    simp (disch := first | omega | (simp only [n_alloc, n_put, n_kill, n_allocT, n_tabH, n_less]; omega) | (simp; done) | fail)
    refine ⟨by omega, by omega, by omega, ?_⟩
    have et : (2 * (m : Int)).toNat = 2 * m := by omega
    have z0 : List.replicate (2 * m) (AV.int .u16 0) = u16s (wordsAt (2 * m) (cpF 1 0)) := by
      rw [cpF_zero, ← (Words.zero (n := 2 * m)).eq (by omega), u16s_zero]
    rw [et, z0]
    refine run_for m (fun k E H' => 1 ≤ k ∧ H' = (H.alloc [.int .i64 0, .slice none 0 0 1 (some 0)]).alloc (u16s (wordsAt (2 * m) (cpF k 0))) ∧ E 0 = .int .i64 m ∧ E 2 = .ptr (some H.n) 0 ∧ E 4 = .slice (some (H.n + 1)) 0 (2 * m) 1 (some (2 * m)) ∧ E 5 = .int .i64 k) 1 (by omega) ?_ ?_
    · simp (disch := first | omega | (simp only [n_alloc, n_put, n_kill, n_allocT, n_tabH, n_less]; omega) | (simp; done) | fail) [et]
    · rintro k E H' hw' hk ⟨hk1, rfl, h0, h2, h4, h5⟩
      simp (disch := first | omega | (simp only [n_alloc, n_put, n_kill, n_allocT, n_tabH, n_less]; omega) | (simp; done) | fail) [h0, h2, h4, h5]
      refine cP (fun g => ?_) fun g => ?_
      · simp (disch := first | omega | (simp only [n_alloc, n_put, n_kill, n_allocT, n_tabH, n_less]; omega) | (simp; done) | fail) [h0, h2, h4, h5]
        refine run_for (2 * m) (fun x E H' => H' = (H.alloc [.int .i64 0, .slice none 0 0 1 (some 0)]).alloc (u16s (wordsAt (2 * m) (cpF k x))) ∧ E 0 = .int .i64 m ∧ E 2 = .ptr (some H.n) 0 ∧ E 4 = .slice (some (H.n + 1)) 0 (2 * m) 1 (some (2 * m)) ∧ E 5 = .int .i64 k ∧ E 20 = .int .i64 ((2 * m : Nat) : Int) ∧ E 21 = .int .i64 x) 0 (Nat.zero_le _) ?_ ?_
        · simp (disch := first | omega | (simp only [n_alloc, n_put, n_kill, n_allocT, n_tabH, n_less]; omega) | (simp; done) | fail) [h0, h2, h4, h5]
        · rintro x E H' hw' hx ⟨rfl, h0, h2, h4, h5, h20, h21⟩
          simp (disch := first | omega | (simp only [n_alloc, n_put, n_kill, n_allocT, n_tabH, n_less]; omega) | (simp; done) | fail) [h0, h2, h4, h5, h20, h21]
          refine cP (fun g' => ?_) fun g' => ?_
          · have d2 : ((x : Int)).tdiv 2 = ((x / 2 : Nat) : Int) := by rw [Int.tdiv_eq_ediv_of_nonneg (by omega)]; simp
            have m2 : ((x : Int)).tmod 2 = ((x % 2 : Nat) : Int) := by rw [Int.tmod_eq_emod_of_nonneg (by omega)]; simp
            have eP : (x / 2 ≠ k ∧ (x % 2 = 0 ∨ x = 1 ∨ k < x / 2)) → updT (updT (cpF k x) (2 * k) x true) x (2 * k) true = cpF k (x + 1) := fun c => by
              funext a b
              rw [cpF_step hk1, if_pos c]
            have eN : ¬ (x / 2 ≠ k ∧ (x % 2 = 0 ∨ x = 1 ∨ k < x / 2)) → cpF k x = cpF k (x + 1) := fun c => by
              funext a b
              rw [cpF_step hk1, if_neg c]
            simp (disch := first | omega | (simp only [n_alloc, n_put, n_kill, n_allocT, n_tabH, n_less]; omega) | (simp; done) | fail) [h0, h2, h4, h5, h20, h21, d2, m2]
            refine gN (fun c1 => ?_) fun c1 => ?_
            · simp (disch := first | omega | (simp only [n_alloc, n_put, n_kill, n_allocT, n_tabH, n_less]; omega) | (simp; done) | fail) [h0, h2, h4, h5, h20, h21, d2, m2, c1]
              refine gP (fun c2 => ?_) fun c2 => ?_
              · simp (disch := first | omega | (simp only [n_alloc, n_put, n_kill, n_allocT, n_tabH, n_less]; omega) | (simp; done) | fail) [h0, h2, h4, h5, h20, h21, d2, m2, c1, c2]
                refine run_pureB (within_ok _ _ _) fun r hr => ?_
                simp (disch := first | omega | (simp only [n_alloc, n_put, n_kill, n_allocT, n_tabH, n_less]; omega) | (simp; done) | fail) [h0, h2, h4, h5, h20, h21, d2, m2, c1, c2]
                refine cNB (fun c3 => ?_) fun c3 => ?_
                · have c3' : ¬ (1 ≤ (x : Int) / 2 ∧ (x : Int) / 2 ≤ (k : Int) - 1) := fun h => by rw [hr.2 h] at c3; cases c3
                  simp (disch := first | omega | (simp only [n_alloc, n_put, n_kill, n_allocT, n_tabH, n_less]; omega) | (simp; done) | fail) [h0, h2, h4, h5, h20, h21]
                  refine call_of (put_ok (H.n + 1) (2 * m) (cpF k x) (2 * k) x (some (2 * m)) (by omega) (by omega) (by omega) (by simp (disch := first | omega | (simp only [n_alloc, n_put, n_kill, n_allocT, n_tabH, n_less]; omega) | (simp; done) | fail))) fun v H1 hw1 ⟨hv, he1⟩ => ?_
                  subst hv he1
                  rw [show (2 * (k : Int)).toNat = 2 * k by omega, show ((x : Int)).toNat = x by omega, eP (by omega)]
                  simp (disch := first | omega | (simp only [n_alloc, n_put, n_kill, n_allocT, n_tabH, n_less]; omega) | (simp; done) | fail) [h0, h2, h4, h5, h20, h21]
                  first | exact Run.of (by omega) | omega
                · have c3' := hr.1 c3
                  simp (disch := first | omega | (simp only [n_alloc, n_put, n_kill, n_allocT, n_tabH, n_less]; omega) | (simp; done) | fail) [h0, h2, h4, h5, h20, h21]
                  rw [eN (by omega)]
                  first | exact Run.of (by omega) | (refine ⟨by omega, ?_⟩; simp; done) | omega | (simp; done) | trace_state
              · simp (disch := first | omega | (simp only [n_alloc, n_put, n_kill, n_allocT, n_tabH, n_less]; omega) | (simp; done) | fail) [h0, h2, h4, h5, h20, h21, d2, m2, c1, c2]
                refine call_of (put_ok (H.n + 1) (2 * m) (cpF k x) (2 * k) x (some (2 * m)) (by omega) (by omega) (by omega) (by simp (disch := first | omega | (simp only [n_alloc, n_put, n_kill, n_allocT, n_tabH, n_less]; omega) | (simp; done) | fail))) fun v H1 hw1 ⟨hv, he1⟩ => ?_
                subst hv he1
                rw [show (2 * (k : Int)).toNat = 2 * k by omega, show ((x : Int)).toNat = x by omega, eP (by omega)]
                simp (disch := first | omega | (simp only [n_alloc, n_put, n_kill, n_allocT, n_tabH, n_less]; omega) | (simp; done) | fail) [h0, h2, h4, h5, h20, h21]
                first | exact Run.of (by omega) | omega
            · simp (disch := first | omega | (simp only [n_alloc, n_put, n_kill, n_allocT, n_tabH, n_less]; omega) | (simp; done) | fail) [h0, h2, h4, h5, h20, h21, d2, m2, c1]
              rw [eN (by omega)]
              first | exact Run.of (by omega) | (refine ⟨by omega, ?_⟩; simp; done) | omega | (simp; done) | trace_state
          · have : x = 2 * m := by omega
            subst this
            simp (disch := first | omega | (simp only [n_alloc, n_put, n_kill, n_allocT, n_tabH, n_less]; omega) | (simp; done) | fail) [h0, h2, h4, h5]
            refine ⟨by omega, ?_⟩
            rw [wordsAt_congr fun a b ha hb => cpF_next (m := m) (k := k) a b ha hb]
      · have : k = m := by omega
        subst this
        simp (disch := first | omega | (simp only [n_alloc, n_put, n_kill, n_allocT, n_tabH, n_less]; omega) | (simp; done) | fail) [h2, h4]
        refine ACall.frz (H0 := ((H.alloc [.int .i64 0, .slice none 0 0 1 (some 0)]).alloc (u16s (wordsAt (2 * k) (cpF k 0)))).less (H.n + 1)) (less_sub (wf_alloc (wf_alloc hw))) rfl (run_pure (implParty_ok (2 * k) (cpF k 0) (by omega)) fun v hv => ?_) (FzL.cons (Fz.row (less_sub (wf_alloc (wf_alloc hw))) (by simp only [Heap.less]; rw [if_neg (by omega)]) (get_alloc_eq (by simp)) (by simp) ?_) FzL.nil)
        · subst hv
          simp (disch := first | omega | (simp only [n_alloc, n_put, n_kill, n_allocT, n_tabH, n_less]; omega) | (simp; done) | fail) [h2]
          exact done_made hw (by rw [ext_put (by omega), ext_less (by omega) (by (first | omega | (simp only [n_alloc, n_put, n_kill, n_allocT, n_tabH, n_less]; omega)))]; simp (disch := first | omega | (simp only [n_alloc, n_put, n_kill, n_allocT, n_tabH, n_less]; omega) | (simp; done) | fail)) (by omega) (by omega)
        · rw [List.drop_zero, List.take_of_length_le (by simp)]
          exact FzL.flat (flats_u16s _)
theorem tabH_congr {H : Heap} {n : Nat} {f g : Nat → Nat → Bool} (h : ∀ a b, a < n → b < n → f a b = g a b) : tabH H n f = tabH H n g := Heap.ext' rfl fun b => by
  simp only [tabH]
  by_cases h1 : b < H.n
  · rw [if_pos h1, if_pos h1]
  · rw [if_neg h1, if_neg h1]
    by_cases h2 : b < H.n + n
    · rw [if_pos h2, if_pos h2]
      congr 3
      unfold rowT
      apply List.map_congr_left
      intro x hx
      exact h _ _ (by omega) (List.mem_range.1 hx)
    · rw [if_neg h2, if_neg h2]
theorem specCouples_ok (m : Int) : PCall Try.prog 27 [.int .i64 m] (AnsMade m) := by
  refine PCall.run mix Try.func27 (by kernel_rfl) fun w0 H hw => ?_
  simp (disch := first | omega | (simp only [n_alloc, n_put, n_kill, n_allocT, n_tabH, n_less]; omega) | (simp; done) | fail) [Try.f27]
  refine run_pureB (l1In_ok m 1 6) fun b hb => ?_
  simp (disch := first | omega | (simp only [n_alloc, n_put, n_kill, n_allocT, n_tabH, n_less]; omega) | (simp; done) | fail)
  refine cNB (fun q => ?_) fun q => ?_
  · simp (disch := first | omega | (simp only [n_alloc, n_put, n_kill, n_allocT, n_tabH, n_less]; omega) | (simp; done) | fail)
    refine ⟨(Ext.refl _).alloc _, .tuple [partyT 0 [], .bool false], Fz.tuple (FzL.cons (Fz.agg (FzL.cons (Fz.flat rfl) (FzL.cons Fz.nil FzL.nil))) (FzL.cons (Fz.flat rfl) FzL.nil)), .inr ⟨fun h => by have := hb.2 h; simp_all, rfl⟩⟩
  · have hm := hb.1 q
    obtain ⟨m, rfl⟩ := Int.eq_ofNat_of_zero_le (show 0 ≤ m by omega)
    simp (disch := first | omega | (simp only [n_alloc, n_put, n_kill, n_allocT, n_tabH, n_less]; omega) | (simp; done) | fail)
    have ec : (2 * (m : Int)) = ((2 * m : Nat) : Int) := by omega
    rw [ec]
    refine call_of (paTable0_ok (2 * m) (by omega) 1) fun v H1 hw1 ⟨hv, he1⟩ => ?_
    subst hv he1
    have e0 : fr [] = cpF 1 0 := by rw [cpF_zero]; rfl
    rw [e0]
    simp (disch := first | omega | (simp only [n_alloc, n_put, n_kill, n_allocT, n_tabH, n_less]; omega) | (simp; done) | fail)
    refine run_for m (fun k E H' => 1 ≤ k ∧ H' = tabH (H.alloc [.int .i64 0, .slice none 0 0 1 (some 0)]) (2 * m) (cpF k 0) ∧ E 0 = .int .i64 m ∧ E 2 = .ptr (some H.n) 0 ∧ E 4 = tabO (H.n + 1) (2 * m) ∧ E 5 = .int .i64 k) 1 (by omega) ?_ ?_
    · simp (disch := first | omega | (simp only [n_alloc, n_put, n_kill, n_allocT, n_tabH, n_less]; omega) | (simp; done) | fail)
    · rintro k E H' hw' hk ⟨hk1, rfl, h0, h2, h4, h5⟩
      simp (disch := first | omega | (simp only [n_alloc, n_put, n_kill, n_allocT, n_tabH, n_less]; omega) | (simp; done) | fail) [h0, h2, h4, h5]
      refine cP (fun g => ?_) fun g => ?_
      · simp (disch := first | omega | (simp only [n_alloc, n_put, n_kill, n_allocT, n_tabH, n_less]; omega) | (simp; done) | fail) [h0, h2, h4, h5, tabO]
        refine run_for (2 * m) (fun x E H' => H' = tabH (H.alloc [.int .i64 0, .slice none 0 0 1 (some 0)]) (2 * m) (cpF k x) ∧ E 0 = .int .i64 m ∧ E 2 = .ptr (some H.n) 0 ∧ E 4 = tabO (H.n + 1) (2 * m) ∧ E 5 = .int .i64 k ∧ E 21 = .int .i64 ((2 * m : Nat) : Int) ∧ E 22 = .int .i64 x) 0 (Nat.zero_le _) ?_ ?_
        · simp (disch := first | omega | (simp only [n_alloc, n_put, n_kill, n_allocT, n_tabH, n_less]; omega) | (simp; done) | fail) [h0, h2, h4, h5, tabO]
        · rintro x E H' hw' hx ⟨rfl, h0, h2, h4, h5, h21, h22⟩
          simp (disch := first | omega | (simp only [n_alloc, n_put, n_kill, n_allocT, n_tabH, n_less]; omega) | (simp; done) | fail) [h0, h2, h4, h5, h21, h22]
          refine cP (fun g' => ?_) fun g' => ?_
          · have d2 : ((x : Int)).tdiv 2 = ((x / 2 : Nat) : Int) := by rw [Int.tdiv_eq_ediv_of_nonneg (by omega)]; simp
            have m2 : ((x : Int)).tmod 2 = ((x % 2 : Nat) : Int) := by rw [Int.tmod_eq_emod_of_nonneg (by omega)]; simp
            have t2 : (2 * (k : Int)).toNat = 2 * k := by omega
            have eP : (x / 2 ≠ k ∧ (x % 2 = 0 ∨ x = 1 ∨ k < x / 2)) → updT (updT (cpF k x) (2 * k) x true) x (2 * k) true = cpF k (x + 1) := fun c => by
              funext a b
              rw [cpF_step hk1, if_pos c]
            have eN : ¬ (x / 2 ≠ k ∧ (x % 2 = 0 ∨ x = 1 ∨ k < x / 2)) → cpF k x = cpF k (x + 1) := fun c => by
              funext a b
              rw [cpF_step hk1, if_neg c]
            have hget : ∀ f y, y < 2 * m → (tabH (H.alloc [.int .i64 0, .slice none 0 0 1 (some 0)]) (2 * m) f).get (H.n + 1 + y) = some (.cells (bools (rowT (2 * m) (f y))) true) := fun f y hy => tabH_get (H := H.alloc _) hy
            have hput : ∀ f y z v, y < 2 * m → z < 2 * m → (tabH (H.alloc [.int .i64 0, .slice none 0 0 1 (some 0)]) (2 * m) f).put (H.n + 1 + y) (splice (bools (rowT (2 * m) (f y))) z [.bool v]) = tabH (H.alloc [.int .i64 0, .slice none 0 0 1 (some 0)]) (2 * m) (updT f y z v) := fun f y z v hy hz => tabH_put (H := H.alloc _) hy hz
            have P0 : (x / 2 ≠ k ∧ (x % 2 = 0 ∨ x = 1 ∨ k < x / 2)) → Heap.put ((tabH (H.alloc [.int .i64 0, .slice none 0 0 1 (some 0)]) (2 * m) (updT (cpF k x) (2 * k) x true))) (H.n + 1 + x) (splice (bools (rowT (2 * m) (updT (cpF k x) (2 * k) x true x))) (2 * k) [.bool true]) = tabH (H.alloc [.int .i64 0, .slice none 0 0 1 (some 0)]) (2 * m) (cpF k (x + 1)) := fun c => by rw [hput _ _ _ _ (by omega) (by omega), eP c]
            have P1 := hget (cpF k x) (2 * k) (by omega)
            have P2 := hget (updT (cpF k x) (2 * k) x true) x (by omega)
            have P3 := hput (cpF k x) (2 * k) x true (by omega) (by omega)
            simp (disch := first | omega | (simp only [n_alloc, n_put, n_kill, n_allocT, n_tabH, n_less]; omega) | (simp; done) | fail) [h0, h2, h4, h5, h21, h22, d2, m2]
            refine gN (fun c1 => ?_) fun c1 => ?_
            · simp (disch := first | omega | (simp only [n_alloc, n_put, n_kill, n_allocT, n_tabH, n_less]; omega) | (simp; done) | fail) [h0, h2, h4, h5, h21, h22, d2, m2, c1]
              refine gN (fun c2 => ?_) fun c2 => ?_
              · simp (disch := first | omega | (simp only [n_alloc, n_put, n_kill, n_allocT, n_tabH, n_less]; omega) | (simp; done) | fail) [h0, h2, h4, h5, h21, h22, d2, m2, c1, c2]
                refine gN (fun c3 => ?_) fun c3 => ?_
                · simp (disch := first | omega | (simp only [n_alloc, n_put, n_kill, n_allocT, n_tabH, n_less]; omega) | (simp; done) | fail) [h0, h2, h4, h5, h21, h22, d2, m2, c1, c2, c3]
                  refine cP (fun c4 => ?_) fun c4 => ?_
                  · simp (disch := first | omega | (simp only [n_alloc, n_put, n_kill, n_allocT, n_tabH, n_less]; omega) | (simp; done) | fail) [h0, h2, h4, h5, h21, h22, d2, m2, c1, c2, c3, tabO, t2, P1, P2, P3]
                    rw [P0 (by omega)]
                    first | exact Run.of ⟨by omega, rfl⟩ | exact ⟨by omega, Run.of ⟨by omega, rfl⟩⟩ | exact ⟨by omega, by omega, Run.of ⟨by omega, rfl⟩⟩ | trace_state
                  · simp (disch := first | omega | (simp only [n_alloc, n_put, n_kill, n_allocT, n_tabH, n_less]; omega) | (simp; done) | fail) [h0, h2, h4, h5, h21, h22, d2, m2, c1, c2, c3]
                    exact Run.of ⟨by omega, by rw [eN (by omega)]⟩
                · have c3d := decide_eq_true c3
                  simp (disch := first | omega | (simp only [n_alloc, n_put, n_kill, n_allocT, n_tabH, n_less]; omega) | (simp; done) | fail) [h0, h2, h4, h5, h21, h22, d2, m2, c1, c2, c3d, tabO, t2, P1, P2, P3]
                  rw [P0 (by omega)]
                  first | exact Run.of ⟨by omega, rfl⟩ | exact ⟨by omega, Run.of ⟨by omega, rfl⟩⟩ | exact ⟨by omega, by omega, Run.of ⟨by omega, rfl⟩⟩ | trace_state
              · simp (disch := first | omega | (simp only [n_alloc, n_put, n_kill, n_allocT, n_tabH, n_less]; omega) | (simp; done) | fail) [h0, h2, h4, h5, h21, h22, d2, m2, c1, c2, tabO, t2, P1, P2, P3]
                rw [P0 (by omega)]
                first | exact Run.of ⟨by omega, rfl⟩ | exact ⟨by omega, Run.of ⟨by omega, rfl⟩⟩ | exact ⟨by omega, by omega, Run.of ⟨by omega, rfl⟩⟩ | trace_state
            · simp (disch := first | omega | (simp only [n_alloc, n_put, n_kill, n_allocT, n_tabH, n_less]; omega) | (simp; done) | fail) [h0, h2, h4, h5, h21, h22, d2, m2, c1]
              exact Run.of ⟨by omega, by rw [eN (by omega)]⟩
          · have : x = 2 * m := by omega
            subst this
            simp (disch := first | omega | (simp only [n_alloc, n_put, n_kill, n_allocT, n_tabH, n_less]; omega) | (simp; done) | fail) [h0, h2, h4, h5]
            refine ⟨by omega, ?_⟩
            exact ⟨tabH_congr fun a b ha hb => cpF_next (m := m) (k := k) a b ha hb, rfl⟩
      · have : k = m := by omega
        subst this
        simp (disch := first | omega | (simp only [n_alloc, n_put, n_kill, n_allocT, n_tabH, n_less]; omega) | (simp; done) | fail) [h2, h4]
        refine run_frzT (H := H.alloc [.int .i64 0, .slice none 0 0 1 (some 0)]) (wf_alloc hw) (paOf_ok (2 * k) (cpF k 0) (by omega)) fun v hv => ?_
        subst hv
        simp (disch := first | omega | (simp only [n_alloc, n_put, n_kill, n_allocT, n_tabH, n_less]; omega) | (simp; done) | fail) [h2]
        exact done_made hw (by rw [ext_put (by (first | omega | (simp only [n_alloc, n_put, n_kill, n_allocT, n_tabH, n_less]; omega))), ext_less (by (first | omega | (simp only [n_alloc, n_put, n_kill, n_allocT, n_tabH, n_less]; omega))) (by (first | omega | (simp only [n_alloc, n_put, n_kill, n_allocT, n_tabH, n_less]; omega))), ext_tabH (by (first | omega | (simp only [n_alloc, n_put, n_kill, n_allocT, n_tabH, n_less]; omega)))]; simp (disch := first | omega | (simp only [n_alloc, n_put, n_kill, n_allocT, n_tabH, n_less]; omega) | (simp; done) | fail)) (by omega) (by omega)
end Go.Proofs.Ythkmbfifiojmhaa
