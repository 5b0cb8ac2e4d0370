/- How many friends each has; the parties of the program's tables. -/
import Derived.Test.YthkmbfifiojmhaaT8
set_option linter.unusedSimpArgs false
set_option linter.unusedVariables false
set_option maxRecDepth 100000
namespace Go.Proofs.Ythkmbfifiojmhaa
open Go.Abs
variable {w0 : World} {H : Heap}
/-- How many friends a person has. -/
def deg (n : Nat) (f : Nat → Nat → Bool) (a : Nat) : Nat := (List.range n).countP (f a)
theorem deg_le (n : Nat) (f : Nat → Nat → Bool) (a : Nat) : deg n f a ≤ n := by
  have := List.countP_le_length (p := f a) (l := List.range n)
  simpa [deg] using this
theorem deg_congr {n : Nat} {f g : Nat → Nat → Bool} {a : Nat} (h : ∀ x, x < n → f a x = g a x) : deg n f a = deg n g a :=
  List.countP_congr fun x hx => by rw [h x (List.mem_range.1 hx)]
theorem countP_upd {g : Nat → Bool} {x : Nat} (hg : g x = false) : ∀ n, (List.range n).countP (fun y => if y = x then true else g y) = (List.range n).countP g + if x < n then 1 else 0
  | 0 => by simp
  | n + 1 => by
    rw [List.range_succ, List.countP_append, List.countP_append, countP_upd hg n]
    simp only [List.countP_cons, List.countP_nil, Nat.zero_add]
    by_cases e : n = x
    · subst e; simp [hg]
    · rw [if_neg e]
      by_cases h : x < n
      · rw [if_pos h, if_pos (show x < n + 1 by omega)]; omega
      · rw [if_neg h, if_neg (show ¬ x < n + 1 by omega)]; omega
theorem deg_upd {n : Nat} {f : Nat → Nat → Bool} {a x : Nat} (hf : f a x = false) (hx : x < n) (b : Nat) : deg n (updT f a x true) b = deg n f b + if b = a then 1 else 0 := by
  unfold deg
  by_cases e : b = a
  · subst e
    have := countP_upd hf n
    rw [if_pos hx] at this
    rw [if_pos rfl, ← this]
    apply List.countP_congr
    intro y _
    simp [updT]
  · rw [if_neg e, Nat.add_zero]
    apply List.countP_congr
    intro y _
    simp only [updT]
    rw [if_neg (by omega)]
theorem PLess.trans {p q r : Int × Int} (h : PLess p q) (h' : PLess q r) : PLess p r := by
  unfold PLess at *; omega
theorem good_lt {n : Int} {ps : List (Int × Int)} (hg : GoodP n ps) : ∀ {i j : Nat} (hi : i < j) (hj : j < ps.length), PLess (ps[i]'(by omega)) ps[j]
  | i, j + 1, hi, hj => by
    have h1 := (hg.2 (j + 1) hj).2.2.2 (by omega)
    simp only [Nat.add_sub_cancel] at h1
    rcases Nat.lt_or_ge i j with h | h
    · exact (good_lt hg h (by omega)).trans h1
    · obtain rfl : i = j := by omega
      exact h1
theorem fr_symm (ps : List (Int × Int)) (a b : Nat) : fr ps a b = fr ps b a := by
  unfold fr
  congr 1
  funext p
  rw [Bool.or_comm]
theorem fr_new {n : Int} {ps : List (Int × Int)} (hg : GoodP n ps) {j : Nat} (hj : j < ps.length) : fr (ps.take j) ps[j].1.toNat ps[j].2.toNat = false := by
  cases h : fr (ps.take j) ps[j].1.toNat ps[j].2.toNat with
  | false => rfl
  | true =>
    exfalso
    unfold fr at h
    rw [List.any_eq_true] at h
    obtain ⟨p, hp, h⟩ := h
    obtain ⟨i, hi, rfl⟩ := List.getElem_of_mem hp
    rw [List.getElem_take] at h
    rw [List.length_take] at hi
    have h1 := good_lt hg (show i < j by omega) hj
    have h2 := hg.2 i (by omega)
    have h3 := hg.2 j hj
    simp at h
    unfold PLess at h1
    omega
theorem deg_step {n : Nat} {ps : List (Int × Int)} (hg : GoodP n ps) {j : Nat} (hj : j < ps.length) (b : Nat) : deg n (fr (ps.take (j + 1))) b = deg n (fr (ps.take j)) b + (if b = ps[j].1.toNat then 1 else 0) + if b = ps[j].2.toNat then 1 else 0 := by
  have h3 := hg.2 j hj
  have hn := fr_new hg hj
  rw [← fr_step ps j hj (by omega) (by omega)]
  rw [deg_upd (by
    simp only [updT]
    rw [if_neg (by omega), fr_symm]
    exact hn) (by omega), deg_upd hn (by omega)]
theorem fr_nil (a b : Nat) : fr [] a b = false := rfl
theorem deg_nil (n a : Nat) : deg n (fr []) a = 0 := by
  unfold deg
  rw [List.countP_eq_zero]
  intro x _
  simp [fr_nil]
/-- All numbers of friends. -/
def degs (n : Nat) (f : Nat → Nat → Bool) : List Int := (List.range n).map fun a => (deg n f a : Int)
theorem degs_length (n : Nat) (f : Nat → Nat → Bool) : (degs n f).length = n := by simp [degs]
theorem degs_get {n : Nat} {f : Nat → Nat → Bool} {a : Nat} (h : a < (degs n f).length) : (degs n f)[a] = deg n f a := by simp [degs]
attribute [simp] degs_length
theorem number_ok (n : Nat) (f : Nat → Nat → Bool) (a : Int) (hn : n ≤ 16) (ha : 0 ≤ a ∧ a < n) : PCall Try.prog 52 [wordsT n f, .int .i64 a] fun v => v = .int .i64 (deg n f a.toNat) := by
  have hW := wordsAt_ok hn f
  have hlt : a.toNat < (wordsAt n f).length := by rw [wordsAt_length]; omega
  obtain ⟨w1, w2⟩ := hW.2 a.toNat hlt
  refine PCall.run mix Try.func52 (by kernel_rfl) fun w0 H hw => ?_
  simp (disch := first | omega | (simp only [n_alloc, n_put, n_kill, n_allocT, n_tabH, n_less]; omega) | (simp; done) | fail) [Try.f52]
  refine run_pure (onesCount_ok _ w1) fun v hv => ?_
  subst hv
  simp (disch := first | omega | (simp only [n_alloc, n_put, n_kill, n_allocT, n_tabH, n_less]; omega) | (simp; done) | fail)
  refine Done.flat (Ext.refl _) rfl ?_
  congr 2
  have e : (List.range 16).countP (fun i => (wordsAt n f)[a.toNat].testBit i) = (List.range 16).countP fun i => decide (i < n) && f a.toNat i := List.countP_congr fun i _ => by rw [w2]
  rw [e]
  have e2 : List.range 16 = List.range n ++ (List.range (16 - n)).map (n + ·) := by
    rw [← List.range_add]; congr 1; omega
  rw [e2, List.countP_append, List.countP_map]
  have z : (List.range (16 - n)).countP ((fun i => decide (i < n) && f a.toNat i) ∘ (n + ·)) = 0 := by
    rw [List.countP_eq_zero]
    intro x _
    simp
    intro h
    omega
  rw [z, Nat.add_zero]
  unfold deg
  exact List.countP_congr fun i hi => by have := List.mem_range.1 hi; simp [this]
theorem numbers_ok (n : Nat) (f : Nat → Nat → Bool) (hn : n ≤ 16) : PCall Try.prog 53 [wordsT n f] fun v => v = intsT (degs n f) := by
  refine PCall.run mix Try.func53 (by kernel_rfl) fun w0 H hw => ?_
  simp (disch := first | omega | (simp only [n_alloc, n_put, n_kill, n_allocT, n_tabH, n_less]; omega) | (simp; done) | fail) [Try.f53]
  refine build_tok ?_
  simp (disch := first | omega | (simp only [n_alloc, n_put, n_kill, n_allocT, n_tabH, n_less]; omega) | (simp; done) | fail) [buildT]
  refine run_for n (fun i E H' => Ext H H' ∧ E 0 = wordsT n f ∧ E 7 = .int .i64 n ∧ E 8 = .int .i64 i ∧ Tl H.n H' (E 3) i 1 (ints ((degs n f).take i))) 0 (Nat.zero_le _) ?_ ?_
  · simp (disch := first | omega | (simp only [n_alloc, n_put, n_kill, n_allocT, n_tabH, n_less]; omega) | (simp; done) | fail)
    exact Tl.new (by simp) (Nat.le_refl _)
  · rintro i E H' hw' hi ⟨he, h0, h7, h8, hT⟩
    simp (disch := first | omega | (simp only [n_alloc, n_put, n_kill, n_allocT, n_tabH, n_less]; omega) | (simp; done) | fail) [h0, h7, h8]
    refine cP (fun h => ?_) fun h => ?_
    · simp (disch := first | omega | (simp only [n_alloc, n_put, n_kill, n_allocT, n_tabH, n_less]; omega) | (simp; done) | fail) [h0, h7, h8]
      refine run_pure (number_ok n f i hn (by omega)) fun v hv => ?_
      subst hv
      simp (disch := first | omega | (simp only [n_alloc, n_put, n_kill, n_allocT, n_tabH, n_less]; omega) | (simp; done) | fail) [h0, h7, h8]
      refine build_lst ?_
      simp (disch := first | omega | (simp only [n_alloc, n_put, n_kill, n_allocT, n_tabH, n_less]; omega) | (simp; done) | fail) [buildL]
      have he1 := he.1
      refine append_tl (n := 1) (new := [.int .i64 (deg n f i)]) hT hw' (by (first | omega | (simp only [n_alloc, n_put, n_kill, n_allocT, n_tabH, n_less]; omega))) (by simp (disch := first | omega | (simp only [n_alloc, n_put, n_kill, n_allocT, n_tabH, n_less]; omega) | (simp; done) | fail); omega) (by simp (disch := first | omega | (simp only [n_alloc, n_put, n_kill, n_allocT, n_tabH, n_less]; omega) | (simp; done) | fail)) (by omega) (by simp (disch := first | omega | (simp only [n_alloc, n_put, n_kill, n_allocT, n_tabH, n_less]; omega) | (simp; done) | fail)) (by simp (disch := first | omega | (simp only [n_alloc, n_put, n_kill, n_allocT, n_tabH, n_less]; omega) | (simp; done) | fail)) (by simp (disch := first | omega | (simp only [n_alloc, n_put, n_kill, n_allocT, n_tabH, n_less]; omega) | (simp; done) | fail)) (by omega) fun v' H2 hw2 hT2 hk2 _ => ?_
      simp (disch := first | omega | (simp only [n_alloc, n_put, n_kill, n_allocT, n_tabH, n_less]; omega) | (simp; done) | fail) [h0, h7, h8]
      refine ⟨h, hT.ext hk2 he (Nat.le_refl _), ?_⟩
      rw [List.take_succ_eq_append_getElem (by rw [degs_length]; exact h), degs_get]
      simpa [ints] using hT2
    · have : i = n := by omega
      subst this
      simp (disch := first | omega | (simp only [n_alloc, n_put, n_kill, n_allocT, n_tabH, n_less]; omega) | (simp; done) | fail)
      rw [List.take_of_length_le (by simp)] at hT
      exact Done.tl hw he hT (flats_ints _) (by simp)
theorem splice_ints' {l : List Int} {k : Nat} {x : Int} (hk : k < l.length) : splice (ints l) k [.int .i64 x] = ints (l.set k x) := splice_ints hk
theorem paNumbers_ok (n : Nat) (ps : List (Int × Int)) (hg : GoodP n ps) (hl : ps.length < 2 ^ 31) : PCall Try.prog 50 [partyT n ps] fun v => v = intsT (degs n (fr ps)) := by
  have hn := hg.1
  refine PCall.run mix Try.func50 (by kernel_rfl) fun w0 H hw => ?_
  simp (disch := first | omega | (simp only [n_alloc, n_put, n_kill, n_allocT, n_tabH, n_less]; omega) | (simp; done) | fail) [Try.f50]
  refine box_f rfl ?_
  simp (disch := first | omega | (simp only [n_alloc, n_put, n_kill, n_allocT, n_tabH, n_less]; omega) | (simp; done) | fail)
  refine make_row ?_
  simp (disch := first | omega | (simp only [n_alloc, n_put, n_kill, n_allocT, n_tabH, n_less]; omega) | (simp; done) | fail)
  refine ⟨by omega, by omega, ?_⟩
  refine run_for ps.length (fun j E H' => Ext H H' ∧ E 10 = pairsT ps ∧ E 11 = .int .i64 ps.length ∧ E 12 = .int .i64 j ∧ E 3 = .slice (some H.n) 0 n 1 (some n) ∧ H'.get H.n = some (.cells (ints (degs n (fr (ps.take j)))) true)) 0 (Nat.zero_le _) ?_ ?_
  · simp (disch := first | omega | (simp only [n_alloc, n_put, n_kill, n_allocT, n_tabH, n_less]; omega) | (simp; done) | fail)
    have e : degs n (fr []) = List.replicate n 0 := by
      apply List.ext_getElem (by simp)
      intro i h1 h2
      rw [degs_get, deg_nil]; simp
    rw [e]
    simp [ints]
  · rintro j E H' hw' hj ⟨he, h10, h11, h12, h3, hg3⟩
    simp (disch := first | omega | (simp only [n_alloc, n_put, n_kill, n_allocT, n_tabH, n_less]; omega) | (simp; done) | fail) [h10, h11, h12, h3]
    refine cP (fun g => ?_) fun g => ?_
    · obtain ⟨q1, q2, q3, _⟩ := hg.2 j g
      have hlt := hw' _ _ hg3
      have hA : ps[j].1.toNat < n := by omega
      have hB : ps[j].2.toNat < n := by omega
      have dA := deg_le n (fr (ps.take j)) ps[j].1.toNat
      have dB := deg_le n (fr (ps.take j)) ps[j].2.toNat
      have gl : ∀ x : Int, 0 ≤ x → x < n → (ints (degs n (fr (ps.take j))))[x.toNat]? = some (.int .i64 (deg n (fr (ps.take j)) x.toNat)) := fun x h1 h2 => by
        rw [ints_get (by simp; omega), degs_get]
      have sp : ∀ (x : Nat) (v : Int), x < n → splice (ints (degs n (fr (ps.take j)))) x [.int .i64 v] = ints ((degs n (fr (ps.take j))).set x v) := fun x v hx => splice_ints (by simp; omega)
      have gB : (ints ((degs n (fr (ps.take j))).set ps[j].1.toNat (deg n (fr (ps.take j)) ps[j].1.toNat + 1)))[ps[j].2.toNat]? = some (.int .i64 (deg n (fr (ps.take j)) ps[j].2.toNat)) := by
        rw [ints_get (by simp; omega), List.getElem_set_ne (by omega), degs_get]
      have sp2 : ∀ (l : List Int) (x : Nat) (v : Int), l.length = n → x < n → splice (ints l) x [.int .i64 v] = ints (l.set x v) := fun l x v hl hx => splice_ints (by omega)
      simp (disch := first | omega | (simp only [n_alloc, n_put, n_kill, n_allocT, n_tabH, n_less]; omega) | (simp; done) | fail) [h10, h11, h12, h3, g, hg3, gl, sp, gB, sp2]
      refine ⟨by omega, by omega, he, ?_⟩
      congr 1
      apply List.ext_getElem (by simp)
      intro i h1 h2
      simp only [degs_length] at h2
      rw [degs_get, deg_step hg g, List.getElem_set, List.getElem_set]
      by_cases e2 : ps[j].2.toNat = i
      · rw [if_pos e2, if_neg (by omega), if_pos e2.symm, e2]; simp
      · rw [if_neg e2]
        by_cases e1 : ps[j].1.toNat = i
        · rw [if_pos e1, if_pos e1.symm, if_neg (fun e => e2 e.symm), e1]; simp
        · rw [if_neg e1, if_neg (fun e => e1 e.symm), if_neg (fun e => e2 e.symm), degs_get]
          simp
    · have : j = ps.length := by omega
      subst this
      rw [List.take_length] at hg3
      have hlt := hw' _ _ hg3
      simp (disch := first | omega | (simp only [n_alloc, n_put, n_kill, n_allocT, n_tabH, n_less]; omega) | (simp; done) | fail) [h3]
      refine Done.mk hw he (fun hs => Fz.row hs ?_ hg3 (by simp) ?_) rfl
      · cases hh : H.get H.n with
        | none => rfl
        | some o => have := hw _ _ hh; omega
      · rw [List.drop_zero, List.take_of_length_le (by simp)]
        exact FzL.flat (flats_ints _)
end Go.Proofs.Ythkmbfifiojmhaa
