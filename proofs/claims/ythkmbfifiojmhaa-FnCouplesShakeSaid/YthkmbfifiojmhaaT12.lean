/- Couples. -/
import Derived.Test.YthkmbfifiojmhaaT11
set_option linter.unusedSimpArgs false
set_option linter.unusedVariables false
set_option maxRecDepth 100000
namespace Go.Proofs.Ythkmbfifiojmhaa
open Go.Abs
variable {w0 : World} {H : Heap}
theorem l1Put_ok (l : List Int) (x : Int) (va : AV) (hv : Rc va (intsT l)) (hl : l.length < 2 ^ 31) (hs : l.Pairwise (· < ·)) : PCall Try.prog 51 [va, .int .i64 x] fun v => v = intsT (putZ l x) := by
  suffices h : PCall Try.prog 51 [intsT l, .int .i64 x] fun v => v = intsT (putZ l x) from fun w0 H => ACall.recast (fun σ vs h => Rcs.cons hv Rcs.refl σ vs h) (h w0 H)
  refine PCall.run mix Try.func51 (by kernel_rfl) fun w0 H hw => ?_
  simp (disch := first | omega | (simp only [n_alloc, n_put, n_kill, n_allocT, n_tabH, n_less]; omega) | (simp; done) | fail) [Try.f51]
  have split : ∀ k, k ≤ l.length → (∀ j (h : j < k) (h' : j < l.length), l[j] < x) → (∀ h : k < l.length, x ≤ l[k]) → l.takeWhile (· < x) = l.take k ∧ l.dropWhile (· < x) = l.drop k := by
    intro k hk h1 h2
    have e : l = l.take k ++ l.drop k := (List.take_append_drop k l).symm
    have t : ∀ y ∈ l.take k, decide (y < x) = true := fun y hy => by
      obtain ⟨j, hj, rfl⟩ := List.getElem_of_mem hy
      rw [List.getElem_take]
      simp at hj
      simpa using h1 j (by omega) (by omega)
    have d : (l.drop k).takeWhile (· < x) = [] ∧ (l.drop k).dropWhile (· < x) = l.drop k := by
      rcases Nat.lt_or_ge k l.length with hlt | hge
      · rw [List.drop_eq_getElem_cons hlt]
        have := h2 hlt
        rw [List.takeWhile_cons_of_neg (by simpa using this), List.dropWhile_cons_of_neg (by simpa using this)]
        simp
      · rw [List.drop_eq_nil_of_le hge]; simp
    constructor
    · conv => lhs; rw [e]
      rw [List.takeWhile_append_of_pos t, d.1, List.append_nil]
    · conv => lhs; rw [e]
      rw [List.dropWhile_append_of_pos t, d.2]
  refine run_for l.length (fun k E H' => H' = H ∧ E 0 = intsT l ∧ E 1 = .int .i64 x ∧ E 5 = .int .i64 k ∧ ∀ j (h : j < k) (h' : j < l.length), l[j] < x) 0 (Nat.zero_le _) ?_ ?_
  · simp (disch := first | omega | (simp only [n_alloc, n_put, n_kill, n_allocT, n_tabH, n_less]; omega) | (simp; done) | fail)
  · rintro k E H' hw' hk ⟨rfl, h0, h1, h5, hc⟩
    simp (disch := first | omega | (simp only [n_alloc, n_put, n_kill, n_allocT, n_tabH, n_less]; omega) | (simp; done) | fail) [h0, h1, h5]
    refine gP (fun h => ?_) fun h => ?_
    · simp (disch := first | omega | (simp only [n_alloc, n_put, n_kill, n_allocT, n_tabH, n_less]; omega) | (simp; done) | fail) [h0, h1, h5, h]
      refine cP (fun g => ?_) fun g => ?_
      · simp (disch := first | omega | (simp only [n_alloc, n_put, n_kill, n_allocT, n_tabH, n_less]; omega) | (simp; done) | fail) [h0, h1, h5, h]
        intro j hj h'
        rcases Nat.lt_or_ge j k with hlt | hge
        · exact hc j hlt h'
        · obtain rfl : j = k := by omega
          exact g
      · obtain ⟨e1, e2⟩ := split k hk hc fun h => by omega
        simp (disch := first | omega | (simp only [n_alloc, n_put, n_kill, n_allocT, n_tabH, n_less]; omega) | (simp; done) | fail) [h0, h1, h5, h]
        refine cP (fun g' => ?_) fun g' => ?_
        · simp (disch := first | omega | (simp only [n_alloc, n_put, n_kill, n_allocT, n_tabH, n_less]; omega) | (simp; done) | fail) [h0]
          refine Done.same hw (Ext.refl _) (under_lst (unders_of_flats _ (flats_ints _))) ?_
          have : x ∈ l := by rw [← g']; exact List.getElem_mem h
          simp [putZ, this]
        · have hnot : x ∉ l := fun hm => by
            obtain ⟨j, hj, rfl⟩ := List.getElem_of_mem hm
            rcases Nat.lt_trichotomy j k with q | q | q
            · have := hc j q hj; omega
            · subst q; exact g' rfl
            · have := List.pairwise_iff_getElem.1 hs k j h hj q; omega
          simp (disch := first | omega | (simp only [n_alloc, n_put, n_kill, n_allocT, n_tabH, n_less]; omega) | (simp; done) | fail) [h0, h1, h5, h]
          refine build_tok ?_
          simp (disch := first | omega | (simp only [n_alloc, n_put, n_kill, n_allocT, n_tabH, n_less]; omega) | (simp; done) | fail) [buildT, h0, h1, h5, ints_take]
          have hT0 : Tl H'.n H'.allocT (.lst (some H'.n) 0 1 []) 0 1 [] := Tl.new rfl (Nat.le_refl _)
          refine append_tl (cs := []) (len := 0) (sz := 1) (n := k) (new := ints (l.take k)) hT0 (wf_allocT hw) (by (first | omega | (simp only [n_alloc, n_put, n_kill, n_allocT, n_tabH, n_less]; omega))) (by simp (disch := first | omega | (simp only [n_alloc, n_put, n_kill, n_allocT, n_tabH, n_less]; omega) | (simp; done) | fail); omega) (by simp (disch := first | omega | (simp only [n_alloc, n_put, n_kill, n_allocT, n_tabH, n_less]; omega) | (simp; done) | fail)) (by omega) (by simp (disch := first | omega | (simp only [n_alloc, n_put, n_kill, n_allocT, n_tabH, n_less]; omega) | (simp; done) | fail)) (by rw [cellsA_lst (by simp; omega)]) (ints_one _) (by omega) fun v1 H1 hw1 hT1 hk1 _ => ?_
          have x1 : Ext H' H1 := hT0.ext hk1 (by simp (disch := first | omega | (simp only [n_alloc, n_put, n_kill, n_allocT, n_tabH, n_less]; omega) | (simp; done) | fail)) (Nat.le_refl _)
          have xn1 := x1.1
          simp (disch := first | omega | (simp only [n_alloc, n_put, n_kill, n_allocT, n_tabH, n_less]; omega) | (simp; done) | fail) [h0, h1, h5]
          refine build_lst ?_
          simp (disch := first | omega | (simp only [n_alloc, n_put, n_kill, n_allocT, n_tabH, n_less]; omega) | (simp; done) | fail) [buildL, h0, h1, h5]
          refine append_tl (n := 1) (new := [.int .i64 x]) hT1 hw1 (by (first | omega | (simp only [n_alloc, n_put, n_kill, n_allocT, n_tabH, n_less]; omega))) (by simp (disch := first | omega | (simp only [n_alloc, n_put, n_kill, n_allocT, n_tabH, n_less]; omega) | (simp; done) | fail); omega) (by simp (disch := first | omega | (simp only [n_alloc, n_put, n_kill, n_allocT, n_tabH, n_less]; omega) | (simp; done) | fail)) (by omega) (by simp (disch := first | omega | (simp only [n_alloc, n_put, n_kill, n_allocT, n_tabH, n_less]; omega) | (simp; done) | fail)) (by simp (disch := first | omega | (simp only [n_alloc, n_put, n_kill, n_allocT, n_tabH, n_less]; omega) | (simp; done) | fail)) (by simp (disch := first | omega | (simp only [n_alloc, n_put, n_kill, n_allocT, n_tabH, n_less]; omega) | (simp; done) | fail)) (by omega) fun v2 H2 hw2 hT2 hk2 _ => ?_
          have x2 : Ext H' H2 := hT1.ext hk2 x1 (Nat.le_refl _)
          have xn2 := x2.1
          simp (disch := first | omega | (simp only [n_alloc, n_put, n_kill, n_allocT, n_tabH, n_less]; omega) | (simp; done) | fail) [h0, h1, h5]
          refine append_tl (n := l.length - k) (new := ints (l.drop k)) hT2 hw2 (by (first | omega | (simp only [n_alloc, n_put, n_kill, n_allocT, n_tabH, n_less]; omega))) (by simp (disch := first | omega | (simp only [n_alloc, n_put, n_kill, n_allocT, n_tabH, n_less]; omega) | (simp; done) | fail); omega) (by simp (disch := first | omega | (simp only [n_alloc, n_put, n_kill, n_allocT, n_tabH, n_less]; omega) | (simp; done) | fail)) (by omega) (by simp (disch := first | omega | (simp only [n_alloc, n_put, n_kill, n_allocT, n_tabH, n_less]; omega) | (simp; done) | fail)) (by simp (disch := first | omega | (simp only [n_alloc, n_put, n_kill, n_allocT, n_tabH, n_less]; omega) | (simp; done) | fail) [ints_drop, ints_take]; first | rw [List.take_of_length_le (by simp)] | (rw [List.drop_eq_nil_of_le (by omega)]; rfl)) (ints_one _) (by omega) fun v3 H3 hw3 hT3 hk3 _ => ?_
          have x3 : Ext H' H3 := hT2.ext hk3 x2 (Nat.le_refl _)
          simp (disch := first | omega | (simp only [n_alloc, n_put, n_kill, n_allocT, n_tabH, n_less]; omega) | (simp; done) | fail)
          have ep : putZ l x = l.take k ++ x :: l.drop k := by simp only [putZ, hnot, if_false, e1, e2]
          have ec : [] ++ ints (l.take k) ++ [AV.int .i64 x] ++ ints (l.drop k) = ints (putZ l x) := by
            rw [ep]; simp [ints]
          have el : 0 + k + 1 + (l.length - k) = (putZ l x).length := by
            rw [ep]; simp; omega
          rw [ec, el] at hT3
          exact Done.tl hw x3 hT3 (flats_ints _) rfl
    · have hkl : k = l.length := by omega
      obtain ⟨e1, e2⟩ := split k hk hc fun h => by omega
      have hnot : x ∉ l := fun hm => by
        obtain ⟨j, hj, rfl⟩ := List.getElem_of_mem hm
        have := hc j (by omega) hj; omega
      simp (disch := first | omega | (simp only [n_alloc, n_put, n_kill, n_allocT, n_tabH, n_less]; omega) | (simp; done) | fail) [h0, h1, h5, h]
      refine build_tok ?_
      simp (disch := first | omega | (simp only [n_alloc, n_put, n_kill, n_allocT, n_tabH, n_less]; omega) | (simp; done) | fail) [buildT, h0, h1, h5, ints_take]
      have hT0 : Tl H'.n H'.allocT (.lst (some H'.n) 0 1 []) 0 1 [] := Tl.new rfl (Nat.le_refl _)
      refine append_tl (cs := []) (len := 0) (sz := 1) (n := k) (new := ints (l.take k)) hT0 (wf_allocT hw) (by (first | omega | (simp only [n_alloc, n_put, n_kill, n_allocT, n_tabH, n_less]; omega))) (by simp (disch := first | omega | (simp only [n_alloc, n_put, n_kill, n_allocT, n_tabH, n_less]; omega) | (simp; done) | fail); omega) (by simp (disch := first | omega | (simp only [n_alloc, n_put, n_kill, n_allocT, n_tabH, n_less]; omega) | (simp; done) | fail)) (by omega) (by simp (disch := first | omega | (simp only [n_alloc, n_put, n_kill, n_allocT, n_tabH, n_less]; omega) | (simp; done) | fail)) (by rw [cellsA_lst (by simp; omega)]) (ints_one _) (by omega) fun v1 H1 hw1 hT1 hk1 _ => ?_
      have x1 : Ext H' H1 := hT0.ext hk1 (by simp (disch := first | omega | (simp only [n_alloc, n_put, n_kill, n_allocT, n_tabH, n_less]; omega) | (simp; done) | fail)) (Nat.le_refl _)
      have xn1 := x1.1
      simp (disch := first | omega | (simp only [n_alloc, n_put, n_kill, n_allocT, n_tabH, n_less]; omega) | (simp; done) | fail) [h0, h1, h5]
      refine build_lst ?_
      simp (disch := first | omega | (simp only [n_alloc, n_put, n_kill, n_allocT, n_tabH, n_less]; omega) | (simp; done) | fail) [buildL, h0, h1, h5]
      refine append_tl (n := 1) (new := [.int .i64 x]) hT1 hw1 (by (first | omega | (simp only [n_alloc, n_put, n_kill, n_allocT, n_tabH, n_less]; omega))) (by simp (disch := first | omega | (simp only [n_alloc, n_put, n_kill, n_allocT, n_tabH, n_less]; omega) | (simp; done) | fail); omega) (by simp (disch := first | omega | (simp only [n_alloc, n_put, n_kill, n_allocT, n_tabH, n_less]; omega) | (simp; done) | fail)) (by omega) (by simp (disch := first | omega | (simp only [n_alloc, n_put, n_kill, n_allocT, n_tabH, n_less]; omega) | (simp; done) | fail)) (by simp (disch := first | omega | (simp only [n_alloc, n_put, n_kill, n_allocT, n_tabH, n_less]; omega) | (simp; done) | fail)) (by simp (disch := first | omega | (simp only [n_alloc, n_put, n_kill, n_allocT, n_tabH, n_less]; omega) | (simp; done) | fail)) (by omega) fun v2 H2 hw2 hT2 hk2 _ => ?_
      have x2 : Ext H' H2 := hT1.ext hk2 x1 (Nat.le_refl _)
      have xn2 := x2.1
      simp (disch := first | omega | (simp only [n_alloc, n_put, n_kill, n_allocT, n_tabH, n_less]; omega) | (simp; done) | fail) [h0, h1, h5]
      refine append_tl (n := l.length - k) (new := ints (l.drop k)) hT2 hw2 (by (first | omega | (simp only [n_alloc, n_put, n_kill, n_allocT, n_tabH, n_less]; omega))) (by simp (disch := first | omega | (simp only [n_alloc, n_put, n_kill, n_allocT, n_tabH, n_less]; omega) | (simp; done) | fail); omega) (by simp (disch := first | omega | (simp only [n_alloc, n_put, n_kill, n_allocT, n_tabH, n_less]; omega) | (simp; done) | fail)) (by omega) (by simp (disch := first | omega | (simp only [n_alloc, n_put, n_kill, n_allocT, n_tabH, n_less]; omega) | (simp; done) | fail)) (by simp (disch := first | omega | (simp only [n_alloc, n_put, n_kill, n_allocT, n_tabH, n_less]; omega) | (simp; done) | fail) [ints_drop, ints_take]; first | rw [List.take_of_length_le (by simp)] | (rw [List.drop_eq_nil_of_le (by omega)]; rfl)) (ints_one _) (by omega) fun v3 H3 hw3 hT3 hk3 _ => ?_
      have x3 : Ext H' H3 := hT2.ext hk3 x2 (Nat.le_refl _)
      simp (disch := first | omega | (simp only [n_alloc, n_put, n_kill, n_allocT, n_tabH, n_less]; omega) | (simp; done) | fail)
      have ep : putZ l x = l.take k ++ x :: l.drop k := by simp only [putZ, hnot, if_false, e1, e2]
      have ec : [] ++ ints (l.take k) ++ [AV.int .i64 x] ++ ints (l.drop k) = ints (putZ l x) := by
        rw [ep]; simp [ints]
      have el : 0 + k + 1 + (l.length - k) = (putZ l x).length := by
        rw [ep]; simp; omega
      rw [ec, el] at hT3
      exact Done.tl hw x3 hT3 (flats_ints _) rfl
theorem Pairwise_putZ {l : List Int} {x : Int} (hs : l.Pairwise (· < ·)) : (putZ l x).Pairwise (· < ·) := by
  unfold putZ
  split
  · exact hs
  · rename_i hx
    rw [List.pairwise_append]
    have e : l = l.takeWhile (· < x) ++ l.dropWhile (· < x) := (List.takeWhile_append_dropWhile).symm
    have hs' := hs
    rw [e, List.pairwise_append] at hs'
    obtain ⟨p1, p2, p3⟩ := hs'
    have hd : ∀ y ∈ l.dropWhile (· < x), x < y := by
      intro y hy
      cases hdw : l.dropWhile (· < x) with
      | nil => rw [hdw] at hy; cases hy
      | cons z zs =>
        have hz := List.head_dropWhile_not (p := fun y => decide (y < x)) (l := l) (by rw [hdw]; simp)
        simp only [hdw, List.head_cons] at hz
        have hzx : z ≠ x := fun e' => hx (by rw [e, hdw, e']; simp)
        have hz' : x < z := by simp at hz; omega
        rw [hdw] at hy p2
        rcases List.mem_cons.1 hy with rfl | hy
        · exact hz'
        · have := (List.pairwise_cons.1 p2).1 y hy; omega
    refine ⟨p1, List.pairwise_cons.2 ⟨hd, p2⟩, fun a ha b hb => ?_⟩
    have ha' : a < x := by
      have := List.all_takeWhile (p := fun y => decide (y < x)) (l := l)
      rw [List.all_eq_true] at this
      simpa using this a ha
    rcases List.mem_cons.1 hb with rfl | hb
    · exact ha'
    · have := hd b hb; omega
theorem mem_putZ {l : List Int} {x y : Int} : y ∈ putZ l x ↔ y ∈ l ∨ y = x := by
  unfold putZ
  split
  · rename_i h
    constructor
    · exact .inl
    · rintro (h' | rfl)
      · exact h'
      · exact h
  · have e : l = l.takeWhile (· < x) ++ l.dropWhile (· < x) := (List.takeWhile_append_dropWhile).symm
    conv => rhs; rw [e]
    simp only [List.mem_append, List.mem_cons]
    grind
theorem putZ_len {l : List Int} {x : Int} : (putZ l x).length ≤ l.length + 1 := by
  unfold putZ
  split
  · omega
  · have e : l = l.takeWhile (· < x) ++ l.dropWhile (· < x) := (List.takeWhile_append_dropWhile).symm
    have h2 : l.length = (l.takeWhile (· < x)).length + (l.dropWhile (· < x)).length := by rw [← List.length_append, ← e]
    rw [List.length_append, List.length_cons]
    omega
/-- The told numbers: those of all but the host. -/
def toldL (n : Nat) (f : Nat → Nat → Bool) : List Int := (degs n f).drop 1
theorem told_ok (n : Nat) (ps : List (Int × Int)) (hg : GoodP n ps) (hn1 : 1 ≤ n) (hl : ps.length < 2 ^ 31) : ACall Try.prog w0 49 [partyT n ps] H fun v H' => Ext H H' ∧ OwnV H.n H' v (n - 1) 1 (ints (sortedZ (toldL n (fr ps)))) := by
  have hn := hg.1
  refine ACall.enterW mix Try.func49 (by kernel_rfl) fun hw => ?_
  simp (disch := first | omega | (simp only [n_alloc, n_put, n_kill, n_allocT, n_tabH, n_less]; omega) | (simp; done) | fail) [Try.f49]
  refine box_f rfl ?_
  simp (disch := first | omega | (simp only [n_alloc, n_put, n_kill, n_allocT, n_tabH, n_less]; omega) | (simp; done) | fail)
  refine run_pure (tableT_ok n ps hg hl) fun v hv => ?_
  subst hv
  simp (disch := first | omega | (simp only [n_alloc, n_put, n_kill, n_allocT, n_tabH, n_less]; omega) | (simp; done) | fail)
  refine run_pure (numbers_ok n (fr ps) (by omega)) fun v hv => ?_
  subst hv
  simp (disch := first | omega | (simp only [n_alloc, n_put, n_kill, n_allocT, n_tabH, n_less]; omega) | (simp; done) | fail)
  have e : AV.lst none (n - 1) 1 (List.take (n - 1) (ints (degs n (fr ps))).tail) = intsT (toldL n (fr ps)) := by
    rw [← List.drop_one, ints_drop, ints_take]
    simp only [toldL, intsT, List.length_drop, degs_length]
    congr 2
    rw [List.take_of_length_le (by simp)]
  rw [e]
  refine call_of (values_ok _ rfl rfl) fun v H1 hw1 ⟨hv, he1⟩ => ?_
  subst hv he1
  simp (disch := first | omega | (simp only [n_alloc, n_put, n_kill, n_allocT, n_tabH, n_less]; omega) | (simp; done) | fail)
  refine call_of (sorted_ok (toldL n (fr ps)) (by simp [toldL]; omega)) fun v H1 hw1 ⟨he1, hO⟩ => ?_
  simp (disch := first | omega | (simp only [n_alloc, n_put, n_kill, n_allocT, n_tabH, n_less]; omega) | (simp; done) | fail)
  refine ⟨he1, ?_⟩
  have : (toldL n (fr ps)).length = n - 1 := by simp [toldL]
  rw [this] at hO
  exact hO
end Go.Proofs.Ythkmbfifiojmhaa
