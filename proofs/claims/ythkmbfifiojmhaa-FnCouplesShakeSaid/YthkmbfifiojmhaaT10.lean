/- Sorted copies; lists made compact. -/
import Derived.Test.YthkmbfifiojmhaaT9
import Derived.Test.YthkmbfifiojmhaaV1
import Derived.Test.YthkmbfifiojmhaaShelf
set_option linter.unusedSimpArgs false
set_option linter.unusedVariables false
set_option maxRecDepth 100000
namespace Go.Proofs.Ythkmbfifiojmhaa
open Go.Abs
variable {w0 : World} {H : Heap}
theorem appendSeq_ok (a : List Int) (hl : a.length < 2 ^ 31) :
    ACall Try.prog w0 94 [.slice none 0 0 1 (some 0), .func (.func 92) [] [.fptr [intsT a]]] H fun v H' => Ext H H' ∧ OwnV H.n H' v a.length 1 (ints a) := by
  intro σ w args' hS ha
  obtain ⟨x0, e0, r0⟩ := ha.get (i := 0) rfl
  obtain ⟨x1, e1, r1⟩ := ha.get (i := 1) rfl
  have hargs : args' = #[x0, x1] := by
    have hl := ha.length
    cases args' with
    | mk L => match L, hl with
      | [x, y], _ => simp at e0 e1; subst e0 e1; rfl
  subst hargs
  simp only [VR] at r0 r1
  obtain ⟨_, _, rfl⟩ := r0
  obtain ⟨fs, cs, rfl, hfs, hcs⟩ := r1
  have hfs' : fs = #[] := by
    cases fs with
    | mk L => cases L with
      | nil => rfl
      | cons _ _ => simp only [VRs] at hfs
  subst hfs'
  obtain ⟨pt, hp0, hpr⟩ := hcs.get (i := 0) rfl
  have hcs' : cs = #[pt] := by
    have hl := hcs.length
    cases cs with
    | mk L => match L, hl with
      | [x], _ => simp at hp0; subst hp0; rfl
  subst hcs'
  simp only [VR] at hpr
  obtain ⟨g, k, vs, rfl, hvs, hfr⟩ := hpr
  obtain ⟨sv, hvs0, hsr⟩ := hvs.get (i := 0) rfl
  have hsv := hfr.cell hS hvs0
  rw [Addr.add_lit] at hsv
  obtain ⟨_, _, _, he0, _, hf0⟩ := hfr 0 sv hvs0
  cases he0
  have hgl := (hS.fz _ _ _ hf0).lt
  have hI : HoldsZ w.heap.size w sv a := by
    simp only [intsT, VR] at hsr
    obtain ⟨ad, c, us, rfl, h1, h2, h3, h4, _⟩ := hsr
    have hul := h3.length
    rcases Nat.eq_zero_or_pos a.length with h0 | h0
    · have : a = [] := List.eq_nil_of_length_eq_zero h0
      subst this
      exact .inl ⟨_, _, rfl, rfl⟩
    · rw [ints_length] at hul
      obtain ⟨g', o', _, he1, _, hf1⟩ := h4 0 (us[0]'(by omega)) (List.getElem?_eq_getElem (by omega))
      subst he1
      refine .inr ⟨g', o', c, rfl, (hS.fz _ _ _ hf1).lt, fun j hj => ?_⟩
      obtain ⟨v, hv, hvr⟩ := h3.get (i := j) (ints_get hj)
      simp only [VR] at hvr
      subst hvr
      have := h4.cell hS hv
      rw [Addr.add_lit] at this
      simpa [hj] using this
  have hc := callsIn_wide.1 (appendSeq_in Fence.wide 3 trivial trivial rfl (Nat.le_refl _) g (k + 0) w.heap.size sv a (by omega) w hgl (Nat.le_refl _) hsv hI)
  refine hc.mono ?_
  rintro e' w' ⟨v, rfl, hown, _, hbel⟩
  obtain ⟨σ', H', av, h1, h2, h3, h4, h5⟩ := hS.owned hbel hown (Nat.le_refl _)
  exact ⟨σ', av, v, H', rfl, h1, h2, h3, h4, h5⟩
theorem values_ok (a : AV) (ha : a.cells = [a]) (h1 : a.one = true) : ACall Try.prog w0 79 [a] H fun v H' => v = .func (.func 92) [] [.fptr [a]] ∧ H' = H := by
  refine ACall.enterW mix Try.func79 (by kernel_rfl) fun hw => ?_
  simp (disch := first | omega | (simp only [n_alloc, n_put, n_kill, n_allocT, n_tabH, n_less]; omega) | (simp; done) | fail) [Try.f79]
  refine box_f (by simp [ha, h1]) ?_
  simp (disch := first | omega | (simp only [n_alloc, n_put, n_kill, n_allocT, n_tabH, n_less]; omega) | (simp; done) | fail) [ha]
theorem collect_ok (a : List Int) (hl : a.length < 2 ^ 31) :
    ACall Try.prog w0 90 [.func (.func 92) [] [.fptr [intsT a]]] H fun v H' => Ext H H' ∧ OwnV H.n H' v a.length 1 (ints a) := by
  refine ACall.enterW mix Try.func90 (by kernel_rfl) fun hw => ?_
  simp (disch := first | omega | (simp only [n_alloc, n_put, n_kill, n_allocT, n_tabH, n_less]; omega) | (simp; done) | fail) [Try.f90]
  refine call_of (appendSeq_ok a hl) fun v H1 hw1 ⟨he, hO⟩ => ?_
  simp (disch := first | omega | (simp only [n_alloc, n_put, n_kill, n_allocT, n_tabH, n_less]; omega) | (simp; done) | fail)
  exact ⟨he, hO⟩
def sortedZ (a : List Int) : List Int := a.mergeSort fun x y => decide (x ≤ y)
theorem sortedZ_length (a : List Int) : (sortedZ a).length = a.length := List.length_mergeSort _
theorem sorted_ok (a : List Int) (hl : a.length < 2 ^ 31) :
    ACall Try.prog w0 78 [.func (.func 92) [] [.fptr [intsT a]]] H fun v H' => Ext H H' ∧ OwnV H.n H' v a.length 1 (ints (sortedZ a)) := by
  refine ACall.enterW mix Try.func78 (by kernel_rfl) fun hw => ?_
  simp (disch := first | omega | (simp only [n_alloc, n_put, n_kill, n_allocT, n_tabH, n_less]; omega) | (simp; done) | fail) [Try.f78]
  refine call_of (collect_ok a hl) fun v H1 hw1 ⟨he, b1, off1, cap1, hv, hO⟩ => ?_
  subst hv
  simp (disch := first | omega | (simp only [n_alloc, n_put, n_kill, n_allocT, n_tabH, n_less]; omega) | (simp; done) | fail)
  refine call_of (sort_call a (by omega) Go.Proofs.Try.slices_Sort_int Go.Proofs.Try.slices_Sort_int_none hO) fun v H2 hw2 ⟨hk2, hn2, hO2⟩ => ?_
  simp (disch := first | omega | (simp only [n_alloc, n_put, n_kill, n_allocT, n_tabH, n_less]; omega) | (simp; done) | fail)
  exact ⟨hk2.ext he hO.base, hO2.v⟩
/-- An own row of whole numbers as a tree. -/
theorem own_fz {n0 len : Nat} {H0 H' : Heap} {v : AV} {l : List Int} (hs : Sub H0 H') (hn : ∀ b, n0 ≤ b → H0.get b = none) (hO : OwnV n0 H' v len 1 (ints l)) : Fz H' H0 v (.lst none len 1 (ints l)) := by
  obtain ⟨b, off, cap, rfl, hO⟩ := hO
  rcases hO.row with ⟨rfl, e1, e2⟩ | ⟨b', cs', rfl, h2, h3, h4, h5, h6, h7⟩
  · have hl : l = [] := by have := hO.hlen; simp [e1] at this; exact this
    subst hl e1
    exact Fz.nil
  · refine Fz.row hs (hn _ h2) h4 h5 ?_
    rw [h6]
    exact FzL.flat (flats_ints _)
end Go.Proofs.Ythkmbfifiojmhaa
