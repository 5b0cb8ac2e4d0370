/- Sorted copies. -/
import Derived.Test.YthkmbfifiojmhaaC10
import Derived.Test.YthkmbfifiojmhaaV1
import Derived.Test.YthkmbfifiojmhaaShelf
import Derived.Test.YthkmbfifiojmhaaAbsW
set_option linter.unusedSimpArgs false
set_option linter.unusedVariables false
set_option maxRecDepth 100000
namespace Go.Proofs.Ythkmbfifiojmhaa
open Go.Abs
variable {w0 : World} {H : Heap}
theorem appendSeq_ok (a : List Int) (bs : Nat) (b : Option Nat) (off : Nat) (cap : Option Nat) (wr : Bool) (hl : a.length < 2 ^ 31) (hbox : H.get bs = some (.cells [.slice b off a.length 1 cap] wr)) (hrow : Row H b off (ints a)) :
    ACall Try.prog w0 94 [.slice none 0 0 1 (some 0), .func (.func 92) [] [.ptr (some bs) 0]] H fun v H' => Ext H H' ∧ OwnV H.n H' v a.length 1 (ints a) := by
  intro σ w args' hS ha
  obtain ⟨x0, e0, r0⟩ := ha.get (i := 0) rfl
  obtain ⟨x1, e1, r1⟩ := ha.get (i := 1) rfl
  have hargs : args' = #[x0, x1] := by
    have hl := ha.length
    cases args' with
    | mk L => match L, hl with
      | [x, y], _ => simp at e0 e1; subst e0 e1; rfl
  subst hargs
  simp only [VR] at r0 r1
  obtain ⟨_, _, rfl⟩ := r0
  obtain ⟨fs, cs, rfl, hfs, hcs⟩ := r1
  have hfs' : fs = #[] := by
    cases fs with
    | mk L => cases L with
      | nil => rfl
      | cons _ _ => simp only [VRs] at hfs
  subst hfs'
  obtain ⟨pt, hp0, hpr⟩ := hcs.get (i := 0) rfl
  have hcs' : cs = #[pt] := by
    have hl := hcs.length
    cases cs with
    | mk L => match L, hl with
      | [x], _ => simp at hp0; subst hp0; rfl
  subst hcs'
  simp only [VR] at hpr
  obtain ⟨g, k, e, hσ, rfl⟩ := hpr
  obtain ⟨p, hp, hob⟩ := hS.obj bs _ hbox
  rw [hσ] at hp; cases hp
  have hbrow : RowAt σ w0.heap.size w (g, k, e) [.slice b off a.length 1 cap] wr := hob
  obtain ⟨sv, hsv, hsr⟩ := hbrow.cell (i := 0) rfl
  have hgl : g < w.heap.size := hob.lt
  have hI : HoldsZ w.heap.size w sv a := by
    cases b with
    | none =>
      have := hrow.of_none
      have : a = [] := by simpa [ints] using this
      subst this
      simp only [VR] at hsr
      exact .inl ⟨none, 0, hsr.2.2, rfl⟩
    | some b' =>
      simp only [VR] at hsr
      obtain ⟨g', k', e', o, c, hσ', rfl, h1, h2, h3⟩ := hsr
      rcases row_iff.1 hrow with h | ⟨b'', cs', wr', hb, hg, hle, hcs⟩
      · have : a = [] := by simpa [ints] using h
        subst this
        exact .inl ⟨_, _, rfl, rfl⟩
      · cases hb
        obtain ⟨p', hp', hob'⟩ := hS.obj b' _ hg
        rw [hσ'] at hp'; cases hp'
        have hr' : RowAt σ w0.heap.size w (g', k', e') cs' wr' := hob'
        refine .inr ⟨g', o, c, rfl, hob'.lt, fun j hj => ?_⟩
        obtain ⟨rfl, _⟩ := h2 (by omega)
        have hcell : cs'[off + j]? = some (.int .i64 a[j]) := by
          have : (ints a)[j]? = some (.int .i64 a[j]) := by simp [ints, hj]
          rw [← hcs, List.getElem?_take, if_pos (by rw [ints_length]; exact hj), List.getElem?_drop] at this
          exact this
        obtain ⟨v, hv, hvr⟩ := hr'.cell hcell
        simp only [VR] at hvr
        subst hvr
        rw [Nat.add_assoc]
        simpa [hj] using hv
  have hc := callsIn_wide.1 (appendSeq_in Fence.wide 3 trivial trivial rfl (Nat.le_refl _) g (k + 0) w.heap.size sv a (by omega) w hgl (Nat.le_refl _) hsv hI)
  refine hc.mono ?_
  rintro e' w' ⟨v, rfl, hown, _, hbel⟩
  obtain ⟨σ', H', av, h1, h2, h3, h4, h5⟩ := hS.owned hbel hown (Nat.le_refl _)
  exact ⟨σ', av, v, H', rfl, h1, h2, h3, h4, h5⟩
theorem values_ok (b : Option Nat) (off len sz : Nat) (cap : Option Nat) : ACall Try.prog w0 79 [.slice b off len sz cap] H fun v H' => v = .func (.func 92) [] [.ptr (some H.n) 0] ∧ H' = H.alloc [.slice b off len sz cap] := by
  refine ACall.enterW mix Try.func79 (by kernel_rfl) fun hw => ?_
  simp (disch := first | omega | (simp only [n_alloc, n_put, n_kill]; omega) | (simp; done) | fail) [Try.f79]
theorem collect_ok (a : List Int) (bs : Nat) (b : Option Nat) (off : Nat) (cap : Option Nat) (wr : Bool) (hl : a.length < 2 ^ 31) (hbox : H.get bs = some (.cells [.slice b off a.length 1 cap] wr)) (hrow : Row H b off (ints a)) :
    ACall Try.prog w0 90 [.func (.func 92) [] [.ptr (some bs) 0]] H fun v H' => Ext H H' ∧ OwnV H.n H' v a.length 1 (ints a) := by
  refine ACall.enterW mix Try.func90 (by kernel_rfl) fun hw => ?_
  simp (disch := first | omega | (simp only [n_alloc, n_put, n_kill]; omega) | (simp; done) | fail) [Try.f90]
  refine call_of (appendSeq_ok a bs b off cap wr hl hbox hrow) fun v H1 hw1 ⟨he, hO⟩ => ?_
  simp (disch := first | omega | (simp only [n_alloc, n_put, n_kill]; omega) | (simp; done) | fail)
  exact ⟨he, hO⟩
def sortedZ (a : List Int) : List Int := a.mergeSort fun x y => decide (x ≤ y)
theorem sortedZ_length (a : List Int) : (sortedZ a).length = a.length := List.length_mergeSort _
theorem sorted_ok (a : List Int) (bs : Nat) (b : Option Nat) (off : Nat) (cap : Option Nat) (wr : Bool) (hl : a.length < 2 ^ 31) (hbox : H.get bs = some (.cells [.slice b off a.length 1 cap] wr)) (hrow : Row H b off (ints a)) :
    ACall Try.prog w0 78 [.func (.func 92) [] [.ptr (some bs) 0]] H fun v H' => Ext H H' ∧ OwnV H.n H' v a.length 1 (ints (sortedZ a)) := by
  refine ACall.enterW mix Try.func78 (by kernel_rfl) fun hw => ?_
  simp (disch := first | omega | (simp only [n_alloc, n_put, n_kill]; omega) | (simp; done) | fail) [Try.f78]
  refine call_of (collect_ok a bs b off cap wr hl hbox hrow) fun v H1 hw1 ⟨he, b1, off1, cap1, hv, hO⟩ => ?_
  subst hv
  simp (disch := first | omega | (simp only [n_alloc, n_put, n_kill]; omega) | (simp; done) | fail)
  refine call_of (sort_call a (by omega) Go.Proofs.Try.slices_Sort_int Go.Proofs.Try.slices_Sort_int_none hO) fun v H2 hw2 ⟨hk2, hn2, hO2⟩ => ?_
  simp (disch := first | omega | (simp only [n_alloc, n_put, n_kill]; omega) | (simp; done) | fail)
  exact ⟨hk2.ext he hO.base, hO2.v⟩
end Go.Proofs.Ythkmbfifiojmhaa
