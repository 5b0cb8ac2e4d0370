/- Small functions, and whether something is a party. -/
import Derived.Test.YthkmbfifiojmhaaFacts
import Derived.Test.YthkmbfifiojmhaaAbs3
set_option linter.unusedSimpArgs false
set_option linter.unusedVariables false
set_option maxRecDepth 100000
namespace Go.Proofs.Ythkmbfifiojmhaa
open Go.Abs
variable {w0 : World} {H : Heap}
/-- Numbers, pairs, a party as trees. -/
def intsT (l : List Int) : AV := .lst none l.length 1 (ints l)
def pairsT (l : List (Int × Int)) : AV := .lst none l.length 2 (pairs l)
def partyT (n : Int) (ps : List (Int × Int)) : AV := .agg [.int .i64 n, pairsT ps]
def boolsT (l : List Bool) : AV := .lst none l.length 1 (bools l)
attribute [simp] intsT pairsT partyT boolsT
theorem within_ok (n lo hi : Int) : PCall Try.prog 55 [.int .i64 n, .int .i64 lo, .int .i64 hi] (IsB (lo ≤ n ∧ n ≤ hi)) := by
  refine PCall.run mix Try.func55 (by kernel_rfl) fun w0 H hw => ?_
  simp (disch := first | omega | (simp only [n_alloc, n_put, n_kill, n_allocT, n_tabH, n_less]; omega) | (simp; done) | fail) [Try.f55]
  refine gP (fun h => ?_) fun h => ?_
  · simp (disch := first | omega | (simp only [n_alloc, n_put, n_kill, n_allocT, n_tabH, n_less]; omega) | (simp; done) | fail) [h]
    exact Done.iff (Ext.refl _) (by simp [h])
  · simp (disch := first | omega | (simp only [n_alloc, n_put, n_kill, n_allocT, n_tabH, n_less]; omega) | (simp; done) | fail) [h]
    exact Done.iff (Ext.refl _) (by simp [h])
theorem areCrowd_ok (n : Int) : PCall Try.prog 74 [.int .i64 n] (IsB (0 ≤ n ∧ n ≤ 12)) := by
  refine PCall.run mix Try.func74 (by kernel_rfl) fun w0 H hw => ?_
  simp (disch := first | omega | (simp only [n_alloc, n_put, n_kill, n_allocT, n_tabH, n_less]; omega) | (simp; done) | fail) [Try.f74]
  refine run_pureB (within_ok _ _ _) fun b hb => ?_
  simp (disch := first | omega | (simp only [n_alloc, n_put, n_kill, n_allocT, n_tabH, n_less]; omega) | (simp; done) | fail)
  exact Done.iff (Ext.refl _) hb
theorem bit_ok (b : Bool) : PCall Try.prog 86 [.bool b] fun v => v = .int .i64 (if b then 1 else 0) := by
  refine PCall.run mix Try.func86 (by kernel_rfl) fun w0 H hw => ?_
  simp (disch := first | omega | (simp only [n_alloc, n_put, n_kill, n_allocT, n_tabH, n_less]; omega) | (simp; done) | fail) [Try.f86]
  refine cB (fun h => ?_) fun h => ?_
  · simp (disch := first | omega | (simp only [n_alloc, n_put, n_kill, n_allocT, n_tabH, n_less]; omega) | (simp; done) | fail) [h]
    exact Done.flat (Ext.refl _) rfl (by simp [h])
  · simp (disch := first | omega | (simp only [n_alloc, n_put, n_kill, n_allocT, n_tabH, n_less]; omega) | (simp; done) | fail) [h]
    exact Done.flat (Ext.refl _) rfl (by simp [h])
theorem l1In_ok (n lo hi : Int) : PCall Try.prog 58 [.int .i64 n, .int .i64 lo, .int .i64 hi] (IsB (lo ≤ n ∧ n ≤ hi)) := by
  refine PCall.run mix Try.func58 (by kernel_rfl) fun w0 H hw => ?_
  simp (disch := first | omega | (simp only [n_alloc, n_put, n_kill, n_allocT, n_tabH, n_less]; omega) | (simp; done) | fail) [Try.f58]
  refine gP (fun h => ?_) fun h => ?_
  · simp (disch := first | omega | (simp only [n_alloc, n_put, n_kill, n_allocT, n_tabH, n_less]; omega) | (simp; done) | fail) [h]
    exact Done.iff (Ext.refl _) (by simp [h])
  · simp (disch := first | omega | (simp only [n_alloc, n_put, n_kill, n_allocT, n_tabH, n_less]; omega) | (simp; done) | fail) [h]
    exact Done.iff (Ext.refl _) (by simp [h])
theorem paPeople_ok (n : Int) : PCall Try.prog 81 [.int .i64 n] (IsB (0 ≤ n ∧ n ≤ 12)) := by
  refine PCall.run mix Try.func81 (by kernel_rfl) fun w0 H hw => ?_
  simp (disch := first | omega | (simp only [n_alloc, n_put, n_kill, n_allocT, n_tabH, n_less]; omega) | (simp; done) | fail) [Try.f81]
  refine run_pureB (l1In_ok _ _ _) fun b hb => ?_
  simp (disch := first | omega | (simp only [n_alloc, n_put, n_kill, n_allocT, n_tabH, n_less]; omega) | (simp; done) | fail)
  exact Done.iff (Ext.refl _) hb
theorem l1Has_ok (l : List Int) (n : Int) (hl : l.length < 2 ^ 31) : PCall Try.prog 77 [intsT l, .int .i64 n] (IsB (n ∈ l)) := by
  refine PCall.run mix Try.func77 (by kernel_rfl) fun w0 H hw => ?_
  simp (disch := first | omega | (simp only [n_alloc, n_put, n_kill, n_allocT, n_tabH, n_less]; omega) | (simp; done) | fail) [Try.f77, intsT]
  refine run_for l.length (fun i E H' => H' = H ∧ E 1 = .int .i64 n ∧ E 7 = intsT l ∧ E 8 = .int .i64 l.length ∧ E 9 = .int .i64 i ∧ n ∉ l.take i) 0 (Nat.zero_le _) ?_ ?_
  · simp (disch := first | omega | (simp only [n_alloc, n_put, n_kill, n_allocT, n_tabH, n_less]; omega) | (simp; done) | fail) [intsT]
  rintro i E H' hw' hi ⟨rfl, h1, h7, h8, h9, hc⟩
  simp (disch := first | omega | (simp only [n_alloc, n_put, n_kill, n_allocT, n_tabH, n_less]; omega) | (simp; done) | fail) [h1, h7, h8, h9, intsT]
  refine cP (fun h => ?_) fun h => ?_
  · simp (disch := first | omega | (simp only [n_alloc, n_put, n_kill, n_allocT, n_tabH, n_less]; omega) | (simp; done) | fail) [h1, h7, h8, h9, intsT, h]
    refine cP (fun h' => ?_) fun h' => ?_
    · simp (disch := first | omega | (simp only [n_alloc, n_put, n_kill, n_allocT, n_tabH, n_less]; omega) | (simp; done) | fail)
      exact Done.yes (Ext.refl _) (by simp [← h'])
    · simp (disch := first | omega | (simp only [n_alloc, n_put, n_kill, n_allocT, n_tabH, n_less]; omega) | (simp; done) | fail) [h1, h7, h8, h9, intsT]
      intro hm
      rw [List.take_succ_eq_append_getElem h] at hm
      rcases List.mem_append.1 hm with hm | hm
      · exact hc hm
      · simp at hm; exact h' hm.symm
  · simp (disch := first | omega | (simp only [n_alloc, n_put, n_kill, n_allocT, n_tabH, n_less]; omega) | (simp; done) | fail)
    have : i = l.length := by omega
    subst this
    exact Done.no (Ext.refl _) (by simpa using hc)
theorem l1All_ok (l : List Int) (lo up : Int) (hl : l.length < 2 ^ 31) : PCall Try.prog 83 [intsT l, .int .i64 lo, .int .i64 up] (IsB (∀ x ∈ l, lo ≤ x ∧ x ≤ up)) := by
  refine PCall.run mix Try.func83 (by kernel_rfl) fun w0 H hw => ?_
  simp (disch := first | omega | (simp only [n_alloc, n_put, n_kill, n_allocT, n_tabH, n_less]; omega) | (simp; done) | fail) [Try.f83, intsT]
  refine run_for l.length (fun i E H' => H' = H ∧ E 1 = .int .i64 lo ∧ E 2 = .int .i64 up ∧ E 9 = intsT l ∧ E 10 = .int .i64 l.length ∧ E 11 = .int .i64 i ∧ ∀ x ∈ l.take i, lo ≤ x ∧ x ≤ up) 0 (Nat.zero_le _) ?_ ?_
  · simp (disch := first | omega | (simp only [n_alloc, n_put, n_kill, n_allocT, n_tabH, n_less]; omega) | (simp; done) | fail) [intsT]
  rintro i E H' hw' hi ⟨rfl, h1, h2, h7, h8, h9, hc⟩
  simp (disch := first | omega | (simp only [n_alloc, n_put, n_kill, n_allocT, n_tabH, n_less]; omega) | (simp; done) | fail) [h1, h2, h7, h8, h9, intsT]
  refine cP (fun h => ?_) fun h => ?_
  · simp (disch := first | omega | (simp only [n_alloc, n_put, n_kill, n_allocT, n_tabH, n_less]; omega) | (simp; done) | fail) [h1, h2, h7, h8, h9, intsT, h]
    refine run_pureB (l1In_ok _ _ _) fun b hb => ?_
    simp (disch := first | omega | (simp only [n_alloc, n_put, n_kill, n_allocT, n_tabH, n_less]; omega) | (simp; done) | fail) [h1, h2, h7, h8, h9, intsT, h]
    refine cNB (fun h' => ?_) fun h' => ?_
    · simp (disch := first | omega | (simp only [n_alloc, n_put, n_kill, n_allocT, n_tabH, n_less]; omega) | (simp; done) | fail)
      exact Done.no (Ext.refl _) fun q => by have := hb.2 (q _ (List.getElem_mem h)); simp_all
    · simp (disch := first | omega | (simp only [n_alloc, n_put, n_kill, n_allocT, n_tabH, n_less]; omega) | (simp; done) | fail) [h1, h2, h7, h8, h9, intsT]
      intro x hx
      rw [List.take_succ_eq_append_getElem h] at hx
      rcases List.mem_append.1 hx with hx | hx
      · exact hc x hx
      · simp at hx; subst hx; exact hb.1 h'
  · simp (disch := first | omega | (simp only [n_alloc, n_put, n_kill, n_allocT, n_tabH, n_less]; omega) | (simp; done) | fail)
    have : i = l.length := by omega
    subst this
    exact Done.yes (Ext.refl _) (by simpa using hc)
theorem l1Own_ok (l : List Int) (hl : l.length < 2 ^ 31) : PCall Try.prog 32 [intsT l] fun v => v = intsT l := by
  refine PCall.run mix Try.func32 (by kernel_rfl) fun w0 H hw => ?_
  simp (disch := first | omega | (simp only [n_alloc, n_put, n_kill, n_allocT, n_tabH, n_less]; omega) | (simp; done) | fail) [Try.f32, intsT]
  refine build_tok ?_
  simp (disch := first | omega | (simp only [n_alloc, n_put, n_kill, n_allocT, n_tabH, n_less]; omega) | (simp; done) | fail) [buildT]
  refine append_tl (cs := []) (len := 0) (sz := 1) (n := l.length) (new := ints l) (n0 := H.n) (Tl.new rfl (by omega)) (wf_allocT hw) (by (first | omega | (simp only [n_alloc, n_put, n_kill, n_allocT, n_tabH, n_less]; omega))) (by simp (disch := first | omega | (simp only [n_alloc, n_put, n_kill, n_allocT, n_tabH, n_less]; omega) | (simp; done) | fail); omega) (by simp (disch := first | omega | (simp only [n_alloc, n_put, n_kill, n_allocT, n_tabH, n_less]; omega) | (simp; done) | fail)) (by omega) (by simp (disch := first | omega | (simp only [n_alloc, n_put, n_kill, n_allocT, n_tabH, n_less]; omega) | (simp; done) | fail)) (by simp (disch := first | omega | (simp only [n_alloc, n_put, n_kill, n_allocT, n_tabH, n_less]; omega) | (simp; done) | fail)) (ints_one _) (by omega) fun v' H' hw' hT hk _ => ?_
  simp (disch := first | omega | (simp only [n_alloc, n_put, n_kill, n_allocT, n_tabH, n_less]; omega) | (simp; done) | fail)
  refine Done.tl hw ((Tl.new (n0 := H.n) (len := 0) (sz := 1) (cs := []) (by simp) (by omega)).ext hk (by simp (disch := first | omega | (simp only [n_alloc, n_put, n_kill, n_allocT, n_tabH, n_less]; omega) | (simp; done) | fail)) (by omega)) hT (flats_ints _) (by simp [intsT])
end Go.Proofs.Ythkmbfifiojmhaa
