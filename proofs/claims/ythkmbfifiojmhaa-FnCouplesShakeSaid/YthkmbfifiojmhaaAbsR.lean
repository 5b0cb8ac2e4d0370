/- Rows as lists, and how the memory goes on. -/
import Derived.Test.YthkmbfifiojmhaaAbsQ
set_option linter.unusedSimpArgs false
set_option linter.unusedVariables false
namespace Go.Abs
open Go.RowKit

/-- Nothing that was there has turned. -/
def Ext (H H' : Heap) : Prop := H.n ≤ H'.n ∧ ∀ b, b < H.n → H'.get b = H.get b
/-- So many cells of a row, or of none. -/
def Row (H : Heap) (b : Option Nat) (off : Nat) (cs : List AV) : Prop := rowA H b off cs.length = some cs
/-- A slice with these cells. -/
def Sli (H : Heap) (v : AV) (sz : Nat) (cs : List AV) : Prop := ∃ b off len cap, v = .slice b off len sz cap ∧ cs.length = len * sz ∧ Row H b off cs
def ints (l : List Int) : List AV := l.map (AV.int .i64)
def pairs (l : List (Int × Int)) : List AV := l.flatMap fun p => [AV.int .i64 p.1, AV.int .i64 p.2]
def bools (l : List Bool) : List AV := l.map AV.bool

section
variable {P : Program} {w0 : World} {H H' H'' : Heap} {E : Env} {K : AV → Heap → Prop} {b : Option Nat} {off : Nat} {cs : List AV}
theorem Ext.refl (H : Heap) : Ext H H := ⟨Nat.le_refl _, fun _ _ => rfl⟩
theorem Ext.trans (h : Ext H H') (h' : Ext H' H'') : Ext H H'' := ⟨Nat.le_trans h.1 h'.1, fun b hb => (h'.2 b (Nat.lt_of_lt_of_le hb h.1)).trans (h.2 b hb)⟩
theorem Ext.alloc (h : Ext H H') (cs : List AV) : Ext H (H'.alloc cs) := ⟨by have := h.1; simp; omega, fun b hb => by have := h.1; rw [get_alloc_old (by omega)]; exact h.2 b hb⟩
theorem Ext.put (h : Ext H H') {b : Nat} (hb : H.n ≤ b) (cs : List AV) : Ext H (H'.put b cs) := ⟨h.1, fun c hc => by rw [get_put_old (by omega)]; exact h.2 c hc⟩
theorem Ext.kill (h : Ext H H') {b : Nat} (hb : H.n ≤ b) : Ext H (H'.kill b) := ⟨h.1, fun c hc => by rw [get_kill_old (by omega)]; exact h.2 c hc⟩
theorem row_iff : Row H b off cs ↔ cs = [] ∨ ∃ b' cs' wr, b = some b' ∧ H.get b' = some (.cells cs' wr) ∧ off + cs.length ≤ cs'.length ∧ (cs'.drop off).take cs.length = cs := by
  unfold Row rowA
  constructor
  · intro h
    split at h
    · rename_i h0; left; simpa using h0
    · right
      split at h
      · rename_i b
        split at h
        · rename_i cs' wr hg
          split at h
          · rename_i hle; exact ⟨b, cs', wr, rfl, hg, hle, by simpa using h⟩
          · cases h
        · cases h
      · cases h
  · rintro (rfl | ⟨b', cs', wr, rfl, hg, hle, hc⟩)
    · simp
    · split
      · rename_i h0; simp at h0; rw [h0]
      · simp [hg, hle, hc]
theorem Row.nil : Row H b off [] := row_iff.2 (.inl rfl)
theorem Row.ext (h : Row H b off cs) (hw : H.wf) (he : Ext H H') : Row H' b off cs := by
  rcases row_iff.1 h with rfl | ⟨b', cs', wr, rfl, hg, hle, hc⟩
  · exact .nil
  · exact row_iff.2 (.inr ⟨b', cs', wr, rfl, by rw [he.2 _ (hw _ _ hg)]; exact hg, hle, hc⟩)
theorem Sli.ext {v : AV} {sz : Nat} (h : Sli H v sz cs) (hw : H.wf) (he : Ext H H') : Sli H' v sz cs := by
  obtain ⟨b, off, len, cap, rfl, h1, h2⟩ := h
  exact ⟨b, off, len, cap, rfl, h1, h2.ext hw he⟩
theorem Row.load (h : Row H b off cs) {t : TypeId} {k : Nat} {ag : Bool} {s : Nat} (hl : P.lk t = some (ag, s)) (hk : k + s ≤ cs.length) (hs : 0 < s) : loadA P H t (.ptr b (off + k)) = partA ag s cs k := by
  rcases row_iff.1 h with rfl | ⟨b', cs', wr, rfl, hg, hle, hc⟩
  · simp at hk; omega
  · rw [load_get hl hg]
    cases ag with
    | false =>
      rw [part_one, part_one, ← hc, List.getElem?_take, if_pos (by omega), List.getElem?_drop]
    | true =>
      rw [part_agg (by omega), part_agg (by omega)]
      congr 2
      conv => rhs; rw [← hc]
      rw [List.drop_take, List.take_take, List.drop_drop]
      congr 1
      omega
theorem Row.one (h : Row H b off cs) {t : TypeId} {k : Nat} (hl : P.lk t = some (false, 1)) (hk : k < cs.length) : loadA P H t (.ptr b (off + k)) = some cs[k] := by
  rw [h.load hl (by omega) (by omega), part_one, List.getElem?_eq_getElem hk]
theorem Row.int {l : List Int} (h : Row H b off (ints l)) {t : TypeId} {k : Nat} (hl : P.lk t = some (false, 1)) (hk : k < l.length) : loadA P H t (.ptr b (off + k)) = some (.int .i64 l[k]) := by
  rw [h.one hl (by simpa [ints] using hk)]; simp [ints]
theorem Row.bool {l : List Bool} (h : Row H b off (bools l)) {t : TypeId} {k : Nat} (hl : P.lk t = some (false, 1)) (hk : k < l.length) : loadA P H t (.ptr b (off + k)) = some (.bool l[k]) := by
  rw [h.one hl (by simpa [bools] using hk)]; simp [bools]
theorem pairs_length (l : List (Int × Int)) : (pairs l).length = 2 * l.length := by
  induction l with
  | nil => rfl
  | cons p l ih => simp only [pairs, List.flatMap_cons, List.length_append, List.length_cons, List.length_nil] at ih ⊢; omega
theorem pairs_fst : ∀ (l : List (Int × Int)) (k : Nat) (h : k < l.length), (pairs l)[2 * k]? = some (.int .i64 l[k].1)
  | p :: l, 0, _ => rfl
  | p :: l, k + 1, h => by
    have := pairs_fst l k (by simpa using h)
    show (_ :: _ :: pairs l)[2 * k + 2]? = _
    simpa using this
theorem pairs_snd : ∀ (l : List (Int × Int)) (k : Nat) (h : k < l.length), (pairs l)[2 * k + 1]? = some (.int .i64 l[k].2)
  | p :: l, 0, _ => rfl
  | p :: l, k + 1, h => by
    have := pairs_snd l k (by simpa using h)
    show (_ :: _ :: pairs l)[2 * k + 1 + 2]? = _
    simpa using this
theorem Row.pair {l : List (Int × Int)} (h : Row H b off (pairs l)) {t : TypeId} {k : Nat} (hl : P.lk t = some (true, 2)) (hk : k < l.length) : loadA P H t (.ptr b (off + k * 2)) = some (.agg [.int .i64 l[k].1, .int .i64 l[k].2]) := by
  have hp := pairs_length l
  rw [h.load hl (by omega) (by omega), part_agg (by omega)]
  congr 2
  apply List.ext_getElem?
  intro i
  rw [List.getElem?_take, List.getElem?_drop]
  match i with
  | 0 => simp [Nat.mul_comm k 2, pairs_fst l k hk]
  | 1 => simp [Nat.mul_comm k 2, pairs_snd l k hk]
  | i + 2 => rw [if_neg (by omega)]; simp
theorem Row.fst {l : List (Int × Int)} (h : Row H b off (pairs l)) {t : TypeId} {k : Nat} (hl : P.lk t = some (false, 1)) (hk : k < l.length) : loadA P H t (.ptr b (off + k * 2)) = some (.int .i64 l[k].1) := by
  have hp := pairs_length l
  rw [h.load hl (by omega) (by omega), part_one, Nat.mul_comm, pairs_fst l k hk]
theorem Row.snd {l : List (Int × Int)} (h : Row H b off (pairs l)) {t : TypeId} {k : Nat} (hl : P.lk t = some (false, 1)) (hk : k < l.length) : loadA P H t (.ptr b (off + k * 2 + 1)) = some (.int .i64 l[k].2) := by
  have hp := pairs_length l
  rw [Nat.add_assoc, h.load hl (by omega) (by omega), part_one, Nat.mul_comm, pairs_snd l k hk]
theorem ints_length (l : List Int) : (ints l).length = l.length := by simp [ints]
theorem bools_length (l : List Bool) : (bools l).length = l.length := by simp [bools]
end
attribute [simp] ints_length bools_length pairs_length wrap64

/-- May the function be entered with so many arguments? -/
def fnOk (fn : Func) (n : Nat) : Bool := match fn.body with | some c => codeOk fn.ntmps c && decide (n ≤ fn.ntmps) | none => false
def fnEnd (P : Program) (rs : List ResultVar) (K : AV → Heap → Prop) (e : Exit) (E : Env) (H : Heap) : Prop := (e = .ret ∨ e = .normal) ∧ ∃ v, resA P rs E H = some v ∧ K v H
theorem ACall.enter {P : Program} {w0 : World} {f : FuncId} {fn : Func} {args : List AV} {H : Heap} {K : AV → Heap → Prop} (hmix : P.follows .mixedOrders = true) (hf : P.funcs[f]? = some fn) (hok : fnOk fn args.length = true)
    (h : Run (wpC P w0 (fn.body.getD .skip) (fnEnd P fn.results.toList K) (argsEnv args) H)) : ACall P w0 f args H K := by
  unfold fnOk at hok
  split at hok
  · rename_i c hb
    simp only [Bool.and_eq_true, decide_eq_true_eq] at hok
    rw [hb] at h
    exact ACall.of_wp hmix hf hb hok.1 hok.2 h
  · cases hok
section
variable {P : Program} {rs : List ResultVar} {K : AV → Heap → Prop} {E : Env} {H : Heap} {Q : Exit → Env → Heap → Prop}
theorem end_ret : Run (fnEnd P rs K .ret E H) = ∃ v, resA P rs E H = some v ∧ K v H := by simp [Run, fnEnd]
theorem end_normal : Run (fnEnd P rs K .normal E H) = ∃ v, resA P rs E H = some v ∧ K v H := by simp [Run, fnEnd]
theorem resA_tmp {t : Nat} : resA P [.tmp t] E H = some (E t) := by simp [resA, resOne]
theorem resA_nil : resA P [] E H = some (.tuple []) := by simp [resA]
theorem resA_two {t u : Nat} : resA P [.tmp t, .tmp u] E H = some (.tuple [E t, E u]) := by simp [resA, resOne]
theorem resA_three {t u x : Nat} : resA P [.tmp t, .tmp u, .tmp x] E H = some (.tuple [E t, E u, E x]) := by simp [resA, resOne]
theorem resA_cell {c : Nat} {t : TypeId} {v : AV} (h : loadA P H t (E c) = some v) : resA P [.cell c t] E H = some v := by simp [resA, resOne, h]
theorem args_at {args : List AV} {t : Nat} : argsEnv args t = args.getD t .undef := rfl
end
attribute [simp] end_ret end_normal resA_tmp resA_nil resA_two resA_three args_at
end Go.Abs
