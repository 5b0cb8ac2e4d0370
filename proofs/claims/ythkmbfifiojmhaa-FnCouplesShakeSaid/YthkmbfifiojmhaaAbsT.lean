/- Making rows. -/
import Derived.Test.YthkmbfifiojmhaaAbsS
set_option linter.unusedSimpArgs false
set_option linter.unusedVariables false
namespace Go.Abs
open Go.RowKit
section
variable {P : Program} {w0 : World} {H H' H'' H0 : Heap} {K : AV → Heap → Prop} {n0 off len sz : Nat} {b : Option Nat} {cap : Option Nat} {cs : List AV}
def makeC (P : Program) (k : TK) (l c : AV) (H : Heap) (K : AV → Heap → Prop) : Prop :=
  match k, l, c with
  | .slice e s, .int _ n, .int _ m =>
    match P.bz e with
    | some (bytes, z) => 0 ≤ n ∧ n ≤ m ∧ m ≤ 281474976710656 ∧ bytes * m ≤ 281474976710656 ∧ (absV z).cells.length = s ∧ Run (K (.slice (some H.n) 0 n.toNat s (some m.toNat)) (H.alloc (zerosA (absV z).cells (m.toNat * s))))
    | none => False
  | _, _, _ => False
theorem make_row {t : TypeId} {l c : AV} (h : makeC P (P.tk t) l c H K) : makeA P t l c H K := by
  unfold makeC at h
  unfold makeA
  split at h
  · rename_i hk
    rw [hk]
    simp only
    split at h
    · rename_i hz
      rw [hz]
      obtain ⟨h1, h2, h3, h4, h5, h6⟩ := h
      exact ⟨h1, h2, h3, h4, h5, .inl h6⟩
    · exact h.elim
  · exact h.elim
theorem makeC_slice {e : TypeId} {s : Nat} {k k' : IntKind} {n m : Int} : makeC P (.slice e s) (.int k n) (.int k' m) H K = (match P.bz e with
    | some (bytes, z) => 0 ≤ n ∧ n ≤ m ∧ m ≤ 281474976710656 ∧ bytes * m ≤ 281474976710656 ∧ (absV z).cells.length = s ∧ Run (K (.slice (some H.n) 0 n.toNat s (some m.toNat)) (H.alloc (zerosA (absV z).cells (m.toNat * s))))
    | none => False) := nr rfl
theorem zeros_one {x : AV} {n : Nat} : zerosA [x] n = List.replicate n x := by
  unfold zerosA
  apply List.ext_getElem?
  intro i
  simp only [List.getElem?_map, List.length_cons, List.length_nil, Nat.zero_add, Nat.mod_one, List.getElem?_replicate]
  by_cases h : i < n <;> simp [h]
theorem zeros_same {x : AV} {n : Nat} : zerosA [x, x] n = List.replicate n x := by
  unfold zerosA
  apply List.ext_getElem?
  intro i
  simp only [List.getElem?_map, List.length_cons, List.length_nil, List.getElem?_replicate]
  by_cases h : i < n
  · have : i % (0 + 1 + 1) = 0 ∨ i % (0 + 1 + 1) = 1 := by omega
    rcases this with e | e <;> simp [h, e]
  · simp [h]
theorem pairs_zero : ∀ n : Nat, pairs (List.replicate n (0, 0)) = List.replicate (n * 2) (AV.int .i64 0)
  | 0 => rfl
  | n + 1 => by
    have := pairs_zero n
    rw [show (n + 1) * 2 = n * 2 + 1 + 1 by omega, List.replicate_succ, List.replicate_succ, List.replicate_succ, ← this]
    rfl
theorem mark_step (a : List Int) (k : Int) (i : Nat) (h : i < a.length) : (((List.range i).map fun (i : Nat) => k + (i : Int)) ++ a.drop i).set i (k + i) = ((List.range (i + 1)).map fun (i : Nat) => k + (i : Int)) ++ a.drop (i + 1) := by
  rw [List.set_append_right _ _ (by simp)]
  simp only [List.length_map, List.length_range, Nat.sub_self]
  rw [List.drop_eq_getElem_cons h, List.set_cons_zero, List.range_succ]
  simp
def sliceT (k : TK) (x : AV) (lo hi : Option AV) : Option AV :=
  match k, x with
  | .slice _ s, .slice b off len sz cap =>
    match boundA lo 0, boundA hi len with
    | some l, some h => if (s = sz ∨ b = none) ∧ l ≤ h ∧ h ≤ max len (cap.getD 0) then some (.slice b (off + l * s) (h - l) sz (cap.map (· - l))) else none
    | _, _ => none
  | .str, .str s =>
    match boundA lo 0, boundA hi s.length with
    | some l, some h => if l ≤ h ∧ h ≤ s.length then some (.str ((s.drop l).take (h - l))) else none
    | _, _ => none
  | .slice _ s, .lst _ len sz cs =>
    match boundA lo 0, boundA hi len with
    | some l, some h => if s = sz ∧ l ≤ h ∧ h ≤ len then some (.lst none (h - l) sz ((cs.drop (l * sz)).take ((h - l) * sz))) else none
    | _, _ => none
  | _, _ => none
theorem slice_eq {t : TypeId} {x : AV} {lo hi : Option AV} : sliceA P t x lo hi none = sliceT (P.tk t) x lo hi := by
  unfold sliceA sliceT
  split
  · rename_i hk; rw [hk]; simp only
    split <;> simp_all
  · rename_i hk; rw [hk]; simp only
    split <;> simp_all
  · rename_i hk; rw [hk]; simp only
    split <;> simp_all
  · rename_i h1 h3 h2
    split
    · rename_i hk; exact absurd rfl (h1 _ _ _ _ _ _ _ hk)
    · rename_i hk; exact absurd rfl (h2 _ hk)
    · rename_i hk; exact absurd rfl (h3 _ _ _ _ _ _ hk)
    · rfl
theorem sliceT_lst {e : TypeId} {tk : Option Nat} {lo hi : Option AV} {l h : Nat} (h1 : boundA lo 0 = some l) (h2 : boundA hi len = some h) (h3 : l ≤ h) (h4 : h ≤ len) : sliceT (.slice e sz) (.lst tk len sz cs) lo hi = some (.lst none (h - l) sz ((cs.drop (l * sz)).take ((h - l) * sz))) := by
  simp only [sliceT, h1, h2]
  rw [if_pos ⟨by simp, h3, by omega⟩]
theorem sliceT_slice {e : TypeId} {lo hi : Option AV} {l h : Nat} (h1 : boundA lo 0 = some l) (h2 : boundA hi len = some h) (h3 : l ≤ h) (h4 : h ≤ len) : sliceT (.slice e sz) (.slice b off len sz cap) lo hi = some (.slice b (off + l * sz) (h - l) sz (cap.map (· - l))) := by
  simp only [sliceT, h1, h2]
  rw [if_pos ⟨by simp, h3, by omega⟩]
theorem bound_none {d : Nat} : boundA none d = some d := rfl
theorem bound_int {d : Nat} {k : IntKind} {n : Int} (h : 0 ≤ n) : boundA (some (.int k n)) d = some n.toNat := by simp [boundA, h]
theorem slice_lo {e : TypeId} {k : IntKind} {l : Int} (h : 0 ≤ l) (h' : l ≤ len) : sliceT (.slice e sz) (.slice b off len sz cap) (some (.int k l)) none = some (.slice b (off + l.toNat * sz) (len - l.toNat) sz (cap.map (· - l.toNat))) := sliceT_slice (bound_int h) bound_none (by omega) (by omega)
theorem slice_hi {e : TypeId} {k : IntKind} {l : Int} (h : 0 ≤ l) (h' : l ≤ len) : sliceT (.slice e sz) (.slice b off len sz cap) none (some (.int k l)) = some (.slice b off l.toNat sz cap) := by
  rw [sliceT_slice bound_none (bound_int h) (by omega) (by omega)]
  cases cap <;> simp
theorem slice_both {e : TypeId} {k k' : IntKind} {l m : Int} (h : 0 ≤ l) (h' : l ≤ m) (h'' : m ≤ len) : sliceT (.slice e sz) (.slice b off len sz cap) (some (.int k l)) (some (.int k' m)) = some (.slice b (off + l.toNat * sz) (m.toNat - l.toNat) sz (cap.map (· - l.toNat))) := sliceT_slice (bound_int h) (bound_int (by omega)) (by omega) (by omega)
theorem Row.take (h : Row H b off cs) (n : Nat) : Row H b off (cs.take n) := by
  rcases row_iff.1 h with rfl | ⟨b', cs', wr, rfl, hg, hle, hc⟩
  · simp; exact .nil
  · refine row_iff.2 (.inr ⟨b', cs', wr, rfl, hg, by simp; omega, ?_⟩)
    conv => rhs; rw [← hc]
    rw [List.take_take, List.length_take]
theorem Row.drop (h : Row H b off cs) (n : Nat) (hn : n ≤ cs.length) : Row H b (off + n) (cs.drop n) := by
  rcases row_iff.1 h with rfl | ⟨b', cs', wr, rfl, hg, hle, hc⟩
  · simp; exact .nil
  · refine row_iff.2 (.inr ⟨b', cs', wr, rfl, hg, by simp; omega, ?_⟩)
    conv => rhs; rw [← hc]
    rw [List.drop_take, List.drop_drop, List.length_drop]
/-- Does a composite literal of a slice tell each element in turn? -/
theorem fill_full {s : Nat} : ∀ (ps : List (Nat × AV)) (pre rest : List AV) (k : Nat), pre.length = k * s → rest.length = ps.length * s → (∀ i p, ps[i]? = some p → p.1 = k + i) → (∀ p ∈ ps, p.2.cells.length = s ∧ p.2.cells.all AV.one = true) →
    fillA (fun i => some (i * s, s)) (pre ++ rest) ps = some (pre ++ ps.flatMap fun p => p.2.cells)
  | [], pre, rest, k, h1, h2, h3, h4 => by
    have : rest = [] := List.eq_nil_of_length_eq_zero (by simpa using h2)
    simp [fillA, this]
  | (i, v) :: ps, pre, rest, k, h1, h2, h3, h4 => by
    obtain ⟨e1, e2⟩ := h4 (i, v) (by simp)
    have hi : i = k := by simpa using h3 0 (i, v) rfl
    subst hi
    simp only [List.length_cons, Nat.succ_mul, Nat.add_mul, Nat.one_mul] at h2
    simp only [fillA]
    rw [if_pos ⟨e1, by simp [h1]; omega, e2⟩]
    have : splice (pre ++ rest) (i * s) v.cells = (pre ++ v.cells) ++ rest.drop s := by
      simp only [splice]
      rw [← h1, List.take_left, e1, ← List.drop_drop, List.drop_left]
    rw [this, fill_full ps (pre ++ v.cells) (rest.drop s) (i + 1) (by simp [h1, e1, Nat.add_mul]) (by simp; omega) (fun j p hp => by have := h3 (j + 1) p (by simpa using hp); omega) (fun p hp => h4 p (by simp [hp]))]
    simp
def inTurn (k : Nat) : List (Nat × AV) → Bool
  | [] => true
  | p :: ps => p.1 == k && inTurn (k + 1) ps
theorem inTurn_get : ∀ {ps : List (Nat × AV)} {k : Nat}, inTurn k ps = true → ∀ i p, ps[i]? = some p → p.1 = k + i
  | [], k, h, i, p, hp => by simp at hp
  | q :: ps, k, h, 0, p, hp => by simp [inTurn] at h; simp at hp; subst hp; omega
  | q :: ps, k, h, i + 1, p, hp => by
    simp [inTurn] at h
    have := inTurn_get h.2 i p (by simpa using hp)
    omega
def buildC (P : Program) (k : TK) (n : Nat) (ps : List (Nat × AV)) (H : Heap) (K : AV → Heap → Prop) : Prop :=
  match k with
  | .slice e s => n * s ≤ 16777216 ∧ ((P.bz e).any fun p => (absV p.2).cells.length == s) = true ∧ ps.length = n ∧ inTurn 0 ps = true ∧ (∀ p ∈ ps, p.2.cells.length = s ∧ p.2.cells.all AV.one = true) ∧
    Run (K (.slice (some H.n) 0 n s (some n)) (H.alloc (ps.flatMap fun p => p.2.cells)))
  | _ => False
theorem build_full {t : TypeId} {n : Nat} {ps : List (Nat × AV)} (h : buildC P (P.tk t) n ps H K) : buildSliceA P t n ps H K := by
  unfold buildC at h
  unfold buildSliceA
  split at h
  · rename_i e s hk
    rw [hk]
    obtain ⟨h1, h2, h3, h4, h5, h6⟩ := h
    cases hb : P.bz e with
    | none => rw [hb] at h2; cases h2
    | some q =>
      obtain ⟨by', z⟩ := q
      rw [hb] at h2
      simp at h2
      simp only [hb]
      refine ⟨h1, h2, ?_⟩
      have : zerosA (absV z).cells (n * s) = [] ++ zerosA (absV z).cells (n * s) := rfl
      rw [this, fill_full ps [] _ 0 (by simp) (by simp [zerosA, h3]) (inTurn_get h4) h5]
      exact .inl h6
  · exact h.elim
/-- May so many elements lie in a slice of this type? -/
def sliceOk (P : Program) (t : TypeId) (sz m : Nat) : Prop := match P.tk t with | .slice e s => s = sz ∧ (match P.bz e with | some (by', z) => (absV z).cells.length = sz ∧ m * by' ≤ 140737488355328 | none => False) | _ => False
def isSlice (P : Program) (t : TypeId) : Bool := match P.tk t with | .slice .. => true | _ => false
theorem append_ok {t u : TypeId} {b2 : Option Nat} {off2 n sz2 : Nat} {cap2 : Option Nat} (new : List AV) (hO : OwnAt n0 H b off len sz cap cs) (hn0 : n0 ≤ H.n)
    (ht : sliceOk P t sz (len + n)) (hu : isSlice P u = true) (hs : 0 < sz) (hr : Row H b2 off2 new) (hn : new.length = n * sz) (hone : new.all AV.one = true) (hb2 : len + n ≤ 140737488355328)
    (hK : ∀ b' off' cap' H', OwnAt n0 H' b' off' (len + n) sz cap' (cs ++ new) → Keep b H H' → (b' = b ∨ b' = some H.n ∧ H.n < H'.n) → Run (K (.slice b' off' (len + n) sz cap') H')) :
    appendA P t u (.slice b off len sz cap) (.slice b2 off2 n sz2 cap2) H K := by
  unfold sliceOk at ht
  split at ht
  · rename_i e s hk
    obtain ⟨rfl, ht⟩ := ht
    split at ht
    · rename_i by' z hz
      unfold isSlice at hu
      split at hu
      · rename_i e' s' hk'
        exact append_own hO hn0 hk hk' hz ht.1 hs hr hn hone ht.2 hb2 hK
      · cases hu
    · exact ht.elim
  · exact ht.elim
theorem row_new {cs : List AV} : Row (H.alloc cs) (some H.n) 0 cs := by
  refine row_iff.2 ?_
  by_cases h : cs = []
  · exact .inl h
  · exact .inr ⟨H.n, cs, true, rfl, get_alloc_new, by omega, by simp⟩
theorem Row.alloc (h : Row H b off cs) (hw : H.wf) {ds : List AV} : Row (H.alloc ds) b off cs := h.ext hw ((Ext.refl H).alloc ds)
theorem keep_alloc {bo : Option Nat} {ds : List AV} : Keep bo H (H.alloc ds) := ((Ext.refl H).alloc ds).keep
theorem OwnAt.alloc (h : OwnAt n0 H b off len sz cap cs) {ds : List AV} : OwnAt n0 (H.alloc ds) b off len sz cap cs := h.keep (keep_alloc (bo := none)) (.inl rfl)
/-- Each element gone on with, one at a time. -/
theorem append_one {t u : TypeId} {new : List AV} (hO : OwnAt n0 H b off len sz cap cs) (hw : H.wf) (hn0 : n0 ≤ H.n) (ht : sliceOk P t sz (len + 1)) (hu : isSlice P u = true) (hs : 0 < sz) (hn : new.length = sz) (hone : new.all AV.one = true) (hb2 : len + 1 ≤ 140737488355328) {sz2 : Nat} {cap2 : Option Nat}
    (hK : ∀ b' off' cap' H', OwnAt n0 H' b' off' (len + 1) sz cap' (cs ++ new) → Keep b H H' → (b' = b ∨ ∃ k, b' = some k ∧ H.n ≤ k) → Run (K (.slice b' off' (len + 1) sz cap') H')) :
    appendA P t u (.slice b off len sz cap) (.slice (some H.n) 0 1 sz2 cap2) (H.alloc new) K := by
  refine append_ok new hO.alloc (by simp; omega) ht hu hs row_new (by omega) hone hb2 fun b' off' cap' H' h1 h2 h3 => hK b' off' cap' H' h1 ⟨by have := h2.1; simp at this; omega, fun c hc hne => ?_⟩ ?_
  · rw [h2.2 c (by simp; omega) hne, get_alloc_old (by omega)]
  · rcases h3 with h | ⟨h, _⟩
    · exact .inl h
    · exact .inr ⟨_, h, by simp⟩
end
attribute [simp] slice_eq slice_lo slice_hi slice_both makeC_slice zeros_one zeros_same sliceOk isSlice inTurn
end Go.Abs
