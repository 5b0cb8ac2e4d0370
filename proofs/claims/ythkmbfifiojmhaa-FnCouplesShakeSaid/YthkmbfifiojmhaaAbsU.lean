/- Tables of truth values. -/
import Derived.Test.YthkmbfifiojmhaaAbsT
set_option linter.unusedSimpArgs false
set_option linter.unusedVariables false
namespace Go.Abs
open Go.RowKit
def updT (f : Nat → Nat → Bool) (a x : Nat) (v : Bool) : Nat → Nat → Bool := fun a' x' => if a' = a ∧ x' = x then v else f a' x'
def rowSet (g : Nat → Bool) (x : Nat) (v : Bool) : Nat → Bool := fun x' => if x' = x then v else g x'
def rowT (n : Nat) (f : Nat → Bool) : List Bool := (List.range n).map f
/-- A table that may be written. -/
structure TabAt (n0 : Nat) (H : Heap) (b : Option Nat) (off : Nat) (cap : Option Nat) (m n : Nat) (Bs : List Nat) (f : Nat → Nat → Bool) : Prop where
  own : OwnAt n0 H b off m 1 cap (Bs.map fun k => .slice (some k) 0 n 1 (some n))
  nodup : Bs.Nodup
  rng : ∀ k ∈ Bs, n0 ≤ k ∧ k < H.n ∧ b ≠ some k
  row : ∀ a (h : a < Bs.length), H.get Bs[a] = some (.cells (bools (rowT n (f a))) true)
/-- A table that is read. -/
def BoolTab (H : Heap) (v : AV) (n : Nat) (f : Nat → Nat → Bool) : Prop :=
  ∃ b off cap rows, v = .slice b off n 1 cap ∧ Row H b off rows ∧ rows.length = n ∧ ∀ a (h : a < rows.length), ∃ b' off' cap', rows[a] = .slice b' off' n 1 cap' ∧ Row H b' off' (bools (rowT n (f a)))
section
variable {P : Program} {w0 : World} {H H' H'' H0 : Heap} {K : AV → Heap → Prop} {n0 off len sz m n : Nat} {b : Option Nat} {cap : Option Nat} {cs : List AV} {Bs : List Nat} {f : Nat → Nat → Bool}
theorem nodup_inj {l : List Nat} (h : l.Nodup) {i j : Nat} {hi : i < l.length} {hj : j < l.length} (e : l[i] = l[j]) : i = j := by
  rcases Nat.lt_trichotomy i j with hlt | heq | hgt
  · exact absurd e (List.pairwise_iff_getElem.1 h i j hi hj hlt)
  · exact heq
  · exact absurd e.symm (List.pairwise_iff_getElem.1 h j i hj hi hgt)
theorem rowT_length {g : Nat → Bool} : (rowT n g).length = n := by simp [rowT]
theorem rowT_get {g : Nat → Bool} {i : Nat} (h : i < (rowT n g).length) : (rowT n g)[i] = g i := by simp [rowT]
theorem Row.boolT {g : Nat → Bool} {off : Nat} (h : Row H b off (bools (rowT n g))) {t : TypeId} {k : Nat} (hl : P.lk t = some (false, 1)) (hk : k < n) : loadA P H t (.ptr b (off + k)) = some (.bool (g k)) := by
  rw [h.bool hl (by simpa [rowT] using hk), rowT_get]
theorem TabAt.blen (h : TabAt n0 H b off cap m n Bs f) : Bs.length = m := by simpa using h.own.hlen
theorem TabAt.keep (h : TabAt n0 H b off cap m n Bs f) {bo : Option Nat} (hk : Keep bo H H') (hne : bo = none ∨ bo ≠ b ∧ ∀ k ∈ Bs, bo ≠ some k) : TabAt n0 H' b off cap m n Bs f := by
  refine ⟨h.own.keep hk (by rcases hne with h | h; exact .inl h; exact .inr h.1), h.nodup, fun k hkb => ⟨(h.rng k hkb).1, by have := (h.rng k hkb).2.1; have := hk.1; omega, (h.rng k hkb).2.2⟩, fun a ha => ?_⟩
  rw [hk.2 _ (h.rng _ (List.getElem_mem ha)).2.1 (by rcases hne with h | h; simp [h]; exact h.2 _ (List.getElem_mem ha))]
  exact h.row a ha
theorem splice_row {g : Nat → Bool} {x : Nat} {v : Bool} (hx : x < n) : splice (bools (rowT n g)) x [.bool v] = bools (rowT n (rowSet g x v)) := by
  apply List.ext_getElem?
  intro i
  simp only [splice, bools, rowT, rowSet, List.getElem?_append, List.getElem?_take, List.getElem?_drop, List.length_append, List.length_take, List.length_map, List.length_range, List.length_cons, List.length_nil, List.getElem?_map]
  rcases Nat.lt_trichotomy i x with h | h | h
  · have hn : i < n := by omega
    simp [show i < min x n + 1 by omega, show i < min x n by omega, h, hn, rowSet, show i ≠ x by omega]
  · subst h; simp [show i < min i n + 1 by omega, show ¬ i < min i n by omega, show i - min i n = 0 by omega, hx, rowSet]
  · have e : x + (0 + 1) + (i - (min x n + (0 + 1))) = i := by omega
    simp only [show ¬ i < min x n + (0 + 1) by omega, if_false, e]
    by_cases hn : i < n
    · simp [hn, rowSet, show i ≠ x by omega]
    · simp [hn]
theorem TabAt.put (h : TabAt n0 H b off cap m n Bs f) {a x : Nat} {v : Bool} (ha : a < Bs.length) (hx : x < n) : TabAt n0 (H.put Bs[a] (bools (rowT n (rowSet (f a) x v)))) b off cap m n Bs (updT f a x v) := by
  have hr := h.rng _ (List.getElem_mem ha)
  refine ⟨h.own.keep (bo := some Bs[a]) ⟨Nat.le_refl _, fun c hc hne => by rw [get_put_old (fun e => hne (by rw [e]))]⟩ (.inr fun e => hr.2.2 e.symm), h.nodup, h.rng, fun a' ha' => ?_⟩
  by_cases e : a' = a
  · subst e
    rw [get_put_new]
    congr 3
    unfold rowT
    apply List.map_congr_left
    intro y _
    simp [updT, rowSet]
  · rw [get_put_old (fun e' => e (nodup_inj h.nodup e'))]
    rw [h.row a' ha']
    congr 3
    unfold rowT
    apply List.map_congr_left
    intro y _
    simp [updT, e]
theorem OwnAt.lt (h : OwnAt n0 H b off len sz cap cs) : ∀ k, b = some k → k < H.n := by
  intro k e
  rcases h.row with ⟨h1, _⟩ | ⟨b1, _, h1, _, hlt, _⟩
  · rw [h1] at e; cases e
  · rw [h1] at e; cases e; exact hlt
theorem TabAt.grow (h : TabAt n0 H b off cap m n Bs f) (hn0 : n0 ≤ H.n) {row : List AV} (hrow : row = bools (rowT n (f m))) {b' : Option Nat} {off' : Nat} {cap' : Option Nat} {H1 : Heap}
    (hO : OwnAt n0 H1 b' off' (m + 1) 1 cap' (Bs.map (fun k => AV.slice (some k) 0 n 1 (some n)) ++ [.slice (some H.n) 0 n 1 (some n)])) (hk : Keep b (H.alloc row) H1) (hb : b' = b ∨ ∃ k, b' = some k ∧ (H.alloc row).n ≤ k) :
    TabAt n0 H1 b' off' cap' (m + 1) n (Bs ++ [H.n]) f := by
  have hle := hk.1
  simp only [n_alloc] at hle hb
  have hbn : b ≠ some H.n := fun e => by have := h.own.lt _ e; omega
  have hlen := h.blen
  refine ⟨by simpa using hO, ?_, ?_, ?_⟩
  · rw [List.nodup_append]
    refine ⟨h.nodup, by simp, ?_⟩
    intro k hk1 k2 hk2 e
    simp at hk2
    have := (h.rng k hk1).2.1
    omega
  · intro k hk1
    rcases List.mem_append.1 hk1 with hk1 | hk1
    · obtain ⟨r1, r2, r3⟩ := h.rng k hk1
      refine ⟨r1, by omega, fun e => ?_⟩
      rcases hb with rfl | ⟨j, rfl, hj⟩
      · exact r3 e
      · cases e; omega
    · simp at hk1
      subst hk1
      refine ⟨hn0, by omega, fun e => ?_⟩
      rcases hb with rfl | ⟨j, rfl, hj⟩
      · exact hbn e
      · cases e; omega
  · intro a ha
    by_cases h1 : a < Bs.length
    · rw [List.getElem_append_left h1]
      have r := h.rng _ (List.getElem_mem h1)
      rw [hk.2 _ (by simp; omega) r.2.2, get_alloc_old (by omega)]
      exact h.row a h1
    · have : a = Bs.length := by simp at ha; omega
      subst this
      rw [List.getElem_append_right (by omega)]
      simp only [Nat.sub_self, List.getElem_cons_zero]
      rw [hk.2 _ (by simp) hbn, get_alloc_new, hrow, hlen]
theorem rowT_false : List.replicate n (AV.bool false) = bools (rowT n fun _ => false) := by
  apply List.ext_getElem?
  intro i
  simp only [bools, rowT, List.getElem?_map, List.getElem?_replicate]
  by_cases h : i < n <;> simp [h]
theorem TabAt.tab (h : TabAt n0 H b off cap n n Bs f) : BoolTab H (.slice b off n 1 cap) n f := by
  refine ⟨b, off, cap, _, rfl, h.own.toRow, by simpa using h.blen, fun a ha => ?_⟩
  have ha' : a < Bs.length := by simpa using ha
  refine ⟨some Bs[a], 0, some n, by simp, row_iff.2 (.inr ⟨_, _, true, rfl, h.row a ha', by simp [rowT_length], ?_⟩)⟩
  rw [List.drop_zero, List.take_length]
theorem BoolTab.ext {v : AV} (h : BoolTab H v n f) (hw : H.wf) (he : Ext H H') : BoolTab H' v n f := by
  obtain ⟨b, off, cap, rows, rfl, h1, h2, h3⟩ := h
  refine ⟨b, off, cap, rows, rfl, h1.ext hw he, h2, fun a ha => ?_⟩
  obtain ⟨b', off', cap', e, hr⟩ := h3 a ha
  exact ⟨b', off', cap', e, hr.ext hw he⟩
end
end Go.Abs
