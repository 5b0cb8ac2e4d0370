/- Slices told with what they hold: made, written behind, read. -/
import Derived.Test.YthkmbfifiojmhaaAbsZ
set_option linter.unusedSimpArgs false
set_option linter.unusedVariables false
namespace Go.Abs
open Go.RowKit

def AV.tok : AV → Option Nat
  | .lst t _ _ _ => t
  | _ => none
/-- A slice that may be written behind; nil at first perhaps. -/
def Tl (n0 : Nat) (H : Heap) (v : AV) (len sz : Nat) (cs : List AV) : Prop :=
  (∃ b, v = .lst (some b) len sz cs ∧ n0 ≤ b ∧ H.get b = some .tail ∧ cs.length = len * sz) ∨ (∃ s, v = .slice none 0 0 s (some 0) ∧ len = 0 ∧ cs = [])
section
variable {P : Program} {w0 : World} {H H' H0 : Heap} {K : AV → Heap → Prop} {n0 len sz : Nat} {v : AV} {cs : List AV}
theorem Tl.nil {s : Nat} : Tl n0 H (.slice none 0 0 s (some 0)) 0 sz [] := .inr ⟨s, rfl, rfl, rfl⟩
theorem Tl.hlen (h : Tl n0 H v len sz cs) : cs.length = len * sz := by
  rcases h with ⟨b, rfl, _, _, h⟩ | ⟨s, rfl, rfl, rfl⟩
  · exact h
  · simp
theorem Tl.ln (h : Tl n0 H v len sz cs) {e : TypeId} {s : Nat} : lenA (.slice e s) v = some (.int .i64 len) := by
  rcases h with ⟨b, rfl, _, _, _⟩ | ⟨s, rfl, rfl, rfl⟩ <;> rfl
theorem Tl.idx (h : Tl n0 H v len sz cs) {e : TypeId} {k : IntKind} {n : Int} (h0 : 0 ≤ n) (h1 : n < len) (h2 : 0 < sz) : idxAddrA (.slice e sz) v (.int k n) = some (.fptr (cs.drop (n.toNat * sz))) := by
  rcases h with ⟨b, rfl, _, _, _⟩ | ⟨s, rfl, rfl, rfl⟩
  · exact idx_lst h0 h1 h2
  · omega
theorem Tl.slice (h : Tl n0 H v len sz cs) {e : TypeId} {lo hi : Option AV} {l m : Nat} (h1 : boundA lo 0 = some l) (h2 : boundA hi len = some m) (h3 : l ≤ m) (h4 : m ≤ len) (h5 : 0 < len) : sliceT (.slice e sz) v lo hi = some (.lst none (m - l) sz ((cs.drop (l * sz)).take ((m - l) * sz))) := by
  rcases h with ⟨b, rfl, _, _, _⟩ | ⟨s, rfl, rfl, rfl⟩
  · exact sliceT_lst h1 h2 h3 h4
  · omega
theorem Tl.one (h : Tl n0 H v len sz cs) : v.one = true := by
  rcases h with ⟨b, rfl, _, _, _⟩ | ⟨s, rfl, rfl, rfl⟩ <;> rfl
theorem Tl.cells (h : Tl n0 H v len sz cs) : v.cells = [v] := by
  rcases h with ⟨b, rfl, _, _, _⟩ | ⟨s, rfl, rfl, rfl⟩ <;> rfl
theorem Tl.rc (h : Tl n0 H v len sz cs) : Rc v (.lst none len sz cs) := by
  rcases h with ⟨b, rfl, _, _, _⟩ | ⟨s, rfl, rfl, rfl⟩
  · exact Rc.tok
  · exact Rc.nil
theorem Tl.fz (h : Tl n0 H v len sz cs) (hs : Sub H0 H) {rs : List AV} (hz : FzL H H0 cs rs) : Fz H H0 v (.lst none len sz rs) := by
  rcases h with ⟨b, rfl, _, _, _⟩ | ⟨s, rfl, rfl, rfl⟩
  · exact Fz.lst hs hz
  · intro w0 σ w u hS hv
    have h0 := hz w0 σ w [] hS (by simp only [VRs])
    have : rs = [] := by cases rs with | nil => rfl | cons _ _ => simp only [VRs] at h0
    subst this
    exact Fz.nil w0 σ w u hS hv
theorem Tl.keep (h : Tl n0 H v len sz cs) (hw : H.wf) {bo : Option Nat} (hk : Keep bo H H') (hne : v.tok = none ∨ bo ≠ v.tok) : Tl n0 H' v len sz cs := by
  rcases h with ⟨b, rfl, h1, h2, h3⟩ | ⟨s, rfl, rfl, rfl⟩
  · refine .inl ⟨b, rfl, h1, ?_, h3⟩
    rw [hk.2 b (hw _ _ h2) (by rcases hne with h | h; exact absurd h (by simp [AV.tok]); exact h)]
    exact h2
  · exact .nil
/-- Rows of cells stay where a slice is written behind. -/
theorem Tl.rows (h : Tl n0 H v len sz cs) (hw : H.wf) (hk : Keep v.tok H H') {c : Nat} {ds : List AV} {wr : Bool} (hg : H.get c = some (.cells ds wr)) : H'.get c = some (.cells ds wr) := by
  rw [hk.2 c (hw _ _ hg) (fun e => ?_)]
  · exact hg
  · rcases h with ⟨b, rfl, h1, h2, h3⟩ | ⟨s, rfl, rfl, rfl⟩
    · simp only [AV.tok, Option.some.injEq] at e
      subst e
      rw [h2] at hg; cases hg
    · simp [AV.tok] at e
theorem Tl.ext (h : Tl n0 H v len sz cs) (hk : Keep v.tok H H') (he : Ext H0 H) (hn : H0.n ≤ n0) : Ext H0 H' := ⟨by have := he.1; have := hk.1; omega, fun c hc => by
  rw [hk.2 c (by have := he.1; omega) (fun e => ?_), he.2 c hc]
  rcases h with ⟨b, rfl, h1, h2, h3⟩ | ⟨s, rfl, rfl, rfl⟩
  · simp only [AV.tok, Option.some.injEq] at e
    omega
  · simp [AV.tok] at e⟩
theorem wf_allocT (h : H.wf) : H.allocT.wf := by
  intro b o hb
  simp only [Heap.allocT] at hb ⊢
  split at hb
  · omega
  · have := h b o hb; omega
theorem wf_kill (h : H.wf) (b : Nat) : (H.kill b).wf := by
  intro c o hb
  simp only [Heap.kill] at hb ⊢
  split at hb
  · cases hb
  · exact h c o hb
theorem get_allocT_new : H.allocT.get H.n = some .tail := by simp [Heap.allocT]
theorem get_allocT_old {b : Nat} (h : b ≠ H.n) : H.allocT.get b = H.get b := by simp [Heap.allocT, h]
theorem cellsA_lst {t : Option Nat} {n : Nat} (h : cs.length = n) : cellsA H (.lst t len sz cs) n = some cs := by
  simp only [cellsA]
  rw [if_pos (by omega), List.take_of_length_le (by omega)]
/-- Written behind. -/
theorem append_tl {t u : TypeId} {x : AV} {n : Nat} {new : List AV} (hT : Tl n0 H v len sz cs) (hw : H.wf) (hn0 : n0 ≤ H.n) (ht : sliceOk P t sz (len + n)) (hu : isSlice P u = true) (hs : 0 < sz) (hl : lenOf x = some (n, sz)) (hx : cellsA H x (n * sz) = some new)
    (hone : new.all AV.one = true) (hb : len + n ≤ 140737488355328)
    (hK : ∀ v' H', H'.wf → Tl n0 H' v' (len + n) sz (cs ++ new) → Keep v.tok H H' → (v'.tok = v.tok ∨ ∀ c, v'.tok = some c → H.n ≤ c) → Run (K v' H')) : appendA P t u v x H K := by
  refine .inr ?_
  unfold sliceOk at ht
  split at ht
  · rename_i e s hk
    obtain ⟨rfl, ht⟩ := ht
    split at ht
    · rename_i by' z hz
      unfold isSlice at hu
      split at hu
      · rename_i e' s' hk'
        have hnl := cellsA_len hx
        rcases hT with ⟨b, rfl, h1, h2, h3⟩ | ⟨s0, rfl, rfl, rfl⟩
        · unfold appendL
          rw [hk, hk']
          simp only [endOf, hl]
          by_cases h0 : n = 0
          · subst h0
            rw [if_pos rfl]
            have : new = [] := List.eq_nil_of_length_eq_zero (by omega)
            subst this
            rw [List.append_nil] at hK
            exact hK _ _ hw (.inl ⟨b, rfl, h1, h2, h3⟩) (Keep.refl _ _) (.inl rfl)
          · rw [if_neg h0, hz, hx]
            refine ⟨ht.1, hone, ht.2, hb, hs, by trivial, by trivial, h2, ?_⟩
            refine hK _ _ (wf_allocT (wf_kill hw b)) (.inl ⟨_, rfl, hn0, get_allocT_new, ?_⟩) ⟨by show H.n ≤ H.n + 1; omega, fun c hc hne => ?_⟩ (.inr fun c hc => ?_)
            · rw [List.length_append, h3, hnl, Nat.add_mul]
            · have hcn : c ≠ (H.kill b).n := by show c ≠ H.n; omega
              rw [get_allocT_old hcn, get_kill_old (fun e => hne (by rw [e]; rfl))]
            · simp only [AV.tok, Option.some.injEq] at hc
              rw [← hc]; exact Nat.le_refl _
        · unfold appendL
          rw [hk, hk']
          simp only [endOf, hl]
          by_cases h0 : n = 0
          · subst h0
            rw [if_pos rfl]
            have : new = [] := List.eq_nil_of_length_eq_zero (by omega)
            subst this
            exact hK _ _ hw .nil (Keep.refl _ _) (.inl rfl)
          · rw [if_neg h0, hz, hx]
            refine ⟨ht.1, hone, ht.2, hb, hs, by trivial, ?_⟩
            have := hK (.lst (some H.n) (0 + n) s new) H.allocT (wf_allocT hw) (.inl ⟨_, rfl, hn0, get_allocT_new, by rw [List.nil_append, hnl, Nat.zero_add]⟩) ⟨by show H.n ≤ H.n + 1; omega, fun c hc hne => get_allocT_old (by omega)⟩ (.inr fun c hc => by
              simp only [AV.tok, Option.some.injEq] at hc
              rw [← hc]; exact Nat.le_refl _)
            rw [Nat.zero_add] at this
            exact this
      · cases hu
    · exact ht.elim
  · exact ht.elim
theorem fill_of {t : TypeId} {e : TypeId} {s n by' : Nat} {z : Value} {ps : List (Nat × AV)} (h2 : (absV z).cells.length = s) (h3 : ps.length = n) (h4 : inTurn 0 ps = true) (h5 : ∀ p ∈ ps, p.2.cells.length = s ∧ p.2.cells.all AV.one = true) :
    fillA (fun i => some (i * s, s)) (zerosA (absV z).cells (n * s)) ps = some (ps.flatMap fun p => p.2.cells) := by
  have : zerosA (absV z).cells (n * s) = [] ++ zerosA (absV z).cells (n * s) := rfl
  rw [this, fill_full ps [] _ 0 (by simp) (by simp [zerosA, h3]) (inTurn_get h4) h5]
  simp
/-- A literal that no one writes. -/
def buildL (P : Program) (k : TK) (n : Nat) (ps : List (Nat × AV)) (H : Heap) (K : AV → Heap → Prop) : Prop :=
  match k with
  | .slice e s => n * s ≤ 16777216 ∧ ((P.bz e).any fun p => (absV p.2).cells.length == s) = true ∧ ps.length = n ∧ inTurn 0 ps = true ∧ (∀ p ∈ ps, p.2.cells.length = s ∧ p.2.cells.all AV.one = true) ∧
    Run (K (.lst none n s (ps.flatMap fun p => p.2.cells)) H)
  | _ => False
/-- A literal that may be written behind. -/
def buildT (P : Program) (k : TK) (n : Nat) (ps : List (Nat × AV)) (H : Heap) (K : AV → Heap → Prop) : Prop :=
  match k with
  | .slice e s => n * s ≤ 16777216 ∧ ((P.bz e).any fun p => (absV p.2).cells.length == s) = true ∧ ps.length = n ∧ inTurn 0 ps = true ∧ (∀ p ∈ ps, p.2.cells.length = s ∧ p.2.cells.all AV.one = true) ∧
    Run (K (.lst (some H.n) n s (ps.flatMap fun p => p.2.cells)) H.allocT)
  | _ => False
theorem build_lst {t : TypeId} {n : Nat} {ps : List (Nat × AV)} (h : buildL P (P.tk t) n ps H K) : buildSliceA P t n ps H K := by
  unfold buildL at h
  unfold buildSliceA
  split at h
  · rename_i e s hk
    rw [hk]
    obtain ⟨h1, h2, h3, h4, h5, h6⟩ := h
    cases hb : P.bz e with
    | none => rw [hb] at h2; cases h2
    | some q =>
      obtain ⟨by', z⟩ := q
      rw [hb] at h2
      simp at h2
      simp only [hb]
      refine ⟨h1, h2, ?_⟩
      rw [fill_of (t := t) (e := e) (by' := by') h2 h3 h4 h5]
      exact .inr (.inl h6)
  · exact h.elim
theorem build_tok {t : TypeId} {n : Nat} {ps : List (Nat × AV)} (h : buildT P (P.tk t) n ps H K) : buildSliceA P t n ps H K := by
  unfold buildT at h
  unfold buildSliceA
  split at h
  · rename_i e s hk
    rw [hk]
    obtain ⟨h1, h2, h3, h4, h5, h6⟩ := h
    cases hb : P.bz e with
    | none => rw [hb] at h2; cases h2
    | some q =>
      obtain ⟨by', z⟩ := q
      rw [hb] at h2
      simp at h2
      simp only [hb]
      refine ⟨h1, h2, ?_⟩
      rw [fill_of (t := t) (e := e) (by' := by') h2 h3 h4 h5]
      exact .inr (.inr h6)
  · exact h.elim
theorem Tl.new {cs : List AV} (hl : cs.length = len * sz) (hn : n0 ≤ H.n) : Tl n0 H.allocT (.lst (some H.n) len sz cs) len sz cs := .inl ⟨_, rfl, hn, get_allocT_new, hl⟩
def makeT (P : Program) (k : TK) (l c : AV) (H : Heap) (K : AV → Heap → Prop) : Prop :=
  match k, l, c with
  | .slice e s, .int _ n, .int _ m =>
    match P.bz e with
    | some (bytes, z) => 0 ≤ n ∧ n ≤ m ∧ m ≤ 281474976710656 ∧ bytes * m ≤ 281474976710656 ∧ (absV z).cells.length = s ∧ Run (K (.lst (some H.n) n.toNat s (zerosA (absV z).cells (n.toNat * s))) H.allocT)
    | none => False
  | _, _, _ => False
theorem make_tok {t : TypeId} {l c : AV} (h : makeT P (P.tk t) l c H K) : makeA P t l c H K := by
  unfold makeT at h
  unfold makeA
  split at h
  · rename_i hk
    rw [hk]
    simp only
    split at h
    · rename_i hz
      rw [hz]
      obtain ⟨h1, h2, h3, h4, h5, h6⟩ := h
      exact ⟨h1, h2, h3, h4, h5, .inr h6⟩
    · exact h.elim
  · exact h.elim
theorem ext_allocT (hn : H.n ≤ H'.n) : Ext H H'.allocT = Ext H H' := by
  refine propext ⟨fun h => ⟨hn, fun b hb => ?_⟩, fun h => ⟨by have := h.1; show H.n ≤ H'.n + 1; omega, fun b hb => ?_⟩⟩
  · have := h.2 b hb
    rwa [get_allocT_old (by omega)] at this
  · rw [get_allocT_old (by omega)]; exact h.2 b hb
theorem run_boxA : Run (boxA v H K) = boxA v H K := nr rfl
theorem box_f (h : v.cells.all AV.one = true) (hk : Run (K (.fptr v.cells) H)) : boxA v H K := ⟨h, .inr hk⟩
theorem box_r (h : v.cells.all AV.one = true) (hk : Run (K (.ptr (some H.n) 0) (H.alloc v.cells))) : boxA v H K := ⟨h, .inl hk⟩
theorem Heap.ext' {H H' : Heap} (h : H.n = H'.n) (hg : ∀ b, H.get b = H'.get b) : H = H' := by
  cases H; cases H'
  simp only at h hg
  subst h
  congr 1
  exact funext hg
theorem put_alloc {cs ds : List AV} : (H.alloc cs).put H.n ds = H.alloc ds := Heap.ext' rfl fun b => by
  simp only [Heap.put, Heap.alloc]
  split <;> rfl
theorem put_put {b : Nat} {cs ds : List AV} : (H.put b cs).put b ds = H.put b ds := Heap.ext' rfl fun c => by
  simp only [Heap.put]
  split <;> rfl
theorem put_same {b : Nat} {cs : List AV} (h : H.get b = some (.cells cs true)) : H.put b cs = H := Heap.ext' rfl fun c => by
  simp only [Heap.put]
  split
  · rename_i e; rw [e, h]
  · rfl
theorem put_comm {b c : Nat} {cs ds : List AV} (h : b ≠ c) : (H.put b cs).put c ds = (H.put c ds).put b cs := Heap.ext' rfl fun d => by
  simp only [Heap.put]
  split
  · rename_i e; rw [if_neg (by omega)]
  · rfl
theorem put_alloc_comm {b : Nat} {cs ds : List AV} (h : b ≠ H.n) : (H.alloc cs).put b ds = (H.put b ds).alloc cs := Heap.ext' rfl fun d => by
  simp only [Heap.put, Heap.alloc]
  split
  · rename_i e; rw [if_neg (by omega)]
  · rfl
/-! ### Reading -/
def loadF (l : Option (Bool × Nat)) (cs : List AV) : Option AV := match l with | some (ag, s) => (if ag then (if (cs.take s).length = s then some (.agg (cs.take s)) else none) else cs[0]?) | none => none
theorem load_fp {t : TypeId} {cs : List AV} : loadA P H t (.fptr cs) = loadF (P.lk t) cs := by
  unfold loadA loadF
  cases P.lk t with
  | none => rfl
  | some p =>
    obtain ⟨ag, s⟩ := p
    cases ag with
    | false => simp [partA]
    | true =>
      simp only [partA, Nat.zero_add, List.drop_zero, if_true]
      by_cases h : s ≤ cs.length
      · rw [if_pos h, if_pos (by simp; omega)]
      · rw [if_neg h, if_neg (by simp; omega)]
theorem loadF_one {s : Nat} {cs : List AV} : loadF (some (false, s)) cs = cs[0]? := by simp [loadF]
theorem loadF_agg {s : Nat} {cs : List AV} : loadF (some (true, s)) cs = if (cs.take s).length = s then some (.agg (cs.take s)) else none := by simp [loadF]
theorem ints_get {l : List Int} {k : Nat} (h : k < l.length) : (ints l)[k]? = some (.int .i64 l[k]) := by simp [ints, h]
theorem bools_get {l : List Bool} {k : Nat} (h : k < l.length) : (bools l)[k]? = some (.bool l[k]) := by simp [bools, h]
theorem u16s_get {l : List Nat} {k : Nat} (h : k < l.length) : (u16s l)[k]? = some (.int .u16 (l[k] : Int)) := by simp [u16s, h]
/-- Trees side by side. -/
def trees {α : Type} (f : α → AV) (l : List α) : List AV := l.map f
theorem trees_length {α : Type} {f : α → AV} {l : List α} : (trees f l).length = l.length := by simp [trees]
theorem trees_get {α : Type} {f : α → AV} {l : List α} {k : Nat} (h : k < l.length) : (trees f l)[k]? = some (f l[k]) := by simp [trees, h]
theorem drop_pair {l : List (Int × Int)} {k : Nat} (h : k < l.length) : (pairs l).drop (k * 2) = .int .i64 l[k].1 :: .int .i64 l[k].2 :: (pairs l).drop ((k + 1) * 2) := by
  induction l generalizing k with
  | nil => simp at h
  | cons p l ih =>
    cases k with
    | zero => simp [pairs]
    | succ k =>
      have := ih (k := k) (by simpa using h)
      have e : ∀ m, (pairs (p :: l)).drop ((m + 1) * 2) = (pairs l).drop (m * 2) := fun m => by
        show (_ :: _ :: pairs l).drop _ = _
        rw [show (m + 1) * 2 = m * 2 + 2 by omega]
        simp
      rw [e, e, this]
      simp
theorem pair_take {l : List (Int × Int)} {k : Nat} (h : k < l.length) : ((pairs l).drop (k * 2)).take 2 = [.int .i64 l[k].1, .int .i64 l[k].2] := by
  rw [drop_pair h]
  rfl
theorem pair_fst {l : List (Int × Int)} {k : Nat} (h : k < l.length) : (pairs l)[k * 2]? = some (.int .i64 l[k].1) := by
  have := drop_pair h
  have e : ((pairs l).drop (k * 2))[0]? = some (.int .i64 l[k].1) := by rw [this]; rfl
  simpa using e
theorem pair_snd {l : List (Int × Int)} {k : Nat} (h : k < l.length) : (pairs l)[k * 2 + 1]? = some (.int .i64 l[k].2) := by
  have := drop_pair h
  have e : ((pairs l).drop (k * 2))[1]? = some (.int .i64 l[k].2) := by rw [this]; rfl
  simpa using e
theorem ints_one (l : List Int) : (ints l).all AV.one = true := by simp [ints, AV.one]
theorem bools_one (l : List Bool) : (bools l).all AV.one = true := by simp [bools, AV.one]
theorem pairs_one (l : List (Int × Int)) : (pairs l).all AV.one = true := by simp [pairs, AV.one]
theorem flats_ints : ∀ l : List Int, flats (ints l) = true
  | [] => rfl
  | _ :: l => by have := flats_ints l; simp only [ints] at this; simp [ints, flats, AV.flat, this]
theorem flats_bools : ∀ l : List Bool, flats (bools l) = true
  | [] => rfl
  | _ :: l => by have := flats_bools l; simp only [bools] at this; simp [bools, flats, AV.flat, this]
theorem flats_u16s : ∀ l : List Nat, flats (u16s l) = true
  | [] => rfl
  | _ :: l => by have := flats_u16s l; simp only [u16s] at this; simp [u16s, flats, AV.flat, this]
theorem flats_pairs : ∀ l : List (Int × Int), flats (pairs l) = true
  | [] => rfl
  | _ :: l => by have := flats_pairs l; simp only [pairs] at this; simp [pairs, flats, AV.flat, this]
/-! ### Ends -/
def Done (H H' : Heap) (v : AV) (R : AV → Prop) : Prop := Ext H H' ∧ ∃ r, Fz H' H v r ∧ R r
theorem PCall.run {f : FuncId} {fn : Func} {args : List AV} {R : AV → Prop} (hmix : P.follows .mixedOrders = true) (hf : P.funcs[f]? = some fn) (hok : fnOk fn args.length = true)
    (h : ∀ (w0 : World) (H : Heap), H.wf → Run (wpC P w0 (fn.body.getD .skip) (fnEnd P fn.results.toList fun v H' => Done H H' v R) (argsEnv args) H)) : PCall P f args R :=
  PCall.of fun w0 H hw => ACall.enter hmix hf hok (h w0 H hw)
theorem Done.flat {R : AV → Prop} (he : Ext H H') (hf : v.flat = true) (hR : R v) : Done H H' v R := ⟨he, v, Fz.flat hf, hR⟩
theorem Done.mk {R : AV → Prop} {r : AV} (hw : H.wf) (he : Ext H H') (hz : Sub H H' → Fz H' H v r) (hR : R r) : Done H H' v R := ⟨he, r, hz (he.sub hw), hR⟩
/-- A yes or no, by what it says. -/
def IsB (p : Prop) (v : AV) : Prop := ∃ b, v = .bool b ∧ (b = true ↔ p)
theorem Done.yes {p : Prop} (he : Ext H H') (h : p) : Done H H' (.bool true) (IsB p) := Done.flat he rfl ⟨true, rfl, by simp [h]⟩
theorem Done.no {p : Prop} (he : Ext H H') (h : ¬ p) : Done H H' (.bool false) (IsB p) := Done.flat he rfl ⟨false, rfl, by simp [h]⟩
theorem Done.iff {p : Prop} {b : Bool} (he : Ext H H') (h : b = true ↔ p) : Done H H' (.bool b) (IsB p) := Done.flat he rfl ⟨b, rfl, h⟩
theorem run_done {R : AV → Prop} : Run (Done H H' v R) = Done H H' v R := nr rfl
/-- An appendable slice of numbers and the like comes back. -/
theorem Done.tl {R : AV → Prop} (hw : H.wf) (he : Ext H H') (hT : Tl n0 H' v len sz cs) (hf : flats cs = true) (hR : R (.lst none len sz cs)) : Done H H' v R := .mk hw he (fun hs => hT.fz hs (FzL.flat hf)) hR
theorem run_pureB {f : FuncId} {args : List AV} {p : Prop} (h : PCall P f args (IsB p)) (hk : ∀ b : Bool, (b = true ↔ p) → Run (K (.bool b) H)) : ACall P w0 f args H K :=
  run_pure h fun v ⟨b, hv, hb⟩ => by subst hv; exact hk b hb
end
attribute [simp] run_done run_boxA put_alloc put_put
attribute [simp] idx_lst len_lst load_fp loadF_one loadF_agg field_fptr ints_get bools_get u16s_get trees_get pair_take pair_fst pair_snd trees_length ext_allocT get_allocT_new n_allocT cellsA_lst lenOf
theorem cells_lst {tk : Option Nat} {len sz : Nat} {cs : List AV} : (AV.lst tk len sz cs).cells = [.lst tk len sz cs] := rfl
theorem one_lst {tk : Option Nat} {len sz : Nat} {cs : List AV} : (AV.lst tk len sz cs).one = true := rfl
attribute [simp] cells_lst one_lst
end Go.Abs
