/- Rows of one's own: written, gone on with. -/
import Derived.Test.YthkmbfifiojmhaaAbsR
set_option linter.unusedSimpArgs false
set_option linter.unusedVariables false
namespace Go.Abs
open Go.RowKit

/-- Only one row, and new ones, may have turned. -/
def Keep (bo : Option Nat) (H H' : Heap) : Prop := H.n ≤ H'.n ∧ ∀ b, b < H.n → bo ≠ some b → H'.get b = H.get b
/-- A slice of a row that may be written, with these cells. -/
structure OwnAt (n0 : Nat) (H : Heap) (b : Option Nat) (off len sz : Nat) (cap : Option Nat) (cs : List AV) : Prop where
  hlen : cs.length = len * sz
  row : (b = none ∧ len = 0 ∧ cap = some 0) ∨ ∃ b' cs', b = some b' ∧ n0 ≤ b' ∧ b' < H.n ∧ H.get b' = some (.cells cs' true) ∧ off + len * sz ≤ cs'.length ∧ (cs'.drop off).take (len * sz) = cs ∧ ∀ c, cap = some c → len ≤ c ∧ off + c * sz ≤ cs'.length

section
variable {P : Program} {w0 : World} {H H' H'' H0 : Heap} {K : AV → Heap → Prop} {n0 off len sz : Nat} {b : Option Nat} {cap : Option Nat} {cs : List AV}
theorem Ext.keep (h : Ext H H') {bo : Option Nat} : Keep bo H H' := ⟨h.1, fun b hb _ => h.2 b hb⟩
theorem Keep.ext (h : Ext H0 H) (h' : Keep b H H') (hb : ∀ b', b = some b' → H0.n ≤ b') : Ext H0 H' :=
  ⟨Nat.le_trans h.1 h'.1, fun c hc => (h'.2 c (Nat.lt_of_lt_of_le hc h.1) (fun e => by have := hb c e; omega)).trans (h.2 c hc)⟩
theorem OwnAt.base (h : OwnAt n0 H b off len sz cap cs) : ∀ b', b = some b' → n0 ≤ b' := by
  intro b' e
  rcases h.row with ⟨h1, _⟩ | ⟨b1, _, h1, h2, _⟩
  · rw [h1] at e; cases e
  · rw [h1] at e; cases e; exact h2
theorem OwnAt.nil : OwnAt n0 H none 0 0 sz (some 0) [] := ⟨by simp, .inl ⟨rfl, rfl, rfl⟩⟩
theorem OwnAt.toRow (h : OwnAt n0 H b off len sz cap cs) : Row H b off cs := by
  rcases h.row with ⟨h1, h2, h3⟩ | ⟨b', cs', h1, h2, hlt, h3, h4, h5, h6⟩
  · have := h.hlen
    rw [h2] at this
    have : cs = [] := List.eq_nil_of_length_eq_zero (by omega)
    rw [this]; exact .nil
  · subst h1
    exact row_iff.2 (.inr ⟨b', cs', true, rfl, h3, by rw [h.hlen]; exact h4, by rw [h.hlen]; exact h5⟩)
theorem OwnAt.sli (h : OwnAt n0 H b off len sz cap cs) : Sli H (.slice b off len sz cap) sz cs := ⟨b, off, len, cap, rfl, h.hlen, h.toRow⟩
theorem OwnAt.keep (h : OwnAt n0 H b off len sz cap cs) {bo : Option Nat} (hk : Keep bo H H') (hne : bo = none ∨ bo ≠ b) : OwnAt n0 H' b off len sz cap cs := by
  refine ⟨h.hlen, ?_⟩
  rcases h.row with h1 | ⟨b', cs', h1, h2, hlt, h3, h4, h5, h6⟩
  · exact .inl h1
  · refine .inr ⟨b', cs', h1, h2, by have := hk.1; omega, ?_, h4, h5, h6⟩
    rw [hk.2 b' hlt (fun e => by rcases hne with h | h <;> simp_all)]; exact h3
theorem OwnAt.base_le (h : OwnAt n0 H b off len sz cap cs) {n1 : Nat} (hn : n1 ≤ n0) : OwnAt n1 H b off len sz cap cs := by
  refine ⟨h.hlen, ?_⟩
  rcases h.row with h1 | ⟨b', cs', h1, h2, h3⟩
  · exact .inl h1
  · exact .inr ⟨b', cs', h1, by omega, h3⟩
/-- A row that has just been made. -/
theorem OwnAt.new (hn : n0 ≤ H.n) {cs : List AV} {len sz : Nat} (hl : cs.length = len * sz) : OwnAt n0 (H.alloc cs) (some H.n) 0 len sz (some len) cs :=
  ⟨hl, .inr ⟨H.n, cs, rfl, hn, by simp, by simp, by omega, by rw [List.drop_zero, ← hl, List.take_length], by intro c e; cases e; omega⟩⟩
theorem splice_inner {cs' vs : List AV} {off n k : Nat} (h : off + n ≤ cs'.length) (hk : k + vs.length ≤ n) : ((splice cs' (off + k) vs).drop off).take n = splice ((cs'.drop off).take n) k vs := by
  apply List.ext_getElem?
  intro i
  simp only [splice, List.getElem?_take, List.getElem?_drop, List.getElem?_append, List.length_take, List.length_drop, List.length_append]
  have e1 : min (off + k) cs'.length = off + k := by omega
  have e2 : min n (cs'.length - off) = n := by omega
  have e3 : min k n = k := by omega
  simp only [e1, e2, e3]
  by_cases h1 : i < n
  · rw [if_pos h1]
    rcases Nat.lt_trichotomy i k with hlt | heq | hgt
    · simp [show off + i < off + k + vs.length by omega, show off + i < off + k by omega, show i < k + vs.length by omega, hlt, h1]
    · subst heq
      by_cases hv : 0 < vs.length
      · simp [show off + i < off + i + vs.length by omega, show i < i + vs.length by omega]
      · have : vs.length = 0 := by omega
        simp [this, h1]
    · by_cases hv : i < k + vs.length
      · simp [show off + i < off + k + vs.length by omega, show ¬ off + i < off + k by omega, hv, show ¬ i < k by omega, show off + i - (off + k) = i - k by omega]
      · simp [show ¬ off + i < off + k + vs.length by omega, hv, show k + vs.length + (i - (k + vs.length)) = i by omega, h1, show off + k + vs.length + (off + i - (off + k + vs.length)) = off + i by omega]
  · rw [if_neg h1]
    by_cases hv : i < k + vs.length
    · omega
    · simp [hv, show ¬ k + vs.length + (i - (k + vs.length)) < n by omega]
/-- A store into a row of one's own. -/
theorem store_own {t : TypeId} {k : Nat} {v : AV} (hl : P.szO t = some v.cells.length) (hO : OwnAt n0 H b off len sz cap cs) (hk : k + v.cells.length ≤ cs.length) (hs : 0 < v.cells.length) (hone : v.cells.all AV.one = true)
    (hK : ∀ H', OwnAt n0 H' b off len sz cap (splice cs k v.cells) → Keep b H H' → H'.n = H.n → Run (K .undef H')) : storeA P t (.ptr b (off + k)) v H K := by
  rcases hO.row with ⟨h1, h2, h3⟩ | ⟨b', cs', h1, h2, hlt, h3, h4, h5, h6⟩
  · have := hO.hlen; rw [h2] at this; omega
  · subst h1
    have hlen := hO.hlen
    have hle : off + k + v.cells.length ≤ cs'.length := by omega
    rw [store_get hl h3 rfl hone hle]
    have hsl : (splice cs' (off + k) v.cells).length = cs'.length := splice_length (by omega)
    refine hK _ ⟨by rw [splice_length (by omega)]; exact hlen, .inr ⟨b', splice cs' (off + k) v.cells, rfl, h2, hlt, get_put_new, by rw [hsl]; exact h4, ?_, fun c e => by rw [hsl]; exact h6 c e⟩⟩ ⟨Nat.le_refl _, fun c hc hne => by rw [get_put_old (fun e => hne (by rw [e]))]⟩ rfl
    rw [splice_inner h4 (by omega), h5]
/-- Going on with a row of one's own. -/
theorem append_own {t u e e' : TypeId} {sz' by' : Nat} {z : Value} {b2 : Option Nat} {off2 n sz2 : Nat} {cap2 : Option Nat} {new : List AV} (hO : OwnAt n0 H b off len sz cap cs) (hn0 : n0 ≤ H.n)
    (ht : P.tk t = .slice e sz) (hu : P.tk u = .slice e' sz') (hz : P.bz e = some (by', z)) (hzl : (absV z).cells.length = sz) (hs : 0 < sz)
    (hr : Row H b2 off2 new) (hn : new.length = n * sz) (hone : new.all AV.one = true) (hb1 : (len + n) * by' ≤ 140737488355328) (hb2 : len + n ≤ 140737488355328)
    (hK : ∀ b' off' cap' H', OwnAt n0 H' b' off' (len + n) sz cap' (cs ++ new) → Keep b H H' → (b' = b ∨ b' = some H.n ∧ H.n < H'.n) → Run (K (.slice b' off' (len + n) sz cap') H')) :
    appendA P t u (.slice b off len sz cap) (.slice b2 off2 n sz2 cap2) H K := by
  refine .inl ?_
  unfold appendR
  rw [ht, hu]
  refine ⟨.inl rfl, ?_⟩
  have hlen := hO.hlen
  by_cases h0 : n = 0
  · rw [if_pos h0]
    subst h0
    have : new = [] := List.eq_nil_of_length_eq_zero (by omega)
    subst this
    have := hK b off cap H (by simpa using hO) ⟨Nat.le_refl _, fun _ _ _ => rfl⟩ (.inl rfl)
    simp only [List.append_nil, Nat.add_zero] at this
    exact this
  · rw [if_neg h0, hz]
    have hold : rowA H b off (len * sz) = some cs := by have := hO.toRow; unfold Row at this; rwa [hlen] at this
    have hnew : rowA H b2 off2 (n * sz) = some new := by unfold Row at hr; rwa [hn] at hr
    rw [hold, hnew]
    refine ⟨hzl, hone, ?_⟩
    have fresh : ∀ H1 : Heap, H1.n = H.n → (∀ c, c < H.n → b ≠ some c → H1.get c = H.get c) → Run (K (.slice (some H.n) 0 (len + n) sz none) (H1.alloc (cs ++ new))) := by
      intro H1 e1 e2
      refine hK _ _ _ _ ⟨by simp [hlen, hn, Nat.add_mul], .inr ⟨H.n, cs ++ new, rfl, hn0, by simp [e1], by rw [← e1]; simp, by simp [hlen, hn, Nat.add_mul], by
        have : (len + n) * sz = (cs ++ new).length := by simp [hlen, hn, Nat.add_mul]
        rw [List.drop_zero, this, List.take_length], fun c e => by cases e⟩⟩ ⟨by simp [e1], fun c hc hne => by rw [get_alloc_old (by omega)]; exact e2 c hc hne⟩ (.inr ⟨rfl, by simp [e1]⟩)
    rcases hO.row with ⟨h1, h2, h3⟩ | ⟨b', cs', h1, h2, hlt, h3, h4, h5, h6⟩
    · subst h1 h2 h3
      simp only
      rw [if_neg (by omega)]
      exact ⟨hb1, hb2, fresh H rfl fun _ _ _ => rfl⟩
    · subst h1
      cases cap with
      | none =>
        simp only [h3]
        exact ⟨hb1, hb2, fresh (H.kill b') rfl fun c hc hne => by rw [get_kill_old (fun e => hne (by rw [e]))]⟩
      | some c =>
        simp only [h3]
        obtain ⟨hc1, hc2⟩ := h6 c rfl
        by_cases hc : len + n ≤ c
        · rw [if_pos hc]
          have hm : (len + n) * sz ≤ c * sz := Nat.mul_le_mul_right _ hc
          have hle : off + (len + n) * sz ≤ cs'.length := by omega
          have hsp : (len + n) * sz = len * sz + n * sz := Nat.add_mul _ _ _
          have hsl : (splice cs' (off + len * sz) new).length = cs'.length := splice_length (by omega)
          have hin : ((splice cs' (off + len * sz) new).drop off).take ((len + n) * sz) = cs ++ new := by
            rw [splice_inner hle (by omega), hsp]
            have : (cs'.drop off).take (len * sz + n * sz) = cs ++ ((cs'.drop off).drop (len * sz)).take (n * sz) := by rw [List.take_add, h5]
            rw [this]
            simp only [splice]
            rw [← hlen, List.take_left, List.drop_eq_nil_of_le (by simp [hn]; omega)]
            simp
          exact ⟨hle, hK (some b') off (some c) _ ⟨by simp [hlen, hn, Nat.add_mul], .inr ⟨b', _, rfl, h2, hlt, get_put_new, by rw [hsl]; exact hle, hin, fun c' e => by cases e; rw [hsl]; exact ⟨hc, hc2⟩⟩⟩ ⟨Nat.le_refl _, fun c hc hne => by rw [get_put_old (fun e => hne (by rw [e]))]⟩ (.inl rfl)⟩
        · rw [if_neg hc]
          exact ⟨hb1, hb2, fresh H rfl fun _ _ _ => rfl⟩
theorem call_of {g : FuncId} {args : List AV} {K0 : AV → Heap → Prop} (h : ACall P w0 g args H K0) (hk : ∀ v H', H'.wf → K0 v H' → Run (K v H')) : ACall P w0 g args H K := h.wfK hk
theorem ACall.enterW {f : FuncId} {fn : Func} {args : List AV} (hmix : P.follows .mixedOrders = true) (hf : P.funcs[f]? = some fn) (hok : fnOk fn args.length = true)
    (h : H.wf → Run (wpC P w0 (fn.body.getD .skip) (fnEnd P fn.results.toList K) (argsEnv args) H)) : ACall P w0 f args H K := .wf fun hw => .enter hmix hf hok (h hw)
theorem run_run {p : Prop} : Run (Run p) = Run p := nr rfl
theorem run_and {A B : Prop} : Run (A ∧ B) = (A ∧ Run B) := nr rfl
theorem run_true : Run True = True := nr rfl
theorem run_acall {g : FuncId} {args : List AV} : Run (ACall P w0 g args H K) = ACall P w0 g args H K := nr rfl
theorem run_appendA {t u : TypeId} {x y : AV} : Run (appendA P t u x y H K) = appendA P t u x y H K := nr rfl
theorem run_buildA {t : TypeId} {n : Nat} {ps : List (Nat × AV)} : Run (buildSliceA P t n ps H K) = buildSliceA P t n ps H K := nr rfl
theorem run_storeA {t : TypeId} {x y : AV} : Run (storeA P t x y H K) = storeA P t x y H K := nr rfl
theorem run_copyA {t : TypeId} {x y : AV} : Run (copyA P t x y H K) = copyA P t x y H K := nr rfl
theorem run_clearA {t : TypeId} {x : AV} : Run (clearA P t x H K) = clearA P t x H K := nr rfl
theorem run_makeA {t : TypeId} {x y : AV} : Run (makeA P t x y H K) = makeA P t x y H K := nr rfl
theorem run_RunC {v : AV} {A B : Prop} : Run (RunC v A B) = RunC v A B := nr rfl
theorem run_RunG {v : Option Bool} {A B : Prop} : Run (RunG v A B) = RunG v A B := nr rfl
theorem run_RunO {v : Option AV} : Run (RunO v K H) = RunO v K H := nr rfl
theorem Run.of {p : Prop} (h : p) : Run p := h
theorem cells_agg {l : List AV} : (AV.agg l).cells = l := rfl
theorem cells_int {k : IntKind} {n : Int} : (AV.int k n).cells = [.int k n] := rfl
theorem cells_bool {x : Bool} : (AV.bool x).cells = [.bool x] := rfl
theorem cells_str {x : List UInt8} : (AV.str x).cells = [.str x] := rfl
theorem cells_ptr {x : Option Nat} {k : Nat} : (AV.ptr x k).cells = [.ptr x k] := rfl
theorem cells_slice : (AV.slice b off len sz cap).cells = [.slice b off len sz cap] := rfl
theorem cells_func {f : Fn} {x y : List AV} : (AV.func f x y).cells = [.func f x y] := rfl
theorem one_int {k : IntKind} {n : Int} : (AV.int k n).one = true := rfl
theorem one_bool {x : Bool} : (AV.bool x).one = true := rfl
theorem one_str {x : List UInt8} : (AV.str x).one = true := rfl
theorem one_ptr {x : Option Nat} {k : Nat} : (AV.ptr x k).one = true := rfl
theorem one_slice : (AV.slice b off len sz cap).one = true := rfl
theorem one_func {f : Fn} {x y : List AV} : (AV.func f x y).one = true := rfl
def loadC (l : Option (Bool × Nat)) (o : Option AObj) (k : Nat) : Option AV :=
  match l, o with
  | some (ag, s), some (.cells cs _) => partA ag s cs k
  | _, _ => none
theorem load_some {t : TypeId} {c k : Nat} : loadA P H t (.ptr (some c) k) = loadC (P.lk t) (H.get c) k := by
  unfold loadA
  cases h1 : P.lk t with
  | none => rfl
  | some p => cases h2 : H.get c with
    | none => simp [loadC, h2]
    | some o => cases o <;> simp [loadC, h2]
theorem loadC_cells {ag : Bool} {s k : Nat} {wr : Bool} : loadC (some (ag, s)) (some (.cells cs wr)) k = partA ag s cs k := rfl
def storeC (l : Option Nat) (o : Option AObj) (c k : Nat) (v : AV) (H : Heap) (K : AV → Heap → Prop) : Prop :=
  match l, o with
  | some s, some (.cells cs true) => v.cells.length = s ∧ v.cells.all AV.one = true ∧ k + s ≤ cs.length ∧ K .undef (H.put c (splice cs k v.cells))
  | _, _ => False
theorem store_some {t : TypeId} {c k : Nat} {v : AV} : storeA P t (.ptr (some c) k) v H K = storeC (P.szO t) (H.get c) c k v H K := by
  unfold storeA
  cases h1 : P.szO t with
  | none => rfl
  | some p => cases h2 : H.get c with
    | none => simp [storeC, h2]
    | some o => cases o with
      | map es => simp [storeC, h2]
      | tail => simp [storeC, h2]
      | cells cs wr => cases wr <;> simp [storeC, h2]
theorem storeC_cells {s c k : Nat} {v : AV} : storeC (some s) (some (.cells cs true)) c k v H K = (v.cells.length = s ∧ v.cells.all AV.one = true ∧ k + s ≤ cs.length ∧ Run (K .undef (H.put c (splice cs k v.cells)))) := rfl
theorem get_alloc_eq {cs : List AV} {c : Nat} (h : c = H.n) : (H.alloc cs).get c = some (.cells cs true) := by subst h; exact get_alloc_new
theorem get_put_eq {cs : List AV} {c d : Nat} (h : c = d) : (H.put d cs).get c = some (.cells cs true) := by subst h; exact get_put_new
theorem ext_refl : Ext H H = True := by simp [Ext.refl]
theorem ext_alloc {cs : List AV} (hn : H.n ≤ H'.n) : Ext H (H'.alloc cs) = Ext H H' := by
  refine propext ⟨fun h => ⟨hn, fun c hc => ?_⟩, fun h => h.alloc cs⟩
  rw [← h.2 c hc, get_alloc_old (by omega)]
theorem ext_put {cs : List AV} {c : Nat} (hb : H.n ≤ c) : Ext H (H'.put c cs) = Ext H H' := by
  refine propext ⟨fun h => ⟨h.1, fun d hd => ?_⟩, fun h => h.put hb cs⟩
  rw [← h.2 d hd, get_put_old (by omega)]
theorem wf_alloc {cs : List AV} (h : H.wf) : (H.alloc cs).wf := by
  intro c o hc
  by_cases e : c = H.n
  · subst e; simp
  · rw [get_alloc_old e] at hc; have := h _ _ hc; simp; omega
theorem resA_cell1 {E : Env} {c : Nat} {t : TypeId} : resA P [.cell c t] E H = loadA P H t (E c) := by
  unfold resA
  simp only [List.mapM_cons, List.mapM_nil, resOne, Option.bind_eq_bind, Option.pure_def]
  cases loadA P H t (E c) <;> rfl
/-- A party's value. -/
def PartyAt (H : Heap) (v : AV) (n : Int) (ps : List (Int × Int)) : Prop := ∃ b off cap, v = .agg [.int .i64 n, .slice b off ps.length 2 cap] ∧ Row H b off (pairs ps)
theorem PartyAt.ext {v : AV} {n : Int} {ps : List (Int × Int)} (h : PartyAt H v n ps) (hw : H.wf) (he : Ext H H') : PartyAt H' v n ps := by
  obtain ⟨b, off, cap, rfl, h1⟩ := h
  exact ⟨b, off, cap, rfl, h1.ext hw he⟩
theorem splice_ints {l : List Int} {k : Nat} {x : Int} (hk : k < l.length) : splice (ints l) k [.int .i64 x] = ints (l.set k x) := by
  apply List.ext_getElem?
  intro i
  simp only [splice, ints, List.getElem?_append, List.getElem?_take, List.getElem?_drop, List.length_append, List.length_take, List.length_map, List.length_cons, List.length_nil, List.getElem?_map, List.getElem?_set]
  rcases Nat.lt_trichotomy i k with h | h | h
  · simp [show i < min k l.length + (0 + 1) by omega, show i < min k l.length by omega, h, show ¬ k = i by omega]
  · subst h; simp [show i < min i l.length + 1 by omega, show ¬ i < min i l.length by omega, show i - min i l.length = 0 by omega, hk]
  · simp [show ¬ i < min k l.length + 1 by omega, show k + 1 + (i - (min k l.length + 1)) = i by omega, show ¬ k = i by omega]
theorem Keep.refl (bo : Option Nat) (H : Heap) : Keep bo H H := ⟨Nat.le_refl _, fun _ _ _ => rfl⟩
theorem Keep.trans {bo : Option Nat} (h : Keep bo H H') (h' : Keep bo H' H'') : Keep bo H H'' := ⟨Nat.le_trans h.1 h'.1, fun c hc hne => (h'.2 c (Nat.lt_of_lt_of_le hc h.1) hne).trans (h.2 c hc hne)⟩
theorem keep_refl {bo : Option Nat} : Keep bo H H = True := by simp [Keep.refl]
theorem OwnAt.put (h : OwnAt n0 H b off len sz cap cs) {c : Nat} (hc : c < n0) {ds : List AV} : OwnAt n0 (H.put c ds) b off len sz cap cs := by
  refine h.keep (bo := some c) ⟨Nat.le_refl _, fun d hd hne => by rw [get_put_old (fun e => hne (by rw [e]))]⟩ (.inr fun e => ?_)
  have := h.base c e.symm
  omega
theorem OwnAt.isSome (h : OwnAt n0 H b off len sz cap cs) (hl : 0 < len) : b.isSome = true := by
  rcases h.row with ⟨h1, h2, h3⟩ | ⟨b', cs', h1, h2, hlt, h3, h4, h5, h6⟩
  · omega
  · simp [h1]
theorem _root_.Go.Abs.Row.isSome (h : Row H b off cs) (hl : 0 < cs.length) : b.isSome = true := by
  rcases row_iff.1 h with rfl | ⟨b', cs', wr, rfl, _⟩
  · simp at hl
  · rfl
theorem field_opt {fs : List FK} {f : Nat} (h : b.isSome = true) : fieldAddrA (.struct fs) (.ptr b off) f = (match fs[f]? with | some fk => if fk.size = 0 then none else some (.ptr b (off + fk.off)) | none => none) := by
  cases b with
  | none => cases h
  | some b => exact field_ptr
/-- A slice's value over a row of one's own. -/
def OwnV (n0 : Nat) (H : Heap) (v : AV) (len sz : Nat) (cs : List AV) : Prop := ∃ b off cap, v = .slice b off len sz cap ∧ OwnAt n0 H b off len sz cap cs
theorem OwnAt.v (h : OwnAt n0 H b off len sz cap cs) : OwnV n0 H (.slice b off len sz cap) len sz cs := ⟨b, off, cap, rfl, h⟩
theorem OwnV.sli {v : AV} (h : OwnV n0 H v len sz cs) : Sli H v sz cs := by
  obtain ⟨b, off, cap, rfl, h⟩ := h
  exact h.sli
/-- A slice's value over any row. -/
def RowV (H : Heap) (v : AV) (len sz : Nat) (cs : List AV) : Prop := ∃ b off cap, v = .slice b off len sz cap ∧ Row H b off cs
theorem OwnV.row {v : AV} (h : OwnV n0 H v len sz cs) : RowV H v len sz cs := by
  obtain ⟨b, off, cap, rfl, h⟩ := h
  exact ⟨b, off, cap, rfl, h.toRow⟩
theorem RowV.ext {v : AV} (h : RowV H v len sz cs) (hw : H.wf) (he : Ext H H') : RowV H' v len sz cs := by
  obtain ⟨b, off, cap, rfl, h⟩ := h
  exact ⟨b, off, cap, rfl, h.ext hw he⟩
theorem fill_step {α : Type} (a : List α) (z : α) (i : Nat) (h : i < a.length) : (a.take i ++ List.replicate (a.length - i) z).set i a[i] = a.take (i + 1) ++ List.replicate (a.length - (i + 1)) z := by
  rw [List.set_append_right _ _ (by simp; omega)]
  have e : i - (a.take i).length = 0 := by simp; omega
  rw [e]
  obtain ⟨m, hm⟩ : ∃ m, a.length - i = m + 1 := ⟨a.length - i - 1, by omega⟩
  rw [hm, List.replicate_succ, List.set_cons_zero, List.take_succ_eq_append_getElem h, show a.length - (i + 1) = m by omega, List.append_assoc]
  rfl
theorem splice_pairs {l : List (Int × Int)} {k : Nat} {x y : Int} (hk : k < l.length) : splice (pairs l) (k * 2) [.int .i64 x, .int .i64 y] = pairs (l.set k (x, y)) := by
  induction l generalizing k with
  | nil => simp at hk
  | cons p l ih =>
    cases k with
    | zero => rfl
    | succ k =>
      have hk' : k < l.length := by simpa using hk
      have := ih (k := k) hk'
      have e : (k + 1) * 2 = k * 2 + 1 + 1 := by omega
      show splice (AV.int .i64 p.1 :: AV.int .i64 p.2 :: pairs l) _ _ = AV.int .i64 p.1 :: AV.int .i64 p.2 :: pairs (l.set k (x, y))
      rw [← this, e]
      simp only [splice, List.take_succ_cons, List.cons_append, List.length_cons, List.length_nil, show k * 2 + 1 + 1 + (0 + 1 + 1) = (k * 2 + (0 + 1 + 1)) + 1 + 1 by omega, List.drop_succ_cons]
theorem splice_fst {l : List (Int × Int)} {k : Nat} {x : Int} (hk : k < l.length) : splice (pairs l) (k * 2) [.int .i64 x] = pairs (l.set k (x, l[k].2)) := by
  induction l generalizing k with
  | nil => simp at hk
  | cons p l ih =>
    cases k with
    | zero => rfl
    | succ k =>
      have hk' : k < l.length := by simpa using hk
      have := ih (k := k) hk'
      have e : (k + 1) * 2 = k * 2 + 1 + 1 := by omega
      show splice (AV.int .i64 p.1 :: AV.int .i64 p.2 :: pairs l) _ _ = AV.int .i64 p.1 :: AV.int .i64 p.2 :: pairs (l.set k (x, l[k].2))
      rw [← this, e]
      simp only [splice, List.take_succ_cons, List.cons_append, List.length_cons, List.length_nil, show k * 2 + 1 + 1 + (0 + 1) = (k * 2 + (0 + 1)) + 1 + 1 by omega, List.drop_succ_cons]
theorem splice_snd {l : List (Int × Int)} {k : Nat} {x : Int} (hk : k < l.length) : splice (pairs l) (k * 2 + 1) [.int .i64 x] = pairs (l.set k (l[k].1, x)) := by
  induction l generalizing k with
  | nil => simp at hk
  | cons p l ih =>
    cases k with
    | zero => rfl
    | succ k =>
      have hk' : k < l.length := by simpa using hk
      have := ih (k := k) hk'
      have e : (k + 1) * 2 + 1 = k * 2 + 1 + 1 + 1 := by omega
      show splice (AV.int .i64 p.1 :: AV.int .i64 p.2 :: pairs l) _ _ = AV.int .i64 p.1 :: AV.int .i64 p.2 :: pairs (l.set k (l[k].1, x))
      rw [← this, e]
      simp only [splice, List.take_succ_cons, List.cons_append, List.length_cons, List.length_nil, show k * 2 + 1 + 1 + 1 + (0 + 1) = (k * 2 + 1 + (0 + 1)) + 1 + 1 by omega, List.drop_succ_cons]
end
theorem splice_cons {c : AV} {cs vs : List AV} {k : Nat} : splice (c :: cs) k vs = (c :: cs).take k ++ vs ++ (c :: cs).drop (k + vs.length) := rfl
attribute [simp] run_true run_acall run_appendA run_buildA run_storeA run_copyA run_clearA run_makeA run_RunC run_RunG run_RunO run_run keep_refl resA_cell1 splice_cons cells_agg cells_int cells_bool cells_str cells_ptr cells_slice cells_func one_int one_bool one_str one_ptr one_slice one_func load_some loadC_cells store_some storeC_cells get_alloc_eq get_put_eq ext_refl ext_alloc ext_put
end Go.Abs
