/- A drawing hand: choices made from bytes through a pointer; all else stays. -/
import Derived.Test.YthkmbfifiojmhaaAbs3
set_option linter.unusedSimpArgs false
set_option linter.unusedVariables false
namespace Go.Abs
open Go.RowKit
def u8s (l : List Int) : List AV := l.map fun x => AV.int .u8 x
section
variable {P : Program} {w0 : World} {H H' H0 : Heap} {K : AV → Heap → Prop} {n0 n bc : Nat}
theorem u8s_length (l : List Int) : (u8s l).length = l.length := by simp [u8s]
theorem u8s_get {l : List Int} {k : Nat} (h : k < l.length) : (u8s l)[k]? = some (.int .u8 l[k]) := by simp [u8s, h]
theorem flats_u8s : ∀ l : List Int, flats (u8s l) = true
  | [] => rfl
  | _ :: l => by have := flats_u8s l; simp only [u8s] at this; simp [u8s, flats, AV.flat, this]
/-- The choices' state: the bytes, how many choices have been made, the seed. -/
def curC (l : List Int) (pos s : Int) : List AV := [.lst none l.length 1 (u8s l), .int .i64 pos, .int .u64 s]
def CurOk (c : List AV) (m : Nat) : Prop := ∃ l pos s, c = curC l pos s ∧ (∀ x ∈ l, 0 ≤ x ∧ x < 256) ∧ 0 ≤ pos ∧ pos ≤ (m : Int) ∧ l.length < 2 ^ 31 ∧ 0 ≤ s ∧ s < 18446744073709551616
theorem CurOk.mono {c : List AV} {m m' : Nat} (h : CurOk c m) (hm : m ≤ m') : CurOk c m' := by
  obtain ⟨l, pos, s, h1, h2, h3, h4, h5⟩ := h
  exact ⟨l, pos, s, h1, h2, h3, by omega, h5⟩
theorem CurOk.under {c : List AV} {m : Nat} (h : CurOk c m) : unders n c := by
  obtain ⟨l, pos, s, rfl, _⟩ := h
  simp only [curC, unders, AV.under]
  exact ⟨⟨(by intro b hb; cases hb), unders_of_flats _ (flats_u8s _)⟩, trivial, trivial, trivial⟩
theorem low8 {q : Int} (h : 0 ≤ q ∧ q < 18446744073709551616) : 0 ≤ IntKind.i64.wrap (bits BinOp.and IntKind.u64 (q.fdiv (2 ^ min 40 IntKind.u64.bits)) 255) ∧ IntKind.i64.wrap (bits BinOp.and IntKind.u64 (q.fdiv (2 ^ min 40 IntKind.u64.bits)) 255) < 256 := by
  have e : (2 : Int) ^ min 40 (IntKind.bits .u64) = 1099511627776 := by simp [IntKind.bits]
  rw [e, Int.fdiv_eq_ediv_of_nonneg _ (by omega)]
  have h1 : 0 ≤ q / 1099511627776 := by omega
  have h2 : q / 1099511627776 < 18446744073709551616 := by omega
  rw [u64_and _ 255 h1 h2 (by omega) (by omega)]
  have h3 : (q / 1099511627776).toNat &&& (255 : Int).toNat ≤ 255 := Nat.and_le_right
  rw [wrap64 (by omega) (by omega)]
  omega
theorem low8' {q : Int} (h : 0 ≤ q ∧ q < 18446744073709551616) : 0 ≤ bits BinOp.and IntKind.u64 (q.fdiv 1099511627776) 255 ∧ bits BinOp.and IntKind.u64 (q.fdiv 1099511627776) 255 < 256 := by
  rw [Int.fdiv_eq_ediv_of_nonneg _ (by omega)]
  rw [u64_and _ 255 (by omega) (by omega) (by omega) (by omega)]
  have h3 : (q / 1099511627776).toNat &&& (255 : Int).toNat ≤ 255 := Nat.and_le_right
  omega
/-- A function with a drawing hand has ended: the hand has gone on, a tree has come. -/
def DoneC (H : Heap) (bc : Nat) (H' : Heap) (v : AV) (R : AV → List AV → Prop) : Prop := ∃ c, H'.get bc = some (.cells c true) ∧ unders H.n c ∧ Keep (some bc) H H' ∧ ∃ r, Fz H' (H.put bc c) v r ∧ R r c
theorem cur_sub (hw : H.wf) (hb : bc < H.n) {c : List AV} (hg : H'.get bc = some (.cells c true)) (hk : Keep (some bc) H H') : Sub (H.put bc c) H' := ⟨hk.1, fun b o h => by
  by_cases e : b = bc
  · subst e
    rw [get_put_new] at h
    cases h
    exact ⟨hg, hb⟩
  · rw [get_put_old e] at h
    have := hw _ _ h
    exact ⟨by rw [hk.2 b this (fun x => by cases x; exact e rfl)]; exact h, this⟩⟩
theorem ACall.cur {f : FuncId} {args : List AV} {R : AV → List AV → Prop} (hb : bc < H.n) (h : ACall P w0 f args H fun v H' => DoneC H bc H' v R) : ACall P w0 f args H fun v H' => ∃ c, H' = H.put bc c ∧ R v c := by
  intro σ w args' hS ha
  refine (h σ w args' hS ha).mono ?_
  rintro e w' ⟨σ', v, v', H', rfl, hle, hS', hv, c, hg, hc, hk, r, hz, hr⟩
  have hs := cur_sub hS.wf hb hg hk
  refine ⟨Sig.max w' (H.put bc c) σ', r, v', H.put bc c, rfl, ⟨fun b x hb => ?_, fun g i ci hf => ?_⟩, hS'.cut hs fun b o hb' => ?_, hz _ _ _ _ hS' hv, c, rfl, hr⟩
  · exact Sig.max_m (w := w') (H0 := H.put bc c) H.n (Nat.le_refl _) b x (hS.dom b x hb) (hle.m b x hb)
  · exact Sig.max_fr hS' hs g i ci (hle.fr g i ci hf)
  · by_cases e : b = bc
    · subst e
      rw [get_put_new] at hb'
      cases hb'
      exact ⟨fun cs wr e => by cases e; exact hc, fun es e => by cases e⟩
    · rw [get_put_old e] at hb'
      exact hS.rows_below hb'
theorem DoneC.flat {v : AV} {R : AV → List AV → Prop} {c : List AV} (hg : H'.get bc = some (.cells c true)) {m : Nat} (hc : CurOk c m) (hk : Keep (some bc) H H') (hf : v.flat = true) (hR : R v c) : DoneC H bc H' v R := ⟨c, hg, hc.under, hk, v, Fz.flat hf, hR⟩
theorem DoneC.same {v : AV} {R : AV → List AV → Prop} {c : List AV} (hw : H.wf) (hb : bc < H.n) (hg : H'.get bc = some (.cells c true)) {m : Nat} (hc : CurOk c m) (hk : Keep (some bc) H H') (hu : v.under H.n) (hR : R v c) : DoneC H bc H' v R :=
  ⟨c, hg, hc.under, hk, v, Fz.same (cur_sub hw hb hg hk) hu, hR⟩
theorem DoneC.mk {v r : AV} {R : AV → List AV → Prop} {c : List AV} (hw : H.wf) (hb : bc < H.n) (hg : H'.get bc = some (.cells c true)) {m : Nat} (hc : CurOk c m) (hk : Keep (some bc) H H') (hz : Sub (H.put bc c) H' → Fz H' (H.put bc c) v r) (hR : R r c) : DoneC H bc H' v R :=
  ⟨c, hg, hc.under, hk, r, hz (cur_sub hw hb hg hk), hR⟩
theorem run_doneC {v : AV} {R : AV → List AV → Prop} : Run (DoneC H bc H' v R) = DoneC H bc H' v R := nr rfl
/-- What a function with a drawing hand is entered by. -/
theorem ACall.enterC {f : FuncId} {fn : Func} {args : List AV} {R : AV → List AV → Prop} (hb : bc < H.n) (hmix : P.follows .mixedOrders = true) (hf : P.funcs[f]? = some fn) (hok : fnOk fn args.length = true)
    (h : H.wf → Run (wpC P w0 (fn.body.getD .skip) (fnEnd P fn.results.toList fun v H' => DoneC H bc H' v R) (argsEnv args) H)) : ACall P w0 f args H fun v H' => ∃ c, H' = H.put bc c ∧ R v c :=
  ACall.cur hb (ACall.wf fun hw => ACall.enter hmix hf hok (h hw))
theorem keep_put {bo : Option Nat} {c : Nat} {ds : List AV} (h : Keep bo H H') (hc : H.n ≤ c ∨ bo = some c) : Keep bo H (H'.put c ds) := ⟨h.1, fun d hd hne => by
  rw [get_put_old (fun e => by subst e; rcases hc with h | h; omega; exact hne h)]; exact h.2 d hd hne⟩
theorem keep_al {bo : Option Nat} {ds : List AV} (h : Keep bo H H') : Keep bo H (H'.alloc ds) := ⟨by have := h.1; show H.n ≤ H'.n + 1; omega, fun d hd hne => by
  rw [get_alloc_old (by have := h.1; omega)]; exact h.2 d hd hne⟩
theorem keep_tab {bo : Option Nat} {f : Nat → Nat → Bool} (h : Keep bo H H') : Keep bo H (tabH H' n f) := ⟨by have := h.1; show H.n ≤ H'.n + n; omega, fun d hd hne => by
  rw [tabH_old (by have := h.1; omega)]; exact h.2 d hd hne⟩
theorem keep_less {bo : Option Nat} (h : Keep bo H H') (hn : H.n ≤ n0) : Keep bo H (H'.less n0) := ⟨h.1, fun d hd hne => by
  rw [less_get (by omega)]; exact h.2 d hd hne⟩
def AnyB (v : AV) : Prop := ∃ r, v = .bool r
theorem curC_def {l : List Int} {pos s : Int} : curC l pos s = [.lst none l.length 1 (u8s l), .int .i64 pos, .int .u64 s] := rfl
/-- A drawn thing comes of bytes alone. -/
theorem PCall.draw {f : FuncId} {fn : Func} {args : List AV} {R : AV → Prop} (hmix : P.follows .mixedOrders = true) (hf : P.funcs[f]? = some fn) (hok : fnOk fn args.length = true)
    (h : ∀ (w0 : World) (H : Heap), H.wf → Run (wpC P w0 (fn.body.getD .skip) (fnEnd P fn.results.toList fun v H' => Done H H' v R) (argsEnv args) H)) : PCall P f args R := PCall.run hmix hf hok h
end
theorem put_alloc_eq {H : Heap} {b : Nat} {cs ds : List AV} (h : b = H.n) : (H.alloc cs).put b ds = H.alloc ds := by subst h; exact put_alloc
section
variable {P : Program} {w0 : World} {H : Heap} {K : AV → Heap → Prop}
theorem run_pureE {f : FuncId} {args args' : List AV} {R : AV → Prop} (h : PCall P f args' R) (e : args = args') (hk : ∀ v, R v → Run (K v H)) : ACall P w0 f args H K := by subst e; exact run_pure h hk
theorem run_pureBE {f : FuncId} {args args' : List AV} {p : Prop} (h : PCall P f args' (IsB p)) (e : args = args') (hk : ∀ b : Bool, (b = true ↔ p) → Run (K (.bool b) H)) : ACall P w0 f args H K := by subst e; exact run_pureB h hk
theorem lst_hi {e : TypeId} {t : Option Nat} {len sz : Nat} {cs : List AV} {k : IntKind} {l : Int} (h : 0 ≤ l) (h' : l ≤ len) : sliceT (.slice e sz) (.lst t len sz cs) none (some (.int k l)) = some (.lst none l.toNat sz (cs.take (l.toNat * sz))) := by
  rw [sliceT_lst bound_none (bound_int h) (by omega) (by omega)]
  simp
theorem lst_lo {e : TypeId} {t : Option Nat} {len sz : Nat} {cs : List AV} {k : IntKind} {l : Int} (h : 0 ≤ l) (h' : l ≤ len) : sliceT (.slice e sz) (.lst t len sz cs) (some (.int k l)) none = some (.lst none (len - l.toNat) sz ((cs.drop (l.toNat * sz)).take ((len - l.toNat) * sz))) :=
  sliceT_lst (bound_int h) bound_none (by omega) (by omega)
theorem lst_both {e : TypeId} {t : Option Nat} {len sz : Nat} {cs : List AV} {k k' : IntKind} {l m : Int} (h : 0 ≤ l) (h' : l ≤ m) (h'' : m ≤ len) : sliceT (.slice e sz) (.lst t len sz cs) (some (.int k l)) (some (.int k' m)) = some (.lst none (m.toNat - l.toNat) sz ((cs.drop (l.toNat * sz)).take ((m.toNat - l.toNat) * sz))) :=
  sliceT_lst (bound_int h) (bound_int (by omega)) (by omega) (by omega)
theorem ints_take (l : List Int) (k : Nat) : (ints l).take k = ints (l.take k) := by simp [ints, List.map_take]
theorem ints_drop (l : List Int) (k : Nat) : (ints l).drop k = ints (l.drop k) := by simp [ints, List.map_drop]
theorem bools_take (l : List Bool) (k : Nat) : (bools l).take k = bools (l.take k) := by simp [bools, List.map_take]
theorem bools_drop (l : List Bool) (k : Nat) : (bools l).drop k = bools (l.drop k) := by simp [bools, List.map_drop]
theorem ints_append (a b : List Int) : ints a ++ ints b = ints (a ++ b) := by simp [ints]
theorem ints_snoc (a : List Int) (x : Int) : ints a ++ [.int .i64 x] = ints (a ++ [x]) := by simp [ints]
end
theorem resA_2 {P : Program} {H : Heap} {E : Env} {x y : ResultVar} : resA P [x, y] E H = (resOne P E H x).bind fun a => (resOne P E H y).map fun b => .tuple [a, b] := by
  simp only [resA, List.mapM_cons, List.mapM_nil, Option.bind_eq_bind, Option.pure_def]
  cases resOne P E H x <;> cases resOne P E H y <;> rfl
theorem resA_3 {P : Program} {H : Heap} {E : Env} {x y z : ResultVar} : resA P [x, y, z] E H = (resOne P E H x).bind fun a => (resOne P E H y).bind fun b => (resOne P E H z).map fun c => .tuple [a, b, c] := by
  simp only [resA, List.mapM_cons, List.mapM_nil, Option.bind_eq_bind, Option.pure_def]
  cases resOne P E H x <;> cases resOne P E H y <;> cases resOne P E H z <;> rfl
theorem resOne_tmp {P : Program} {H : Heap} {E : Env} {t : Nat} : resOne P E H (.tmp t) = some (E t) := rfl
theorem resOne_cell {P : Program} {H : Heap} {E : Env} {c : Nat} {t : TypeId} : resOne P E H (.cell c t) = loadA P H t (E c) := rfl
attribute [simp] resA_2 resA_3 resOne_tmp resOne_cell
attribute [simp] lst_hi lst_lo lst_both
attribute [simp] put_alloc_eq
attribute [simp] run_doneC u8s_length u8s_get put_alloc_comm
end Go.Abs
