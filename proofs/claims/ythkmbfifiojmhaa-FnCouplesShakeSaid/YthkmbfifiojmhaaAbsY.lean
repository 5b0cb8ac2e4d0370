/- Conversions and addresses, in a form that simp takes. -/
import Derived.Test.YthkmbfifiojmhaaAbsX
set_option linter.unusedSimpArgs false
set_option linter.unusedVariables false
namespace Go.Abs
open Go.RowKit
section
variable {P : Program} {w0 : World} {H : Heap} {E : Env} {K : AV → Heap → Prop} {t u : TypeId} {x : Operand}
def convR (P : Program) (k : TK) (t u : TypeId) (v : AV) (H : Heap) (K : AV → Heap → Prop) : Prop := match k with | .int _ => RunO (convA P t u v) K H | _ => bytesStrA P t u v H K
theorem run_convert : Run (opA P w0 (.convert t u x) E H K) = convR P (P.tk u) t u (ev E x) H K := by
  unfold convR
  split
  · rename_i k hk
    exact run_conv hk
  · rename_i hk
    have : isEA P (.convert t u x) = true := by
      show (match P.tk u with | .int _ => false | _ => true) = true
      cases h : P.tk u with
      | int k => exact absurd h (hk k)
      | _ => rfl
    rw [run_ea this]
    rfl
theorem convR_int {k : IntKind} {v : AV} : convR P (.int k) t u v H K = RunO (convA P t u v) K H := rfl
theorem convR_str {v : AV} : convR P .str t u v H K = bytesStrA P t u v H K := rfl
def convT (k : TK) (b : Bool) (a : Int) : Option AV := match k, b with | .int k', true => some (.int k' (k'.wrap a)) | _, _ => none
theorem conv_int {k : IntKind} {a : Int} : convA P t u (.int k a) = convT (P.tk u) (P.underlying t).isSome a := by
  unfold convA convT
  cases P.tk u <;> cases (P.underlying t).isSome <;> rfl
theorem convT_int {k : IntKind} {a : Int} : convT (.int k) true a = some (.int k (k.wrap a)) := rfl
theorem nilc_some {b o : Nat} : nilCheckA (.ptr (some b) o) = some (.ptr (some b) o) := rfl
theorem valid_u64 (n : Int) : 0 ≤ IntKind.u64.wrap n ∧ IntKind.u64.wrap n < 18446744073709551616 := by
  simp only [IntKind.wrap, IntKind.signed, IntKind.bits]
  simp
  omega
theorem appendR_nil_sz {t u e : TypeId} {sz sz1 off len n off2 sz2 : Nat} {b2 cap cap2 : Option Nat} (ht : P.tk t = .slice e sz) (hn : n ≠ 0) :
    appendR P t u (.slice none off len sz1 cap) (.slice b2 off2 n sz2 cap2) H K = appendR P t u (.slice none off len sz cap) (.slice b2 off2 n sz2 cap2) H K := by
  unfold appendR
  rw [ht]
  cases P.tk u with
  | slice e' s' =>
    simp only [hn, if_false, or_true, true_or, or_self]
  | _ => rfl
/-- Arguments told otherwise: a nil slice bears no size. -/
theorem ACall.recast {f : FuncId} {args args' : List AV} (h : ∀ σ (vs : List Value), VRs σ args vs → VRs σ args' vs) (hc : ACall P w0 f args' H K) : ACall P w0 f args H K := fun σ w a hS ha => hc σ w a hS (h σ _ ha)
theorem VR_nil {σ : Sig} {off len s s' : Nat} {cap : Option Nat} {v : Value} (h : VR σ (.slice none off len s cap) v) : VR σ (.slice none off len s' cap) v := by
  simp only [VR] at h ⊢
  exact h
theorem VR_party {σ : Sig} {n : Int} {off len s s' : Nat} {cap : Option Nat} {v : Value} (h : VR σ (.agg [.int .i64 n, .slice none off len s cap]) v) : VR σ (.agg [.int .i64 n, .slice none off len s' cap]) v := by
  simp only [VR] at h ⊢
  obtain ⟨cs, rfl, h⟩ := h
  refine ⟨cs, rfl, ?_⟩
  match hcs : cs.toList, h with
  | [a, b], h =>
    simp only [VRs, VR] at h ⊢
    exact h
/-- A slice of one's own that may still be nil as a zero value is. -/
def OwnS (n0 : Nat) (H : Heap) (v : AV) (len sz : Nat) (cs : List AV) : Prop := (v = .slice none 0 0 1 (some 0) ∧ len = 0 ∧ cs = []) ∨ OwnV n0 H v len sz cs
theorem OwnS.len {n0 len sz : Nat} {v : AV} {cs : List AV} (h : OwnS n0 H v len sz cs) : ∃ b off s cap, v = .slice b off len s cap := by
  rcases h with ⟨rfl, rfl, rfl⟩ | ⟨b, off, cap, rfl, _⟩
  · exact ⟨_, _, _, _, rfl⟩
  · exact ⟨_, _, _, _, rfl⟩
theorem append_oneS {u : TypeId} {n0 len sz sz2 : Nat} {cap2 : Option Nat} {v : AV} {cs new : List AV} (hO : OwnS n0 H v len sz cs) (hw : H.wf) (hn0 : n0 ≤ H.n) (ht : sliceOk P t sz (len + 1)) (hu : isSlice P u = true) (hs : 0 < sz) (hn : new.length = sz) (hone : new.all AV.one = true) (hb2 : len + 1 ≤ 140737488355328)
    (hK : ∀ v' H', OwnV n0 H' v' (len + 1) sz (cs ++ new) → H.n ≤ H'.n → (∀ c, c < n0 → H'.get c = H.get c) → Run (K v' H')) :
    appendA P t u v (.slice (some H.n) 0 1 sz2 cap2) (H.alloc new) K := by
  have key : ∀ b off cap, OwnAt n0 H b off len sz cap cs → appendA P t u (.slice b off len sz cap) (.slice (some H.n) 0 1 sz2 cap2) (H.alloc new) K := by
    intro b off cap h
    refine append_one h hw hn0 ht hu hs hn hone hb2 fun b' off' cap' H' h1 h2 h3 => hK _ _ h1.v h2.1 fun c hc => ?_
    exact h2.2 c (by omega) (fun e => by have := h.base c e; omega)
  rcases hO with ⟨rfl, rfl, rfl⟩ | ⟨b, off, cap, rfl, h⟩
  · have hk : ∃ e, P.tk t = .slice e sz := by
      unfold sliceOk at ht
      split at ht
      · rename_i e s hk; obtain ⟨rfl, _⟩ := ht; exact ⟨e, hk⟩
      · exact ht.elim
    obtain ⟨e, hk⟩ := hk
    rcases key none 0 (some 0) OwnAt.nil with h | h
    · refine .inl ?_
      rw [appendR_nil_sz hk (by omega)]
      exact h
    · refine .inr ?_
      unfold appendL at h ⊢
      rw [hk] at h ⊢
      revert h
      cases P.tk u <;> simp [endOf, lenOf]
  · exact key b off cap h
theorem build_struct {fs : List FK} {n : Nat} {z : Value} {ps : List (Nat × AV)} : buildA (.struct fs) (some (n, z)) ps = (fillA (fun i => (fs[i]?).map fun f => (f.off, f.size)) (absV z).cells ps).map .agg := rfl
end
attribute [simp] build_struct fillA
attribute [simp] run_convert convR_int convR_str conv_int convT_int nilc_some
end Go.Abs
