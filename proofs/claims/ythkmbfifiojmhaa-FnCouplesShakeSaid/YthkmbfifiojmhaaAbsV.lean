/- Tables whose rows are the bits of small numbers. -/
import Derived.Test.YthkmbfifiojmhaaAbsU
import Derived.Laws.BitsAllLaws
set_option linter.unusedSimpArgs false
set_option linter.unusedVariables false
namespace Go.Abs
open Go.RowKit
def u16s (l : List Nat) : List AV := l.map fun (x : Nat) => AV.int .u16 (x : Int)
def wShr (x b : Nat) : Nat := x >>> b
def wOne (x : Nat) : Nat := x % 2
def wOr (x y : Nat) : Nat := x ||| y
def wPow (b : Nat) : Nat := 2 ^ b
/-- Rows told by a function of two people. -/
def Words (n : Nat) (f : Nat → Nat → Bool) (ws : List Nat) : Prop := ws.length = n ∧ ∀ a (h : a < ws.length), ws[a] < 65536 ∧ ∀ x, ws[a].testBit x = (decide (x < n) && f a x)
def WTab (H : Heap) (v : AV) (n : Nat) (f : Nat → Nat → Bool) : Prop := ∃ b off cap ws, v = .slice b off n 1 cap ∧ Row H b off (u16s ws) ∧ Words n f ws
section
variable {P : Program} {w0 : World} {H H' : Heap} {K : AV → Heap → Prop} {n : Nat} {b : Option Nat} {off : Nat} {f : Nat → Nat → Bool}
theorem WTab.ext {v : AV} (h : WTab H v n f) (hw : H.wf) (he : Ext H H') : WTab H' v n f := by
  obtain ⟨b, off, cap, ws, rfl, h1, h2⟩ := h
  exact ⟨b, off, cap, ws, rfl, h1.ext hw he, h2⟩
theorem u16s_length (l : List Nat) : (u16s l).length = l.length := by simp [u16s]
theorem Row.u16 {l : List Nat} (h : Row H b off (u16s l)) {t : TypeId} {k : Nat} (hl : P.lk t = some (false, 1)) (hk : k < l.length) : loadA P H t (.ptr b (off + k)) = some (.int .u16 (l[k] : Int)) := by
  rw [h.one hl (by simpa [u16s] using hk)]; simp [u16s]
theorem shl_u16 {t : TypeId} {k : IntKind} {b : Int} (h : 0 ≤ b) (h' : b < 16) : binA P .shl t (.int .u16 1) (.int k b) = some (.int .u16 (wPow b.toNat : Int)) := by
  rw [bin_shl h]
  have e : min b.toNat (IntKind.bits .u16) = b.toNat := by simp [IntKind.bits]; omega
  rw [e, IntKind.wrap_u16]
  congr 2
  have hb : b.toNat < 16 := by omega
  unfold wPow
  generalize b.toNat = m at *
  have : m = 0 ∨ m = 1 ∨ m = 2 ∨ m = 3 ∨ m = 4 ∨ m = 5 ∨ m = 6 ∨ m = 7 ∨ m = 8 ∨ m = 9 ∨ m = 10 ∨ m = 11 ∨ m = 12 ∨ m = 13 ∨ m = 14 ∨ m = 15 := by omega
  rcases this with rfl | rfl | rfl | rfl | rfl | rfl | rfl | rfl | rfl | rfl | rfl | rfl | rfl | rfl | rfl | rfl <;> rfl
theorem shr_u16 {t : TypeId} {k : IntKind} {x : Nat} {b : Int} (h : 0 ≤ b) (h' : b < 16) : binA P .shr t (.int .u16 (x : Int)) (.int k b) = some (.int .u16 (wShr x b.toNat : Int)) := by
  rw [bin_shr h]
  have e : min b.toNat (IntKind.bits .u16) = b.toNat := by simp [IntKind.bits]; omega
  rw [e]
  congr 2
  unfold wShr
  rw [Nat.shiftRight_eq_div_pow, Int.fdiv_eq_ediv_of_nonneg _ (by exact_mod_cast Nat.zero_le _), Int.natCast_ediv]
  simp
theorem and_one_u16 {t : TypeId} {x : Nat} (h : x < 65536) : binA P .and t (.int .u16 (x : Int)) (.int .u16 1) = some (.int .u16 (wOne x : Int)) := by
  rw [bin_and]
  rw [show (1 : Int) = ((1 : Nat) : Int) from rfl, u16_and_nat x 1 h (by omega), Nat.and_one_is_mod]
  rfl
theorem or_u16 {t : TypeId} {x y : Nat} (h : x < 65536) (h' : y < 65536) : binA P .or t (.int .u16 (x : Int)) (.int .u16 (y : Int)) = some (.int .u16 (wOr x y : Int)) := by
  rw [bin_or, u16_or_nat x y h h']; rfl
theorem wShr_lt {x b : Nat} (h : x < 65536) : wShr x b < 65536 := by
  unfold wShr; rw [Nat.shiftRight_eq_div_pow]; exact Nat.lt_of_le_of_lt (Nat.div_le_self _ _) h
theorem wPow_lt {b : Nat} (h : b < 16) : wPow b < 65536 := by
  unfold wPow; exact Nat.pow_lt_pow_right (by omega) h
theorem wOr_lt {x y : Nat} (h : x < 65536) (h' : y < 65536) : wOr x y < 65536 := by
  unfold wOr; exact Nat.or_lt_two_pow (n := 16) h h'
theorem wOne_shr {x b : Nat} : (wOne (wShr x b) : Int) = 1 ↔ x.testBit b = true := by
  unfold wOne wShr
  have : (x >>> b).testBit 0 = x.testBit (b + 0) := by rw [Nat.testBit_shiftRight]
  rw [Nat.add_zero] at this
  rw [← this, Nat.testBit_zero, decide_eq_true_eq]
  omega
theorem wOr_bit {x b y : Nat} : (wOr x (wPow b)).testBit y = (decide (y = b) || x.testBit y) := by
  unfold wOr wPow
  rw [Nat.testBit_or, Nat.testBit_two_pow, Bool.or_comm]
  by_cases h : b = y <;> simp [h, eq_comm]
theorem Words.set {ws : List Nat} (h : Words n f ws) (hn : n ≤ 16) {a x : Nat} (ha : a < n) (hx : x < n) : Words n (updT f a x true) (ws.set a (wOr (ws[a]'(by rw [h.1]; exact ha)) (wPow x))) := by
  obtain ⟨h1, h2⟩ := h
  refine ⟨by simp [h1], fun c hc => ?_⟩
  have hc' : c < ws.length := by simpa using hc
  rw [List.getElem_set]
  by_cases e : a = c
  · subst e
    rw [if_pos rfl]
    refine ⟨wOr_lt (h2 a hc').1 (wPow_lt (by omega)), fun y => ?_⟩
    rw [wOr_bit, (h2 a hc').2 y]
    by_cases e2 : y = x
    · subst e2; simp [updT, hx]
    · simp [updT, e2]
  · rw [if_neg e]
    refine ⟨(h2 c hc').1, fun y => ?_⟩
    rw [(h2 c hc').2 y]
    simp [updT, Ne.symm e, show ¬ c = a from fun q => e q.symm]
theorem Words.zero : Words n (fun _ _ => false) (List.replicate n 0) := by
  refine ⟨by simp, fun a h => ?_⟩
  simp
theorem splice_u16s {l : List Nat} {k : Nat} {x : Nat} (hk : k < l.length) : splice (u16s l) k [.int .u16 (x : Int)] = u16s (l.set k x) := by
  apply List.ext_getElem?
  intro i
  simp only [splice, u16s, List.getElem?_append, List.getElem?_take, List.getElem?_drop, List.length_append, List.length_take, List.length_map, List.length_cons, List.length_nil, List.getElem?_map, List.getElem?_set]
  rcases Nat.lt_trichotomy i k with h | h | h
  · simp [show i < min k l.length + (0 + 1) by omega, show i < min k l.length by omega, h, show ¬ k = i by omega]
  · subst h; simp [show i < min i l.length + 1 by omega, show ¬ i < min i l.length by omega, show i - min i l.length = 0 by omega, hk]
  · simp [show ¬ i < min k l.length + 1 by omega, show k + 1 + (i - (min k l.length + 1)) = i by omega, show ¬ k = i by omega]
theorem u16s_zero (n : Nat) : List.replicate n (AV.int .u16 0) = u16s (List.replicate n 0) := by simp [u16s]
theorem bin_snil {t : TypeId} {len sz o l s : Nat} {cap c : Option Nat} : binA P .eql t (.slice b off len sz cap) (.slice none o l s c) = (match P.tk t with | .slice _ _ => some (.bool b.isNone) | _ => none) := by
  unfold binA; cases P.tk t <;> rfl
theorem bin_snnil {t : TypeId} {len sz o l s : Nat} {cap c : Option Nat} : binA P .neq t (.slice b off len sz cap) (.slice none o l s c) = (match P.tk t with | .slice _ _ => some (.bool b.isSome) | _ => none) := by
  unfold binA; cases P.tk t <;> rfl
theorem Row.of_none {cs : List AV} (h : Row H none off cs) : cs = [] := by
  rcases row_iff.1 h with h | ⟨_, _, _, h, _⟩
  · exact h
  · cases h
end
attribute [simp] bin_snil bin_snnil u16s_length
end Go.Abs
