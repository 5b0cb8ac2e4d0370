/- Bits counted; the program's tables written and turned to parties. -/
import Derived.Test.YthkmbfifiojmhaaT7
set_option linter.unusedSimpArgs false
set_option linter.unusedVariables false
set_option maxRecDepth 100000
namespace Go.Proofs.Ythkmbfifiojmhaa
open Go.Abs
variable {w0 : World} {H : Heap}
theorem put_ok (b n : Nat) (f : Nat → Nat → Bool) (x y : Int) (cap : Option Nat) (hn : n ≤ 16) (hx : 0 ≤ x ∧ x < n) (hy : 0 ≤ y ∧ y < n) (hg : H.get b = some (.cells (u16s (wordsAt n f)) true)) :
    ACall Try.prog w0 56 [.slice (some b) 0 n 1 cap, .int .i64 x, .int .i64 y] H fun v H' => v = .tuple [] ∧ H' = H.put b (u16s (wordsAt n (updT (updT f x.toNat y.toNat true) y.toNat x.toNat true))) := by
  have hW := wordsAt_ok hn f
  have hlt := wordsAt_length (n := n) (f := f)
  have pA := wPow_lt (b := y.toNat) (by omega)
  have pB := wPow_lt (b := x.toNat) (by omega)
  have wA := (hW.2 x.toNat (by omega)).1
  have hW2 := hW.set (by omega) (show x.toNat < n by omega) (show y.toNat < n by omega)
  obtain ⟨ws2, hws⟩ : ∃ ws2, ws2 = (wordsAt n f).set x.toNat (wOr ((wordsAt n f)[x.toNat]'(by omega)) (wPow y.toNat)) := ⟨_, rfl⟩
  rw [← hws] at hW2
  have hlen2 := hW2.1
  have wB := (hW2.2 y.toNat (by omega)).1
  have hW3 := hW2.set (by omega) (show y.toNat < n by omega) (show x.toNat < n by omega)
  refine ACall.enterW mix Try.func56 (by kernel_rfl) fun hw => ?_
  simp (disch := first | omega | (simp only [n_alloc, n_put, n_kill, n_allocT, n_tabH, n_less]; omega) | (simp; done) | fail) [Try.f56]
  refine run_any plan56_0 (by kernel_rfl) ?_
  simp (disch := first | omega | (simp only [n_alloc, n_put, n_kill, n_allocT, n_tabH, n_less]; omega) | (simp; done) | fail) [plan56_0, hg, shl_u16, or_u16 wA pA, -bin_shl, -bin_or, splice_u16s]
  refine ⟨by omega, ?_⟩
  rw [← hws]
  refine run_any plan56_1 (by kernel_rfl) ?_
  simp (disch := first | omega | (simp only [n_alloc, n_put, n_kill, n_allocT, n_tabH, n_less]; omega) | (simp; done) | fail) [plan56_1, hg, shl_u16, or_u16 wB pB, -bin_shl, -bin_or, splice_u16s]
  refine ⟨by omega, ?_⟩
  rw [← hW3.eq hn]
def pc8 (k : Nat) : Nat := (List.range 8).countP fun i => k.testBit i
def popL : List UInt8 := (List.range 256).map fun k => UInt8.ofNat (pc8 k)
theorem pc8_le (k : Nat) : pc8 k ≤ 8 := by
  have := List.countP_le_length (p := fun i => k.testBit i) (l := List.range 8)
  simpa [pc8] using this
theorem run_pop {L : List UInt8} {k : Nat} {K : AV → Heap → Prop} (hk : k < 256) (hL : L = popL) (h : Run (K (.int .u8 (pc8 k : Nat)) H)) : RunO (Option.map (fun (c : UInt8) => AV.int .u8 c.toNat) L[k]?) K H := by
  have e : L[k]? = some (UInt8.ofNat (pc8 k)) := by
    subst hL
    simp [popL, hk]
  have := pc8_le k
  have e2 : (UInt8.ofNat (pc8 k)).toNat = pc8 k := by simp; omega
  rw [e]
  simp only [Option.map_some, e2]
  exact h
theorem pc16 (x : Nat) (hx : x < 65536) : (List.range 16).countP (fun i => x.testBit i) = pc8 (x / 256) + pc8 (x % 256) := by
  have e : List.range 16 = List.range 8 ++ (List.range 8).map (· + 8) := by decide
  rw [e, List.countP_append, List.countP_map, Nat.add_comm]
  unfold pc8
  congr 1
  · apply List.countP_congr
    intro i hi
    simp only [Function.comp]
    rw [show x / 256 = x >>> 8 from (Nat.shiftRight_eq_div_pow x 8).symm, Nat.testBit_shiftRight, Nat.add_comm]
  · apply List.countP_congr
    intro i hi
    have := List.mem_range.1 hi
    rw [show x % 256 = x % 2 ^ 8 from rfl, Nat.testBit_mod_two_pow]
    simp [this]
theorem onesCount_ok (x : Nat) (hx : x < 65536) : PCall Try.prog 80 [.int .u16 (x : Int)] fun v => v = .int .i64 ((List.range 16).countP fun i => x.testBit i) := by
  refine PCall.run mix Try.func80 (by kernel_rfl) fun w0 H hw => ?_
  simp (disch := first | omega | (simp only [n_alloc, n_put, n_kill, n_allocT, n_tabH, n_less]; omega) | (simp; done) | fail) [Try.f80]
  refine run_any plan80_1 (by kernel_rfl) ?_
  have e1 : binA Try.prog .shr 90 (.int .u16 (x : Int)) (.int .u64 8) = some (.int .u16 ((x / 256 : Nat) : Int)) := by
    have := shr_u16 (P := Try.prog) (t := 90) (k := .u64) (x := x) (b := 8) (by omega) (by omega)
    rw [this]
    simp [wShr, Nat.shiftRight_eq_div_pow]
  have e2 : binA Try.prog .and 90 (.int .u16 (x : Int)) (.int .u16 255) = some (.int .u16 ((x % 256 : Nat) : Int)) := by
    have := bin_and (P := Try.prog) (t := 90) (k := .u16) (a := (x : Int)) (b := 255)
    rw [this]
    rw [u16_and _ 255 (by omega) (by omega) (by omega) (by omega)]
    have : (x : Int).toNat &&& (255 : Int).toNat = x % 256 := Nat.and_two_pow_sub_one_eq_mod x 8
    rw [this]
  have t1 : ((x : Int) / 256).toNat = x / 256 := by omega
  have t2 : ((x : Int) % 256).toNat = x % 256 := by omega
  have b1 := pc8_le (x / 256)
  have b2 := pc8_le (x % 256)
  simp (disch := first | omega | (simp only [n_alloc, n_put, n_kill, n_allocT, n_tabH, n_less]; omega) | (simp; done) | fail) [plan80_1, e1, e2, -bin_shr, -bin_and, t1, t2]
  refine run_pop (by omega) (by decide) ?_
  simp (disch := first | omega | (simp only [n_alloc, n_put, n_kill, n_allocT, n_tabH, n_less]; omega) | (simp; done) | fail) [e1, e2, -bin_shr, -bin_and, t1, t2]
  refine run_pop (by omega) (by decide) ?_
  have w1 : IntKind.u8.wrap ((pc8 (x / 256) : Int) + (pc8 (x % 256) : Int)) = (pc8 (x / 256) : Int) + (pc8 (x % 256) : Int) := wrap_u8 (by omega) (by omega)
  simp (disch := first | omega | (simp only [n_alloc, n_put, n_kill, n_allocT, n_tabH, n_less]; omega) | (simp; done) | fail) [w1]
  refine Done.flat (Ext.refl _) rfl ?_
  rw [pc16 x hx]
  simp
end Go.Proofs.Ythkmbfifiojmhaa
