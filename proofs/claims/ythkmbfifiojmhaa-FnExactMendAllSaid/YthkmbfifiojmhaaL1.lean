/- What the arguments are found to be. -/
import Derived.Test.YthkmbfifiojmhaaC13
import Derived.Test.YthkmbfifiojmhaaAbsX
import Derived.Test.YthkmbfifiojmhaaRows
import Derived.Lib.SmallJoins
import Derived.Deep.Slices
import Derived.Deep.Fields
import Derived.ChangeSame
import Derived.WalkKit
import Derived.ProofKit
import Derived.OpenShut
import Derived.ShutString
import Derived.ChangeOld
import Derived.Below
import Derived.Carry
import Derived.SizedLaws
set_option linter.unusedSimpArgs false
set_option linter.unusedVariables false
set_option maxRecDepth 100000
namespace Go.Proofs.Ythkmbfifiojmhaa
open Go.ChangeShapes Go.WideShapes Go.ChangeAt Go.RowKit Go.Joins Go.Deep
open Go.Abs
variable {H : Type} {enc : TypeId × Value → H} {W : World}
theorem add_at (a : Addr) (h : a.spot = none) (i : Nat) : a.add i = ⟨a.block, a.off + i, none⟩ := by
  obtain ⟨b, o, s⟩ := a
  simp at h
  subst h
  exact Addr.add_lit _ _ _
theorem found_ints {r : Reach} {base : Nat} {v : Value} {d : DataW H} {p : List MemPlace} (hv : Value.okWide Try.prog W r base 25 v) (h : DataW.Trod enc Try.prog W 0 (fun _ => true) true 25 v d p) :
    ∃ (f : FRow) (zs : List Int), zs.length < 2 ^ 63 ∧ (∀ i a, f.cs[i]? = some a → ∃ u, W.cell? ⟨f.g, f.o + i, none⟩ = some u ∧ ∀ σ, VR σ a u) ∧
      ∀ (rs : List FRow) (b : Nat), rs[b]? = some f → ∃ bo cap, VR (initSig rs) (.slice bo 0 zs.length 1 cap) v ∧ Row (initHeap rs) bo 0 (ints zs) := by
  obtain ⟨a0, len, cap, rfl⟩ := okWide_slice Try.underlying25 hv
  obtain ⟨fuel, hf⟩ := h
  have hm : maxLen < 2 ^ 63 := by decide
  rcases open_ints Try.underlying25 Try.underlying3 (by kernel_rfl) hf with ⟨hcs, _⟩ | ⟨x, l, c, zs, hcs, _, hl, hml, hz, _, hcell, _⟩
  · simp [Value.cells] at hcs
    obtain ⟨rfl, rfl, rfl⟩ := hcs
    exact ⟨⟨0, 0, []⟩, [], by simp, by simp, fun rs b _ => ⟨none, some 0, by simp [VR], .nil⟩⟩
  · simp [Value.cells] at hcs
    obtain ⟨rfl, rfl, rfl⟩ := hcs
    have hspot : x.spot = none := by
      simp only [Value.okWide, Try.underlying25, Cell.okWide, Cell.ok, World.has] at hv
      exact hv.2.2.2.1
    have hzl : zs.length = cap := by simpa using hz
    refine ⟨⟨x.block, x.off, ints zs⟩, zs.take len, by simp; omega, fun i a hi => ?_, fun rs b hr => ⟨some b, none, ?_, ?_⟩⟩
    · have hlt : i < zs.length := by
        have := (List.getElem?_eq_some_iff.1 hi).1
        simpa using this
      have := hcell i hlt
      rw [add_at x hspot] at this
      refine ⟨_, this, fun σ => ?_⟩
      have e : a = .int .i64 zs[i] := by
        have : (ints zs)[i]? = some (.int .i64 zs[i]) := by simp [ints, hlt]
        rw [this] at hi; cases hi; rfl
      subst e
      simp [VR, List.getD, hlt]
    · have e : (zs.take len).length = len := by simp; omega
      rw [e]
      obtain ⟨xb, xo, xs⟩ := x
      simp at hspot
      subst hspot
      exact init_slice hr hl (by simp [hzl])
    · have := init_row hr len
      simpa [ints, List.map_take] using this
theorem found_pairs {v : Value} {n : Nat} {y : DataW H × List MemPlace} (hspot : ∀ x len cap, v = .slice (some x) len cap → x.spot = none) (h : DataW.trod enc Try.prog W 0 (fun _ => true) true n 22 [v] = some y) :
    ∃ (f : FRow) (zs : List (Int × Int)), zs.length < 2 ^ 63 ∧ (∀ i a, f.cs[i]? = some a → ∃ u, W.cell? ⟨f.g, f.o + i, none⟩ = some u ∧ ∀ σ, VR σ a u) ∧
      ∀ (rs : List FRow) (b : Nat), rs[b]? = some f → ∃ bo cap, VR (initSig rs) (.slice bo 0 zs.length 2 cap) v ∧ Row (initHeap rs) bo 0 (pairs zs) := by
  have hm : maxLen < 2 ^ 63 := by decide
  rcases open_slice Try.underlying22 h with ⟨hcs, _⟩ | ⟨x, len, cap, m, n', D, Pl, hcs, _, hl, hml, hmm, _, hel⟩
  · simp at hcs
    subst hcs
    exact ⟨⟨0, 0, []⟩, [], by simp, by simp, fun rs b _ => ⟨none, some 0, by simp [VR], .nil⟩⟩
  · simp at hcs
    subst hcs
    have hsp := hspot x len cap rfl
    have hmc : m = cap := by simpa using hmm
    subst hmc
    have hc88 : Try.prog.cellsOf 88 = 2 := by kernel_rfl
    have hc3 : Try.prog.cellsOf 3 = 1 := by kernel_rfl
    have each : ∀ i, i < m → ∃ q : Int × Int, W.cell? ⟨x.block, x.off + i * 2, none⟩ = some (.int .i64 q.1) ∧ W.cell? ⟨x.block, x.off + (i * 2 + 1), none⟩ = some (.int .i64 q.2) := by
      intro i hi
      obtain ⟨cs', hc, ht⟩ := hel i hi
      rw [hc88] at hc
      obtain ⟨y0, y1, n2, _, hcl, t0, t1⟩ := trod_struct2 Try.underlying88 ht
      obtain ⟨_, hlen, hat⟩ := World.cells?_some hc
      obtain ⟨q0, e0, _, _⟩ := DataW.trod_int Try.underlying3 t0
      obtain ⟨q1, e1, _, _⟩ := DataW.trod_int Try.underlying3 t1
      have hl2 : cs'.length = 2 := by rw [hcl, hc88]
      match cs', hl2 with
      | [u0, u1], _ =>
        simp only [hc3] at e0 e1
        simp at e0 e1
        subst e0 e1
        have a0 := hat 0 (by omega)
        have a1 := hat 1 (by omega)
        rw [Go.Deep.add_add, add_at x hsp] at a0 a1
        exact ⟨(q0, q1), by simpa using a0, by simpa [Nat.add_assoc] using a1⟩
    obtain ⟨q, hq⟩ := choose_lt each
    obtain ⟨zs, hzs⟩ : ∃ zs, zs = (List.range m).map q := ⟨_, rfl⟩
    have hzl : zs.length = m := by rw [hzs]; simp
    have hzq : ∀ i (hi : i < zs.length), zs[i] = q i := by intro i hi; subst hzs; simp
    refine ⟨⟨x.block, x.off, pairs zs⟩, zs.take len, by simp; omega, fun i a hi => ?_, fun rs b hr => ⟨some b, none, ?_, ?_⟩⟩
    · have hlt : i < 2 * zs.length := by
        have := (List.getElem?_eq_some_iff.1 hi).1
        simpa using this
      rcases Nat.mod_two_eq_zero_or_one i with hp | hp
      · have ei : i = 2 * (i / 2) := by omega
        have hk : i / 2 < zs.length := by omega
        have := pairs_fst zs (i / 2) hk
        rw [← ei] at this
        have e : a = .int .i64 zs[i / 2].1 := by simp only at hi; rw [this] at hi; cases hi; rfl
        subst e
        refine ⟨_, by have := (hq (i / 2) (by omega)).1; rwa [show i / 2 * 2 = i by omega] at this, fun σ => ?_⟩
        simp [VR, hzq]
      · have ei : i = 2 * (i / 2) + 1 := by omega
        have hk : i / 2 < zs.length := by omega
        have := pairs_snd zs (i / 2) hk
        rw [← ei] at this
        have e : a = .int .i64 zs[i / 2].2 := by simp only at hi; rw [this] at hi; cases hi; rfl
        subst e
        refine ⟨_, by have := (hq (i / 2) (by omega)).2; rwa [show i / 2 * 2 + 1 = i by omega] at this, fun σ => ?_⟩
        simp [VR, hzq]
    · have e : (zs.take len).length = len := by simp; omega
      rw [e]
      obtain ⟨xb, xo, xs⟩ := x
      simp at hsp
      subst hsp
      exact init_slice hr hl (by simp [hzl]; omega)
    · have := init_row hr (2 * len)
      simpa [pairs_take zs len] using this
end Go.Proofs.Ythkmbfifiojmhaa
