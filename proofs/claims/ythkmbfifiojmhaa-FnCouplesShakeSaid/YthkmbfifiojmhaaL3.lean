/- What the two arguments of bytes are found to be; the row of FnCouplesShake, proved. -/
import Derived.Test.YthkmbfifiojmhaaT21
import Derived.Test.YthkmbfifiojmhaaAbsX
import Derived.Test.YthkmbfifiojmhaaRows
import Derived.Lib.SmallJoins
import Derived.Deep.Slices
import Derived.Deep.Fields
import Derived.ChangeSame
import Derived.WalkKit
import Derived.ProofKit
import Derived.OpenShut
import Derived.ShutString
import Derived.ChangeOld
import Derived.Below
import Derived.Carry
import Derived.SizedLaws
set_option linter.unusedSimpArgs false
set_option linter.unusedVariables false
set_option maxRecDepth 100000
namespace Go.Proofs.Ythkmbfifiojmhaa.CouplesShakeRow
open Go.ChangeShapes Go.WideShapes Go.ChangeAt Go.RowKit Go.Joins Go.Deep
open Go.ChangeMaps (open_string shut_string)
open Go.Abs
theorem own : ownKnob Try.prog.godebug = none := by kernel_rfl
theorem laidOut : laidOutB Try.prog = true := by kernel_rfl
theorem add_at (a : Addr) (h : a.spot = none) (i : Nat) : a.add i = ⟨a.block, a.off + i, none⟩ := by
  obtain ⟨b, o, s⟩ := a
  simp at h
  subst h
  exact Addr.add_lit _ _ _
theorem vrs_bytes (σ : Sig) : ∀ l : List Int, VRs σ (u8s l) (l.map fun x => Value.int .u8 x)
  | [] => by simp [u8s, VRs]
  | x :: l => by
    have := vrs_bytes σ l
    simp only [u8s] at this
    simp [u8s, VRs, VR, this]
theorem found_bytes {H : Type} {enc : TypeId × Value → H} {W : World} {r : Reach} {base : Nat} {v : Value} {d : DataW H} {p : List MemPlace} (hv : Value.okWide Try.prog W r base 39 v) (h : DataW.Trod enc Try.prog W 0 (fun _ => true) true 39 v d p) :
    ∃ l : List Int, l.length < 2 ^ 63 ∧ (∀ x ∈ l, 0 ≤ x ∧ x < 256) ∧ VR (initSig W []) (bytesT l) v := by
  obtain ⟨a0, len, cap, rfl⟩ := okWide_slice Try.underlying39 hv
  obtain ⟨fuel, hf⟩ := h
  have hm : maxLen < 2 ^ 63 := by decide
  rcases open_ints Try.underlying39 Try.underlying5 (by kernel_rfl) hf with ⟨hcs, _⟩ | ⟨x, l, c, zs, hcs, _, hl, hml, hz, _, hcell, hwf⟩
  · simp [Value.cells] at hcs
    obtain ⟨rfl, rfl, rfl⟩ := hcs
    refine ⟨[], by simp, by simp, ?_⟩
    simp only [bytesT, VR]
    exact ⟨none, 0, [], rfl, Nat.le_refl _, by simp [u8s], by simp [u8s, VRs], fun j u hj => by simp at hj, fun b hb => by cases hb⟩
  · simp [Value.cells] at hcs
    obtain ⟨rfl, rfl, rfl⟩ := hcs
    have hspot : x.spot = none := by
      simp only [Value.okWide, Try.underlying39, Cell.okWide, Cell.ok, World.has] at hv
      exact hv.2.2.2.1
    have hzl : zs.length = cap := by simpa using hz
    have hlen : (zs.take len).length = len := by simp; omega
    refine ⟨zs.take len, by omega, fun z hz' => ?_, ?_⟩
    · have := hwf z (List.mem_of_mem_take hz')
      simp [Lit.wf, IntKind.min, IntKind.max, IntKind.signed, IntKind.bits] at this
      omega
    · simp only [bytesT, VR]
      refine ⟨some x, cap, (zs.take len).map fun z => Value.int .u8 z, by rw [hlen], by rw [hlen]; exact hl, by simp [u8s], vrs_bytes _ _, fun j u hj => ?_, fun b hb => by cases hb⟩
      have hjl : j < (zs.take len).length := by
        have := (List.getElem?_eq_some_iff.1 hj).1
        simpa using this
      obtain ⟨xb, xo, xs⟩ := x
      simp at hspot
      subst hspot
      refine ⟨xb, xo, CI.at u, rfl, rfl, ?_⟩
      have hc := hcell j (by omega)
      rw [add_at _ rfl] at hc
      have eu : u = .int .u8 (zs.getD j 0) := by
        rw [List.getElem?_map, List.getElem?_eq_getElem hjl] at hj
        simp at hj
        rw [← hj]
        simp [List.getD, show j < zs.length by omega]
      rw [← eu] at hc
      simp only [World.cell?] at hc
      simp only [initSig, World.cellIs]
      split at hc
      · rename_i C t f hg
        exact ⟨C, t, f, hg, by simpa using hc⟩
      · cases hc
set_option maxRecDepth 100000 in
theorem walk {H : Type} {enc : TypeId × Value → H} {W : World} {base : Nat} {v0 v1 : Value} {d0 d1 : DataW H} {p0 p1 : List MemPlace} (hv0 : Value.okWide Try.prog W .any base 39 v0) (hv1 : Value.okWide Try.prog W .any base 39 v1)
    (h0 : DataW.Trod enc Try.prog W 0 (fun _ => true) true 39 v0 d0 p0) (h1 : DataW.Trod enc Try.prog W 0 (fun _ => true) true 39 v1 d1 p1) :
    Calls Try.prog 4 #[v0, v1] W fun e w' => e = .returned (.bool true) ∧ Below W.heap.size W w' := by
  obtain ⟨l, hl, hb, hV0⟩ := found_bytes hv0 h0
  obtain ⟨l2, hl2, hb2, hV1⟩ := found_bytes hv1 h1
  refine ACall.calls (rs := []) (args := [bytesT l, bytesT l2]) (av := .bool true) ((law_ok l l2 hl hl2 hb hb2 _ _).mono fun v H' h => h.1) (init_sim _ fun b r hr => by simp at hr) ?_ (fun σ u hu => by simpa [VR] using hu)
  simp only [VRs]
  exact ⟨hV0, hV1, trivial⟩
set_option maxRecDepth 100000 in
theorem lifted (os : Os) (started : os.Started) (H : Type) (enc : TypeId × Value → H) :
    ReturnsInHanded {} Try.checked os 4 .any (Rows.fnCouplesShakeSpec.pre6 enc Try.prog Try.f4 Rows.fnCouplesShakeRow.domain false) (Rows.fnCouplesShakeSpec.post enc Try.prog Try.f4 false true false false) := by
  refine returnsInHanded_of_change_sized (C := Try.checked) own started (by kernel_rfl) Try.func4
    (ChangeSpec.witness6 (enc := enc) (C := Try.checked) false ⟨#[], #[.slice none 0 0, .slice none 0 0], []⟩ 8 (by kernel_rfl) (by kernel_rfl) (by kernel_rfl) (by kernel_rfl)) ?_
  intro W base args ds gs before hval0 hW hcnd hsz0 _
  have hval : ∀ (j : Nat) t v, Try.f4.params[j]? = some t → args[j]? = some v → Value.okWide Try.prog W .any base t v := hval0
  have hW' := hW
  obtain ⟨p, q, hA0, hV, rfl, hfz, hnd⟩ := hW
  have hA : DataW.TrodAll enc Try.prog W 0 (fun _ => true) true Try.f4.params.toList args.toList ds p := hA0
  rw [Try.params4] at hA hval
  obtain ⟨v0, vs0, d0, ds0, p0, q0, hargs, rfl, rfl, h0, r0⟩ := trodAll_cons hA
  obtain ⟨v1, vs1, d1, ds1, p1, q1, rfl, rfl, rfl, h1, r1⟩ := trodAll_cons r0
  obtain ⟨rfl, rfl, rfl⟩ := trodAll_nil r1
  obtain rfl : args = #[v0, v1] := by cases args; simp_all
  obtain ⟨rfl, rfl⟩ := trodVars_none hV
  have hv0 := hval 0 39 v0 rfl rfl
  have hv1 := hval 1 39 v1 rfl rfl
  have lt0 : ∀ x ∈ p0, x.block < W.heap.size := by obtain ⟨m, hm⟩ := h0; exact DataW.trod_lt m _ _ _ hm
  have lt1 : ∀ x ∈ p1, x.block < W.heap.size := by obtain ⟨m, hm⟩ := h1; exact DataW.trod_lt m _ _ _ hm
  clear hA0 hval0 hsz0
  refine (walk hv0 hv1 h0 h1).mono fun e W' ⟨he, bel⟩ => ?_
  subst he
  exact ⟨_, rfl, _, _, _, [], _, [], hW', trodAll_mk1 (shut_bool Try.underlying4 _), (trodAll_cons_mk (Below.trod laidOut (by kernel_rfl) (of_decide_eq_true (by kernel_rfl)) h0 bel lt0) (trodAll_cons_mk (Below.trod laidOut (by kernel_rfl) (of_decide_eq_true (by kernel_rfl)) h1 bel lt1) trodAll_mk0)), rfl, bel.frame _, fun h => by cases h⟩
theorem over : Rows.fnCouplesShakeRow.holds Try.pinned (OpenSpec.ofChange Rows.fnCouplesShakeSpec) :=
  OpenClaim.holds_of_wide 4 Try.f4 rfl rfl rfl rfl rfl rfl rfl ⟨rfl, rfl, rfl, rfl, rfl⟩ rfl rfl rfl rfl rfl (by kernel_rfl) Try.func4 (by kernel_rfl)
    (of_decide_eq_true (by kernel_rfl)) (by unfold Func.isWrapper; first | (rw [if_pos (by decide +kernel)]; kernel_rfl) | (rw [if_neg (by decide +kernel)]; exact ⟨rfl, rfl⟩))
    (fun os started H enc _ => lifted os started H enc)
theorem proved : Rows.FnCouplesShakeSaid := over
#print axioms proved
end Go.Proofs.Ythkmbfifiojmhaa.CouplesShakeRow
namespace Go.Proofs.Ythkmbfifiojmhaa
/-- The row, under a short name, for the claim. -/
theorem fnCouplesShake_holds : Rows.FnCouplesShakeSaid := CouplesShakeRow.proved
end Go.Proofs.Ythkmbfifiojmhaa
