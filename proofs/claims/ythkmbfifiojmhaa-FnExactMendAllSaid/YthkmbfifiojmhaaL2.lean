/- The row of FnExactMendAll, proved. -/
import Derived.Test.YthkmbfifiojmhaaL1
set_option linter.unusedSimpArgs false
set_option linter.unusedVariables false
namespace Go.Proofs.Ythkmbfifiojmhaa.MendAllRow
open Go.ChangeShapes Go.WideShapes Go.ChangeAt Go.RowKit Go.Joins Go.Deep
open Go.ChangeMaps (open_string shut_string)
open Go.Abs
theorem own : ownKnob Try.prog.godebug = none := by kernel_rfl
theorem laidOut : laidOutB Try.prog = true := by kernel_rfl
set_option maxRecDepth 100000 in
theorem walk {H : Type} {enc : TypeId × Value → H} {W : World} {base : Nat} {v0 v1 : Value} {d0 d1 : DataW H} {p0 p1 : List MemPlace} (hv0 : Value.okWide Try.prog W .any base 24 v0) (hv1 : Value.okWide Try.prog W .any base 25 v1)
    (h0 : DataW.Trod enc Try.prog W 0 (fun _ => true) true 24 v0 d0 p0) (h1 : DataW.Trod enc Try.prog W 0 (fun _ => true) true 25 v1 d1 p1) :
    Calls Try.prog 3 #[v0, v1] W fun e w' => e = .returned (.bool true) ∧ Below W.heap.size W w' := by
  have hok := hv0
  obtain ⟨u0, u1, y0, y1, n, rfl, _, _, t0, t1⟩ := open_agg2 Try.underlying24 (by kernel_rfl) (by kernel_rfl) hv0 h0
  obtain ⟨k, e0, _, _⟩ := DataW.trod_int Try.underlying3 t0
  simp at e0
  subst e0
  have hspot : ∀ x len cap, u1 = .slice (some x) len cap → x.spot = none := by
    intro x len cap e
    subst e
    simp only [Value.okWide, Try.underlying24] at hok
    obtain ⟨cs, hcs, _, ts, hts, _, hall⟩ := hok
    cases hcs
    have hct : Try.prog.cellTypes Try.prog.depth 24 = some [3, 22] := by kernel_rfl
    rw [hct] at hts
    cases hts
    obtain ⟨u, hu, hc⟩ := hall 1 _ rfl
    simp at hu
    subst hu
    simp only [Cell.okWide, Try.underlying22, Cell.ok, World.has] at hc
    exact hc.2.2.2.1
  obtain ⟨f0, ps, hpl, hc0, hr0⟩ := found_pairs hspot t1
  obtain ⟨f1, a, hal, hc1, hr1⟩ := found_ints hv1 h1
  obtain ⟨b0, cap0, hV0, hR0⟩ := hr0 [f0, f1] 0 rfl
  obtain ⟨b1, cap1, hV1, hR1⟩ := hr1 [f0, f1] 1 rfl
  refine ACall.calls (rs := [f0, f1]) (args := [.agg [.int .i64 k, .slice b0 0 ps.length 2 cap0], .slice b1 0 a.length 1 cap1]) (av := .bool true) ?_ (init_sim _ fun b r hr i c hi => ?_) ?_ (fun σ u hu => by simpa [VR] using hu)
  · exact law_ok _ _ k ps a hpl hal ⟨b0, 0, cap0, rfl, hR0⟩ ⟨b1, 0, cap1, rfl, hR1⟩
  · match b, hr with
    | 0, hr => simp at hr; subst hr; obtain ⟨v, q1, q2⟩ := hc0 i c hi; exact ⟨v, q1, q2 _⟩
    | 1, hr => simp at hr; subst hr; obtain ⟨v, q1, q2⟩ := hc1 i c hi; exact ⟨v, q1, q2 _⟩
    | b + 2, hr => simp at hr
  · simp only [VRs]
    refine ⟨?_, hV1, trivial⟩
    simp only [VR]
    refine ⟨_, rfl, ?_⟩
    simp only [VRs]
    exact ⟨by simp [VR], hV0, trivial⟩
set_option maxRecDepth 100000 in
theorem lifted (os : Os) (started : os.Started) (H : Type) (enc : TypeId × Value → H) :
    ReturnsInHanded {} Try.checked os 3 .any (Rows.fnExactMendAllSpec.pre6 enc Try.prog Try.f3 Rows.fnExactMendAllRow.domain false) (Rows.fnExactMendAllSpec.post enc Try.prog Try.f3 false true false false) := by
  refine returnsInHanded_of_change_sized (C := Try.checked) own started (by kernel_rfl) Try.func3
    (ChangeSpec.witness6 (enc := enc) (C := Try.checked) false ⟨#[], #[.agg #[.int .i64 0, .slice none 0 0], .slice none 0 0], []⟩ 8 (by kernel_rfl) (by kernel_rfl) (by kernel_rfl) (by kernel_rfl)) ?_
  intro W base args ds gs before hval0 hW hcnd hsz0 _
  have hval : ∀ (j : Nat) t v, Try.f3.params[j]? = some t → args[j]? = some v → Value.okWide Try.prog W .any base t v := hval0
  have hW' := hW
  obtain ⟨p, q, hA0, hV, rfl, hfz, hnd⟩ := hW
  have hA : DataW.TrodAll enc Try.prog W 0 (fun _ => true) true Try.f3.params.toList args.toList ds p := hA0
  rw [Try.params3] at hA hval
  obtain ⟨v0, vs0, d0, ds0, p0, q0, hargs, rfl, rfl, h0, r0⟩ := trodAll_cons hA
  obtain ⟨v1, vs1, d1, ds1, p1, q1, rfl, rfl, rfl, h1, r1⟩ := trodAll_cons r0
  obtain ⟨rfl, rfl, rfl⟩ := trodAll_nil r1
  obtain rfl : args = #[v0, v1] := by cases args; simp_all
  obtain ⟨rfl, rfl⟩ := trodVars_none hV
  have hv0 := hval 0 24 v0 rfl rfl
  have hv1 := hval 1 25 v1 rfl rfl
  have lt0 : ∀ x ∈ p0, x.block < W.heap.size := by obtain ⟨m, hm⟩ := h0; exact DataW.trod_lt m _ _ _ hm
  have lt1 : ∀ x ∈ p1, x.block < W.heap.size := by obtain ⟨m, hm⟩ := h1; exact DataW.trod_lt m _ _ _ hm
  clear hA0 hval0 hsz0
  refine (walk hv0 hv1 h0 h1).mono fun e W' ⟨he, bel⟩ => ?_
  subst he
  exact ⟨_, rfl, _, _, _, [], _, [], hW', trodAll_mk1 (shut_bool Try.underlying4 _), (trodAll_cons_mk (Below.trod laidOut (by kernel_rfl) (of_decide_eq_true (by kernel_rfl)) h0 bel lt0) (trodAll_cons_mk (Below.trod laidOut (by kernel_rfl) (of_decide_eq_true (by kernel_rfl)) h1 bel lt1) trodAll_mk0)), rfl, bel.frame _, fun h => by cases h⟩
theorem over : Rows.fnExactMendAllRow.holds Try.pinned (OpenSpec.ofChange Rows.fnExactMendAllSpec) :=
  OpenClaim.holds_of_wide 3 Try.f3 rfl rfl rfl rfl rfl rfl rfl ⟨rfl, rfl, rfl, rfl, rfl⟩ rfl rfl rfl rfl rfl (by kernel_rfl) Try.func3 (by kernel_rfl)
    (of_decide_eq_true (by kernel_rfl)) (by unfold Func.isWrapper; first | (rw [if_pos (by decide +kernel)]; kernel_rfl) | (rw [if_neg (by decide +kernel)]; exact ⟨rfl, rfl⟩))
    (fun os started H enc _ => lifted os started H enc)
theorem proved : Rows.FnExactMendAllSaid := over
#print axioms proved
end Go.Proofs.Ythkmbfifiojmhaa.MendAllRow
namespace Go.Proofs.Ythkmbfifiojmhaa
/-- The row, under a short name, for the claim. -/
theorem fnExactMendAll_holds : Rows.FnExactMendAllSaid := MendAllRow.proved
end Go.Proofs.Ythkmbfifiojmhaa
