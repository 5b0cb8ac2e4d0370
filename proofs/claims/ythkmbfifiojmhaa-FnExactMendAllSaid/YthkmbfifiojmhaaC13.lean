/- The law: the program's mending is the reference's. -/
import Derived.Test.YthkmbfifiojmhaaC12
set_option linter.unusedSimpArgs false
set_option linter.unusedVariables false
set_option maxRecDepth 100000
namespace Go.Proofs.Ythkmbfifiojmhaa
open Go.Abs
variable {w0 : World} {H : Heap}
/-- What is answered, without memory. -/
def MendP (n : Int) (ps : List (Int × Int)) (a : List Int) (k : Nat) (ok : Bool) (m : List Int) : Prop :=
  (¬ (GoodP n ps ∧ Perm n a ∧ 3 ≤ n) ∧ k = 0 ∧ ok = false ∧ m = []) ∨ ((GoodP n ps ∧ Perm n a ∧ 3 ≤ n) ∧ ok = true ∧ MendAllR (fr ps) a k m)
theorem MendP.unique {n : Int} {ps : List (Int × Int)} {a : List Int} {k k' : Nat} {ok ok' : Bool} {m m' : List Int} (h : MendP n ps a k ok m) (h' : MendP n ps a k' ok' m') : k = k' ∧ ok = ok' ∧ m = m' := by
  rcases h with ⟨g, rfl, rfl, rfl⟩ | ⟨g, rfl, h⟩
  · rcases h' with ⟨_, rfl, rfl, rfl⟩ | ⟨g', _⟩
    · exact ⟨rfl, rfl, rfl⟩
    · exact absurd g' g
  · rcases h' with ⟨g', _⟩ | ⟨_, rfl, h'⟩
    · exact absurd g g'
    · obtain ⟨h1, h2⟩ := h.unique h'
      exact ⟨h1, rfl, h2⟩
theorem MendP.len {n : Int} {ps : List (Int × Int)} {a : List Int} {k : Nat} {ok : Bool} {m : List Int} (h : MendP n ps a k ok m) : m.length ≤ a.length := by
  rcases h with ⟨g, rfl, rfl, rfl⟩ | ⟨g, rfl, h⟩
  · simp
  · rw [h.1.keeps.1]; omega
theorem MendSaid.split {n0 : Nat} {n : Int} {ps : List (Int × Int)} {a : List Int} {v : AV} (h : MendSaid H n0 n ps a v) :
    ∃ b off cap, ∃ k : Nat, ∃ ok m, v = .tuple [.slice b off m.length 1 cap, .int .i64 k, .bool ok] ∧ OwnAt n0 H b off m.length 1 cap (ints m) ∧ MendP n ps a k ok m := by
  rcases h with ⟨g, rfl⟩ | ⟨g, vs, k, m, rfl, hm, b, off, cap, rfl, hO⟩
  · exact ⟨none, 0, some 0, 0, false, [], rfl, OwnAt.nil, .inl ⟨g, rfl, rfl, rfl⟩⟩
  · exact ⟨b, off, cap, k, true, m, rfl, hO, .inr ⟨g, rfl, hm⟩⟩
theorem apart {n1 n2 : Nat} {H1 H2 : Heap} {b1 b2 : Option Nat} {o1 o2 l1 l2 s1 s2 : Nat} {c1 c2 : Option Nat} {x1 x2 : List AV} (h1 : OwnAt n1 H1 b1 o1 l1 s1 c1 x1) (h2 : OwnAt n2 H2 b2 o2 l2 s2 c2 x2) (hle : H1.n ≤ n2) : (b1 = none ∨ b1 ≠ b2) ∧ (b2 = none ∨ b2 ≠ b1) := by
  constructor
  · cases b1 with
    | none => exact .inl rfl
    | some k =>
      refine .inr fun e => ?_
      have := h1.lt k rfl
      have := h2.base k e.symm
      omega
  · cases b2 with
    | none => exact .inl rfl
    | some k =>
      refine .inr fun e => ?_
      have := h1.lt k e.symm
      have := h2.base k rfl
      omega
theorem law_ok (va vb : AV) (n : Int) (ps : List (Int × Int)) (a : List Int) (hl : ps.length < 2 ^ 63) (hl2 : a.length < 2 ^ 63) (ha : PartyAt H va n ps) (hb : RowV H vb a.length 1 (ints a)) :
    ACall Try.prog w0 3 [va, vb] H fun v H' => v = .bool true := by
  obtain ⟨ba, oa, ca, rfl, ha⟩ := ha
  obtain ⟨bb, ob, cb, rfl, hb⟩ := hb
  refine ACall.enterW mix Try.func3 (by kernel_rfl) fun hw => ?_
  simp (disch := first | omega | (simp only [n_alloc, n_put, n_kill]; omega) | (simp; done) | fail) [Try.f3]
  refine cP (fun h => ?_) fun h => ?_
  · simp (disch := first | omega | (simp only [n_alloc, n_put, n_kill]; omega) | (simp; done) | fail)
  · simp (disch := first | omega | (simp only [n_alloc, n_put, n_kill]; omega) | (simp; done) | fail)
    have hla : a.length ≤ 1048576 := by omega
    refine call_of (szParty_ok _ n 1048576 ps hl (by omega) ⟨_, _, _, rfl, ha.ext hw (by simp (disch := first | omega | (simp only [n_alloc, n_put, n_kill]; omega) | (simp; done) | fail))⟩) fun v H1 hw1 ⟨hv, he1⟩ => ?_
    subst hv
    have hx1 : Ext H H1 := Ext.trans (by simp (disch := first | omega | (simp only [n_alloc, n_put, n_kill]; omega) | (simp; done) | fail)) he1
    have g1 : H1.get H.n = some (.cells [.int .i64 n, .slice ba oa ps.length 2 ca] true) := by
      rw [he1.2 H.n (by (first | omega | (simp only [n_alloc, n_put, n_kill]; omega)))]
      simp (disch := first | omega | (simp only [n_alloc, n_put, n_kill]; omega) | (simp; done) | fail)
    have hn1 : H.n < H1.n := by have := he1.1; simp only [n_alloc] at this; omega
    by_cases h1048576 : (1048576 : Int) < ps.length
    · simp (disch := first | omega | (simp only [n_alloc, n_put, n_kill]; omega) | (simp; done) | fail) [h1048576]
    · have hlp : ps.length ≤ 1048576 := by omega
      simp (disch := first | omega | (simp only [n_alloc, n_put, n_kill]; omega) | (simp; done) | fail) [h1048576]
      refine cP (fun h' => ?_) fun h' => ?_
      · omega
      · simp (disch := first | omega | (simp only [n_alloc, n_put, n_kill]; omega) | (simp; done) | fail) [g1]
        refine call_of (toParty_ok _ n ps (by omega) ⟨_, _, _, rfl, ha.ext hw hx1⟩) fun v H2 hw2 ⟨he2, vsW, hv, bW, oW, cW, hvs, hOW⟩ => ?_
        subst hv hvs
        have hx2 := hx1.trans he2
        simp (disch := first | omega | (simp only [n_alloc, n_put, n_kill]; omega) | (simp; done) | fail)
        refine call_of (toIntS_ok _ a (by omega) ⟨_, _, _, rfl, hb.ext hw hx2⟩) fun v H3 hw3 ⟨he3, bI, oI, cI, hv, hOI⟩ => ?_
        subst hv
        have hx3 := hx2.trans he3
        simp (disch := first | omega | (simp only [n_alloc, n_put, n_kill]; omega) | (simp; done) | fail)
        refine call_of (specMendAll_ok _ _ n ps a (by omega) (by omega) ⟨_, _, _, rfl, (hOW.keep he3.keep (.inl rfl)).toRow⟩ ⟨_, _, _, rfl, hOI.toRow⟩) fun v H4 hw4 ⟨he4, hS⟩ => ?_
        obtain ⟨bA, oA, cA, kA, okA, mA, hv, hOA, hP⟩ := hS.split
        subst hv
        have hx4 := hx3.trans he4
        have g4 : H4.get H.n = some (.cells [.int .i64 n, .slice ba oa ps.length 2 ca] true) := by
          rw [(he2.trans (he3.trans he4)).2 H.n hn1]; exact g1
        simp (disch := first | omega | (simp only [n_alloc, n_put, n_kill]; omega) | (simp; done) | fail) [g4]
        refine call_of (toParty_ok _ n ps (by omega) ⟨_, _, _, rfl, ha.ext hw hx4⟩) fun v H5 hw5 ⟨he5, vsX, hv, bX, oX, cX, hvs, hOX⟩ => ?_
        subst hv hvs
        have hx5 := hx4.trans he5
        have hn5 : H.n < H5.n := by have := he2.1; have := he3.1; have := he4.1; have := he5.1; omega
        simp (disch := first | omega | (simp only [n_alloc, n_put, n_kill]; omega) | (simp; done) | fail)
        obtain ⟨Hc, hHc⟩ : ∃ Hc, Hc = (H5.alloc [.int .i64 0, .slice none 0 0 1 (some 0)]).put H5.n [.int .i64 n, .slice bX oX ps.length 2 cX] := ⟨_, rfl⟩
        have hec : Ext H5 Hc := by rw [hHc]; simp (disch := first | omega | (simp only [n_alloc, n_put, n_kill]; omega) | (simp; done) | fail)
        have hnc : Hc.n = H5.n + 1 := by rw [hHc]; simp (disch := first | omega | (simp only [n_alloc, n_put, n_kill]; omega) | (simp; done) | fail)
        have gc9 : Hc.get H5.n = some (.cells [.int .i64 n, .slice bX oX ps.length 2 cX] true) := by rw [hHc]; simp (disch := first | omega | (simp only [n_alloc, n_put, n_kill]; omega) | (simp; done) | fail)
        rw [← hHc]
        have hxc := hx5.trans hec
        refine call_of (toIntS_ok _ a (by omega) ⟨_, _, _, rfl, hb.ext hw hxc⟩) fun v H6 hw6 ⟨he6, bY, oY, cY, hv, hOY⟩ => ?_
        subst hv
        have hx6 := hxc.trans he6
        have g69 : H6.get H5.n = some (.cells [.int .i64 n, .slice bX oX ps.length 2 cX] true) := by rw [he6.2 _ (by omega)]; exact gc9
        have hOX6 := hOX.keep (hec.trans he6).keep (.inl rfl)
        simp (disch := first | omega | (simp only [n_alloc, n_put, n_kill]; omega) | (simp; done) | fail) [g69]
        refine call_of (implMendAll_ok _ _ n ps a (by omega) (by omega) ⟨_, _, _, rfl, hOX6.toRow⟩ ⟨_, _, _, rfl, hOY.toRow⟩) fun v H7 hw7 ⟨he7, hS7⟩ => ?_
        obtain ⟨bG, oG, cG, kG, okG, mG, hv, hOG, hPG⟩ := hS7.split
        subst hv
        obtain ⟨rfl, rfl, rfl⟩ := hPG.unique hP
        have hml := hP.len
        have hx7 := hx6.trans he7
        have hOA7 := hOA.keep (he5.trans (hec.trans (he6.trans he7))).keep (.inl rfl)
        have hOX7 := hOX6.keep he7.keep (.inl rfl)
        have hOY7 := hOY.keep he7.keep (.inl rfl)
        simp (disch := first | omega | (simp only [n_alloc, n_put, n_kill]; omega) | (simp; done) | fail)
        refine call_of (eqIntS_ok _ _ mG mG (by omega) hOG.sli hOA7.sli) fun v H7' hw7' ⟨hv, he7'⟩ => ?_
        subst hv he7'
        have g79 : H7'.get H5.n = some (.cells [.int .i64 n, .slice bX oX ps.length 2 cX] true) := by rw [he7.2 _ (by have := he6.1; omega)]; exact g69
        have g7 : H7'.get H.n = some (.cells [.int .i64 n, .slice ba oa ps.length 2 ca] true) := by
          rw [(he5.trans (hec.trans (he6.trans he7))).2 H.n (by have := he2.1; have := he3.1; have := he4.1; omega)]; exact g4
        simp (disch := first | omega | (simp only [n_alloc, n_put, n_kill]; omega) | (simp; done) | fail)
        refine run_any plan3_13 (by kernel_rfl) ?_
        simp (disch := first | omega | (simp only [n_alloc, n_put, n_kill]; omega) | (simp; done) | fail) [plan3_13, g79, g7]
        refine call_of (toParty_ok _ n ps (by omega) ⟨_, _, _, rfl, ha.ext hw hx7⟩) fun v H8 hw8 ⟨he8, vsZ, hv, bZ, oZ, cZ, hvs, hOZ⟩ => ?_
        subst hv hvs
        have hx8 := hx7.trans he8
        have e67 := he6.1
        have e77 := he7.1
        have g89 : H8.get H5.n = some (.cells [.int .i64 n, .slice bX oX ps.length 2 cX] true) := by rw [he8.2 _ (by omega)]; exact g79
        have hOX8 := hOX7.keep he8.keep (.inl rfl)
        simp (disch := first | omega | (simp only [n_alloc, n_put, n_kill]; omega) | (simp; done) | fail) [g89]
        refine call_of (eqParty_ok _ _ n n ps ps (by omega) ⟨_, _, _, rfl, hOX8.toRow⟩ ⟨_, _, _, rfl, hOZ.toRow⟩) fun v H9 hw9 ⟨hv, he9⟩ => ?_
        subst hv
        have hx9 := hx8.trans he9
        simp (disch := first | omega | (simp only [n_alloc, n_put, n_kill]; omega) | (simp; done) | fail)
        refine call_of (toIntS_ok _ a (by omega) ⟨_, _, _, rfl, hb.ext hw hx9⟩) fun v H10 hw10 ⟨he10, bJ, oJ, cJ, hv, hOJ⟩ => ?_
        subst hv
        have hx10 := hx9.trans he10
        have h710 := he8.trans (he9.trans he10)
        have hOA10 := hOA7.keep h710.keep (.inl rfl)
        have hOX10 := hOX7.keep h710.keep (.inl rfl)
        have hOY10 := hOY7.keep h710.keep (.inl rfl)
        have hOG10 := hOG.keep h710.keep (.inl rfl)
        have g109 : H10.get H5.n = some (.cells [.int .i64 n, .slice bX oX ps.length 2 cX] true) := by rw [h710.2 _ (by omega)]; exact g79
        have g10 : H10.get H.n = some (.cells [.int .i64 n, .slice ba oa ps.length 2 ca] true) := by rw [h710.2 _ (by omega)]; exact g7
        simp (disch := first | omega | (simp only [n_alloc, n_put, n_kill]; omega) | (simp; done) | fail)
        refine call_of (eqIntS_ok _ _ a a (by omega) hOY10.sli hOJ.sli) fun v H10' hw10' ⟨hv, he10'⟩ => ?_
        subst hv he10'
        simp (disch := first | omega | (simp only [n_alloc, n_put, n_kill]; omega) | (simp; done) | fail) [g109]
        have e23 := he2.1
        have e33 := he3.1
        have e43 := he4.1
        have e53 := he5.1
        have e83 := h710.1
        have apXA := apart hOA hOX (Nat.le_refl _)
        have apXY := apart hOX hOY (by omega)
        have apXG := apart hOX hOG (by omega)
        have apYG := apart hOY hOG (Nat.le_refl _)
        have apAY := apart hOA hOY (by omega)
        have apAG := apart hOA hOG (by omega)
        refine call_of (markParty_ok _ _ n 1 ps H4.n (by omega) (by omega) rfl hOX10.v) fun v H11 hw11 ⟨hv, b', o', c', ev, hk11⟩ => ?_
        simp at ev
        obtain ⟨rfl, rfl, rfl⟩ := ev
        subst hv
        have hx11 := hk11.ext hx10 (fun k e => by have := hOX.base k e; omega)
        have hOA11 := hOA10.keep hk11 apXA.2
        have hOY11 := hOY10.keep hk11 apXY.1
        have hOG11 := hOG10.keep hk11 apXG.1
        have hne1 : ∀ k, k < H4.n → bX ≠ some k := fun k hk e => by have := hOX.base k e; omega
        have g11 : H11.get H.n = some (.cells [.int .i64 n, .slice ba oa ps.length 2 ca] true) := by rw [hk11.2 _ (by omega) (hne1 _ (by omega))]; exact g10
        simp (disch := first | omega | (simp only [n_alloc, n_put, n_kill]; omega) | (simp; done) | fail)
        refine call_of (markIntS_ok _ (1 + 2 * ps.length) a Hc.n (by omega) (by omega) hOY11.v) fun v H12 hw12 ⟨hv, b', o', c', ev, hk12, _⟩ => ?_
        simp at ev
        obtain ⟨rfl, rfl, rfl⟩ := ev
        subst hv
        have hx12 := hk12.ext hx11 (fun k e => by have := hOY.base k e; omega)
        have hOA12 := hOA11.keep hk12 apAY.2
        have hOG12 := hOG11.keep hk12 apYG.1
        have hne2 : ∀ k, k < Hc.n → bY ≠ some k := fun k hk e => by have := hOY.base k e; omega
        have e113 := hk11.1
        have e123 := hk12.1
        have g12 : H12.get H.n = some (.cells [.int .i64 n, .slice ba oa ps.length 2 ca] true) := by rw [hk12.2 _ (by omega) (hne2 _ (by omega))]; exact g11
        have hneg : ¬ (1 + 2 * (ps.length : Int) + a.length < 0) := by omega
        simp (disch := first | omega | (simp only [n_alloc, n_put, n_kill]; omega) | (simp; done) | fail) [hneg]
        refine call_of (eqIntS_ok _ _ mG mG (by omega) hOG12.sli hOA12.sli) fun v H12' hw12' ⟨hv, he12'⟩ => ?_
        subst hv he12'
        simp (disch := first | omega | (simp only [n_alloc, n_put, n_kill]; omega) | (simp; done) | fail)
        refine call_of (markIntS_ok _ 1 mG H6.n (by omega) (by omega) hOG12.v) fun v H13 hw13 ⟨hv, b', o', c', ev, hk13, hOM⟩ => ?_
        simp at ev
        obtain ⟨rfl, rfl, rfl⟩ := ev
        subst hv
        obtain ⟨M, hM⟩ : ∃ M, M = (List.range mG.length).map fun (i : Nat) => (1 : Int) + (i : Int) := ⟨_, rfl⟩
        rw [← hM] at hOM
        have hMl : M.length = mG.length := by rw [hM]; simp
        have hMe : M = (List.range M.length).map fun (i : Nat) => (1 : Int) + (i : Int) := by rw [hMl]; exact hM
        have hx13 := hk13.ext hx12 (fun k e => by have := hOG.base k e; omega)
        have hOA13 := hOA12.keep hk13 apAG.2
        have hne3 : ∀ k, k < H6.n → bG ≠ some k := fun k hk e => by have := hOG.base k e; omega
        have e133 := hk13.1
        have g13 : H13.get H.n = some (.cells [.int .i64 n, .slice ba oa ps.length 2 ca] true) := by rw [hk13.2 _ (by omega) (hne3 _ (by omega))]; exact g12
        simp (disch := first | omega | (simp only [n_alloc, n_put, n_kill]; omega) | (simp; done) | fail)
        have hRM : RowV H13 (.slice bG oG mG.length 1 cG) M.length 1 (ints M) := by rw [hMl]; exact ⟨_, _, _, rfl, hOM.toRow⟩
        refine call_of (heldIntS_ok _ 1 M (by omega) (by omega) hRM) fun v H14 hw14 ⟨he14, hv⟩ => ?_
        rw [if_pos hMe, hMl] at hv
        subst hv he14
        have hneg2 : ¬ (1 + (mG.length : Int) < 0) := by omega
        simp (disch := first | omega | (simp only [n_alloc, n_put, n_kill]; omega) | (simp; done) | fail) [hneg2, g13]
        refine call_of (toParty_ok _ n ps (by omega) ⟨_, _, _, rfl, ha.ext hw hx13⟩) fun v H15 hw15 ⟨he15, vsP, hv, bP, oP, cP, hvs, hOP⟩ => ?_
        subst hv hvs
        have hx15 := hx13.trans he15
        simp (disch := first | omega | (simp only [n_alloc, n_put, n_kill]; omega) | (simp; done) | fail)
        refine call_of (toIntS_ok _ a (by omega) ⟨_, _, _, rfl, hb.ext hw hx15⟩) fun v H16 hw16 ⟨he16, bQ, oQ, cQ, hv, hOQ⟩ => ?_
        subst hv
        simp (disch := first | omega | (simp only [n_alloc, n_put, n_kill]; omega) | (simp; done) | fail)
        refine call_of (implMendAll_ok _ _ n ps a (by omega) (by omega) ⟨_, _, _, rfl, (hOP.keep he16.keep (.inl rfl)).toRow⟩ ⟨_, _, _, rfl, hOQ.toRow⟩) fun v H17 hw17 ⟨he17, hS17⟩ => ?_
        obtain ⟨bR, oR, cR, kR, okR, mR, hv, hOR, hPR⟩ := hS17.split
        subst hv
        obtain ⟨rfl, rfl, rfl⟩ := hPR.unique hP
        have h1317 := he15.trans (he16.trans he17)
        have hOA17 := hOA13.keep h1317.keep (.inl rfl)
        have hOM17 := hOM.keep h1317.keep (.inl rfl)
        simp (disch := first | omega | (simp only [n_alloc, n_put, n_kill]; omega) | (simp; done) | fail)
        refine call_of (eqIntS_ok _ _ mR mR (by omega) hOR.sli hOA17.sli) fun v H18 hw18 ⟨hv, he18⟩ => ?_
        subst hv he18
        simp (disch := first | omega | (simp only [n_alloc, n_put, n_kill]; omega) | (simp; done) | fail)
        have hRM2 : RowV H18 (.slice bG oG mR.length 1 cG) M.length 1 (ints M) := by rw [hMl]; exact ⟨_, _, _, rfl, hOM17.toRow⟩
        refine call_of (heldIntS_ok _ 1 M (by omega) (by omega) hRM2) fun v H19 hw19 ⟨he19, hv⟩ => ?_
        rw [if_pos hMe, hMl] at hv
        subst hv he19
        simp (disch := first | omega | (simp only [n_alloc, n_put, n_kill]; omega) | (simp; done) | fail) [hneg2]
end Go.Proofs.Ythkmbfifiojmhaa
