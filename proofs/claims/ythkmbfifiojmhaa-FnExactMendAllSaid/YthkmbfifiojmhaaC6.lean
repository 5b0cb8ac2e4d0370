/- The reference's table. -/
import Derived.Test.YthkmbfifiojmhaaC5
import Derived.Test.YthkmbfifiojmhaaAbsU
set_option linter.unusedSimpArgs false
set_option linter.unusedVariables false
set_option maxRecDepth 100000
namespace Go.Proofs.Ythkmbfifiojmhaa
open Go.Abs
variable {w0 : World} {H : Heap}
/-- Are two people friends? -/
def fr (ps : List (Int × Int)) (a b : Nat) : Bool := ps.any fun p => (p.1 == (a : Int) && p.2 == (b : Int)) || (p.1 == (b : Int) && p.2 == (a : Int))
theorem fr_step (ps : List (Int × Int)) (i : Nat) (h : i < ps.length) (h0 : 0 ≤ ps[i].1) (h1 : 0 ≤ ps[i].2) :
    updT (updT (fr (ps.take i)) ps[i].1.toNat ps[i].2.toNat true) ps[i].2.toNat ps[i].1.toNat true = fr (ps.take (i + 1)) := by
  funext a b
  rw [List.take_succ_eq_append_getElem h]
  simp only [updT, fr, List.any_append, List.any_cons, List.any_nil, Bool.or_false]
  generalize ps[i] = p at *
  obtain ⟨x, y⟩ := p
  simp only at *
  have e1 : (x == (a : Int)) = decide (a = x.toNat) := by rw [Bool.eq_iff_iff]; simp; omega
  have e2 : (y == (b : Int)) = decide (b = y.toNat) := by rw [Bool.eq_iff_iff]; simp; omega
  have e3 : (x == (b : Int)) = decide (b = x.toNat) := by rw [Bool.eq_iff_iff]; simp; omega
  have e4 : (y == (a : Int)) = decide (a = y.toNat) := by rw [Bool.eq_iff_iff]; simp; omega
  rw [e1, e2, e3, e4]
  generalize List.any (List.take i ps) _ = q
  by_cases p1 : a = x.toNat <;> by_cases p2 : b = y.toNat <;> by_cases p3 : b = x.toNat <;> by_cases p4 : a = y.toNat <;> cases q <;> simp [p1, p2, p3, p4]
theorem taSeats_ok (va vb : AV) (n : Int) (ps : List (Int × Int)) (a : List Int) (hl : ps.length < 2 ^ 31) (hl2 : a.length < 2 ^ 31) (ha : PartyAt H va n ps) (hb : RowV H vb a.length 1 (ints a)) : ACall Try.prog w0 30 [va, vb] H fun v H' => Ext H H' ∧ ∃ r, v = .bool r ∧ (r = true ↔ GoodP n ps ∧ Perm n a) := by
  obtain ⟨ba, oa, ca, rfl, ha⟩ := ha
  obtain ⟨bb, ob, cb, rfl, hb⟩ := hb
  refine ACall.enterW mix Try.func30 (by kernel_rfl) fun hw => ?_
  simp (disch := first | omega | (simp only [n_alloc, n_put, n_kill]; omega) | (simp; done) | fail) [Try.f30]
  refine call_of (paGood_ok _ n ps hl ⟨_, _, _, rfl, ha.ext hw (by simp (disch := first | omega | (simp only [n_alloc, n_put, n_kill]; omega) | (simp; done) | fail))⟩) fun v H1 hw1 ⟨he1, r1, hv, hr1⟩ => ?_
  subst hv
  have hx : Ext H H1 := Ext.trans (by simp (disch := first | omega | (simp only [n_alloc, n_put, n_kill]; omega) | (simp; done) | fail)) he1
  have g0 : H1.get H.n = some (.cells [.int .i64 n, .slice ba oa ps.length 2 ca] true) := by
    rw [he1.2 H.n (by (first | omega | (simp only [n_alloc, n_put, n_kill]; omega)))]
    simp (disch := first | omega | (simp only [n_alloc, n_put, n_kill]; omega) | (simp; done) | fail)
  simp (disch := first | omega | (simp only [n_alloc, n_put, n_kill]; omega) | (simp; done) | fail) [g0]
  refine gB (fun h => ?_) fun h => ?_
  · have hg := hr1.1 h
    simp (disch := first | omega | (simp only [n_alloc, n_put, n_kill]; omega) | (simp; done) | fail) [g0, h]
    refine call_of (grOrder_ok _ a n hg.1 hl2 ⟨_, _, _, rfl, hb.ext hw hx⟩) fun v H2 hw2 ⟨he2, r2, hv, hr2⟩ => ?_
    subst hv he2
    simp (disch := first | omega | (simp only [n_alloc, n_put, n_kill]; omega) | (simp; done) | fail) [h]
    refine ⟨hx, ?_⟩
    cases r2 <;> simp_all
  · simp (disch := first | omega | (simp only [n_alloc, n_put, n_kill]; omega) | (simp; done) | fail) [h]
    refine ⟨hx, ?_⟩
    simp_all
theorem paTable_ok (va : AV) (n : Nat) (ps : List (Int × Int)) (hg : GoodP n ps) (hl : ps.length < 2 ^ 31) (ha : PartyAt H va n ps) : ACall Try.prog w0 31 [va] H fun v H' => Ext H H' ∧ BoolTab H' v n (fr ps) := by
  obtain ⟨ba, oa, ca, rfl, ha⟩ := ha
  have hn := hg.1
  refine ACall.enterW mix Try.func31 (by kernel_rfl) fun hw => ?_
  simp (disch := first | omega | (simp only [n_alloc, n_put, n_kill]; omega) | (simp; done) | fail) [Try.f31]
  refine run_for n (fun i E H' => Ext H H' ∧ H'.get H.n = some (.cells [.int .i64 n, .slice ba oa ps.length 2 ca] true) ∧ H.n < H'.n ∧ E 1 = .ptr (some H.n) 0 ∧ E 4 = .int .i64 i ∧
    ∃ b off cap Bs, E 3 = .slice b off i 1 cap ∧ TabAt (H.n + 1) H' b off cap i n Bs (fun _ _ => false)) 0 (Nat.zero_le _) ?_ ?_
  · simp (disch := first | omega | (simp only [n_alloc, n_put, n_kill]; omega) | (simp; done) | fail)
    exact ⟨none, 0, some 0, ⟨rfl, rfl, rfl⟩, [], ⟨OwnAt.nil, List.nodup_nil, by simp, by simp⟩⟩
  · rintro i E H' hw' hi ⟨he, hg0, hlt, h1, h4, b, off, cap, Bs, h3, hT⟩
    simp (disch := first | omega | (simp only [n_alloc, n_put, n_kill]; omega) | (simp; done) | fail) [h1, h3, h4, hg0]
    refine cP (fun h => ?_) fun h => ?_
    · simp (disch := first | omega | (simp only [n_alloc, n_put, n_kill]; omega) | (simp; done) | fail) [h1, h3, h4, hg0]
      refine ⟨by omega, ?_⟩
      refine build_full ?_
      simp (disch := first | omega | (simp only [n_alloc, n_put, n_kill]; omega) | (simp; done) | fail) [buildC]
      refine append_one (H := H'.alloc (List.replicate n (.bool false))) (hT.own.keep keep_alloc (.inl rfl)) (wf_alloc hw') (by (first | omega | (simp only [n_alloc, n_put, n_kill]; omega))) (by simp (disch := first | omega | (simp only [n_alloc, n_put, n_kill]; omega) | (simp; done) | fail); omega) (by simp (disch := first | omega | (simp only [n_alloc, n_put, n_kill]; omega) | (simp; done) | fail)) (by omega) rfl rfl (by omega) fun b' off' cap' H2 hO2 hk2 hb2 => ?_
      have hT2 := hT.grow (by omega) rowT_false hO2 hk2 hb2
      have hk3 : Keep b H' H2 := keep_alloc.trans hk2
      have hbb := hT.own.base
      simp (disch := first | omega | (simp only [n_alloc, n_put, n_kill]; omega) | (simp; done) | fail) [h1, h3, h4]
      refine ⟨h, hk3.ext he (fun k e => by have := hbb k e; omega), ?_, ?_, _, _, _, ⟨rfl, rfl, rfl⟩, _, hT2⟩
      · rw [hk3.2 H.n hlt (fun e => by have := hbb _ e; omega)]
        exact hg0
      · have := hk3.1; omega
    · have : i = n := by omega
      subst this
      simp (disch := first | omega | (simp only [n_alloc, n_put, n_kill]; omega) | (simp; done) | fail) [h1, h3, hg0]
      refine run_for ps.length (fun j E H' => Ext H H' ∧ E 20 = .slice ba oa ps.length 2 ca ∧ E 21 = .int .i64 ps.length ∧ E 22 = .int .i64 j ∧ E 3 = .slice b off i 1 cap ∧ H.n < H'.n ∧ TabAt (H.n + 1) H' b off cap i i Bs (fr (ps.take j))) 0 (Nat.zero_le _) ?_ ?_
      · simp (disch := first | omega | (simp only [n_alloc, n_put, n_kill]; omega) | (simp; done) | fail) [h3]
        exact ⟨he, hlt, hT⟩
      · clear hg0 h1 h3 h4 he hlt hT hw' H' E
        rintro j E H' hw' hj ⟨he, h20, h21, h22, h3, hlt, hT⟩
        simp (disch := first | omega | (simp only [n_alloc, n_put, n_kill]; omega) | (simp; done) | fail) [h20, h21, h22, h3]
        refine cP (fun g => ?_) fun g => ?_
        · have hr := ha.ext hw he
          obtain ⟨q1, q2, q3, _⟩ := hg.2 j g
          have hbl := hT.blen
          have hA : ps[j].1.toNat < Bs.length := by omega
          have hB : ps[j].2.toNat < Bs.length := by omega
          simp (disch := first | omega | (simp only [n_alloc, n_put, n_kill]; omega) | (simp; done) | fail) [h20, h21, h22, h3, hr.pair, g]
          refine run_any plan31_9 (by kernel_rfl) ?_
          have hT1 := hT.keep (H' := (H'.alloc [.int .i64 0, .int .i64 0]).put H'.n [.int .i64 ps[j].1, .int .i64 ps[j].2]) (bo := some H'.n) ⟨by (first | omega | (simp only [n_alloc, n_put, n_kill]; omega)), fun c hc hne => by rw [get_put_old (by omega), get_alloc_old (by omega)]⟩ (.inr ⟨fun e => by have := hT.own.lt _ e.symm; omega, fun k hk e => by have := (hT.rng k hk).2.1; cases e; omega⟩)
          have hrA := hT1.row _ hA
          have hx : Ext H ((H'.alloc [.int .i64 0, .int .i64 0]).put H'.n [.int .i64 ps[j].1, .int .i64 ps[j].2]) := by
            have := he.1
            simp (disch := first | omega | (simp only [n_alloc, n_put, n_kill]; omega) | (simp; done) | fail)
            exact he
          simp (disch := first | omega | (simp only [n_alloc, n_put, n_kill]; omega) | (simp; done) | (simp; omega) | fail) [plan31_9, h20, h21, h22, h3, g, hT1.own.toRow.one, hrA, splice_row]
          refine Run.of ⟨by rw [rowT_length]; omega, ?_⟩
          refine run_any plan31_10 (by kernel_rfl) ?_
          have hbl' : (Bs.map fun k => AV.slice (some k) 0 i 1 (some i)).length = Bs.length := by simp
          have hT2 := hT1.put (v := true) hA (x := ps[j].2.toNat) (by omega)
          have hrB := hT2.row _ hB
          have hnB : Bs[ps[j].1.toNat] ≠ H'.n := fun e => by have := (hT.rng _ (List.getElem_mem hA)).2.1; omega
          simp (disch := first | omega | (simp only [n_alloc, n_put, n_kill]; omega) | (simp; done) | (simp; omega) | fail) [plan31_10, h20, h21, h22, h3, g, hT2.own.toRow.one, hrB, splice_row, hnB.symm, rowT_length]
          refine Run.of ⟨by omega, ?_⟩
          have hT3 := hT2.put (v := true) hB (x := ps[j].1.toNat) (by omega)
          have hnA : H.n ≤ Bs[ps[j].1.toNat] := by have := (hT.rng _ (List.getElem_mem hA)).1; omega
          have hnB' : H.n ≤ Bs[ps[j].2.toNat] := by have := (hT.rng _ (List.getElem_mem hB)).1; omega
          rw [fr_step ps j g (by omega) (by omega)] at hT3
          simp (disch := first | omega | (simp only [n_alloc, n_put, n_kill]; omega) | (simp; done) | fail) [h20, h21, h22, h3, g]
          exact ⟨he, by omega, hT3⟩
        · simp (disch := first | omega | (simp only [n_alloc, n_put, n_kill]; omega) | (simp; done) | fail) [h3]
          have : j = ps.length := by omega
          subst this
          rw [List.take_length] at hT
          exact ⟨he, hT.tab⟩
end Go.Proofs.Ythkmbfifiojmhaa
