/- Couples, by the reference; the answers of both. -/
import Derived.Test.YthkmbfifiojmhaaT13
set_option linter.unusedSimpArgs false
set_option linter.unusedVariables false
set_option maxRecDepth 100000
namespace Go.Proofs.Ythkmbfifiojmhaa
open Go.Abs
variable {w0 : World} {H : Heap}
theorem toldL_length (n : Nat) (f : Nat → Nat → Bool) : (toldL n f).length = n - 1 := by simp [toldL]
theorem told_eq {n : Nat} {f : Nat → Nat → Bool} : AV.lst none (n - 1) 1 (List.take (n - 1) (ints (degs n f)).tail) = intsT (toldL n f) := by
  rw [← List.drop_one, ints_drop, ints_take]
  simp only [toldL, intsT, List.length_drop, degs_length]
  congr 2
  rw [List.take_of_length_le (by simp)]
theorem haCouples_ok (n : Nat) (ps : List (Int × Int)) (hg : GoodP n ps) (he : n % 2 = 0) (h2 : 2 ≤ n) (hl : ps.length < 2 ^ 31) : PCall Try.prog 48 [partyT n ps] (IsB (CoupleP n (fr ps))) := by
  have hn := hg.1
  have hsp : NoSp n (fr ps) ↔ ∀ i (hi : i < ps.length), ps[i].1 / 2 ≠ ps[i].2 / 2 := by
    constructor
    · intro h i hi e
      have h3 := hg.2 i hi
      have := h (ps[i].1.toNat / 2) (by omega)
      have hm : fr ps (2 * (ps[i].1.toNat / 2)) (2 * (ps[i].1.toNat / 2) + 1) = true := by
        rw [fr_mem hg (by omega)]
        have e1 : ps[i] = (((2 * (ps[i].1.toNat / 2) : Nat) : Int), ((2 * (ps[i].1.toNat / 2) + 1 : Nat) : Int)) := by ext <;> simp <;> omega
        rw [← e1]
        exact List.getElem_mem hi
      rw [hm] at this
      cases this
    · intro h k hk
      cases hf : fr ps (2 * k) (2 * k + 1) with
      | false => rfl
      | true =>
        exfalso
        rw [fr_mem hg (by omega)] at hf
        obtain ⟨i, hi, e⟩ := List.getElem_of_mem hf
        have := h i hi
        rw [e] at this
        simp only at this
        omega
  refine PCall.run mix Try.func48 (by kernel_rfl) fun w0 H hw => ?_
  simp (disch := first | omega | (simp only [n_alloc, n_put, n_kill, n_allocT, n_tabH, n_less]; omega) | (simp; done) | fail) [Try.f48]
  refine box_f rfl ?_
  simp (disch := first | omega | (simp only [n_alloc, n_put, n_kill, n_allocT, n_tabH, n_less]; omega) | (simp; done) | fail)
  refine run_for ps.length (fun i E H' => Ext H H' ∧ E 1 = .fptr [.int .i64 n, pairsT ps] ∧ E 9 = pairsT ps ∧ E 10 = .int .i64 ps.length ∧ E 11 = .int .i64 i ∧ ∀ j (h : j < i) (h' : j < ps.length), ps[j].1 / 2 ≠ ps[j].2 / 2) 0 (Nat.zero_le _) ?_ ?_
  · simp (disch := first | omega | (simp only [n_alloc, n_put, n_kill, n_allocT, n_tabH, n_less]; omega) | (simp; done) | fail)
  · rintro i E H' hw' hi ⟨he1, h1, h9, h10, h11, hc⟩
    simp (disch := first | omega | (simp only [n_alloc, n_put, n_kill, n_allocT, n_tabH, n_less]; omega) | (simp; done) | fail) [h1, h9, h10, h11]
    refine cP (fun g => ?_) fun g => ?_
    · have h3 := hg.2 i g
      have d1 : ps[i].1.tdiv 2 = ps[i].1 / 2 := Int.tdiv_eq_ediv_of_nonneg (by omega)
      have d2 : ps[i].2.tdiv 2 = ps[i].2 / 2 := Int.tdiv_eq_ediv_of_nonneg (by omega)
      simp (disch := first | omega | (simp only [n_alloc, n_put, n_kill, n_allocT, n_tabH, n_less]; omega) | (simp; done) | fail) [h1, h9, h10, h11, g, d1, d2]
      refine cP (fun q => ?_) fun q => ?_
      · simp (disch := first | omega | (simp only [n_alloc, n_put, n_kill, n_allocT, n_tabH, n_less]; omega) | (simp; done) | fail)
        exact Done.no (he1.alloc _) fun hp => hsp.1 hp.1 i g q
      · simp (disch := first | omega | (simp only [n_alloc, n_put, n_kill, n_allocT, n_tabH, n_less]; omega) | (simp; done) | fail) [h1, h9, h10, h11]
        refine ⟨he1.alloc _, fun j hj hj' => ?_⟩
        rcases Nat.lt_or_ge j i with hlt | hge
        · exact hc j hlt hj'
        · obtain rfl : j = i := by omega
          exact q
    · have hi' : i = ps.length := by omega
      have hs : NoSp n (fr ps) := hsp.2 fun j hj => hc j (by omega) hj
      simp (disch := first | omega | (simp only [n_alloc, n_put, n_kill, n_allocT, n_tabH, n_less]; omega) | (simp; done) | fail) [h1]
      refine run_pure (paNumbers_ok n ps hg hl) fun v hv => ?_
      subst hv
      simp (disch := first | omega | (simp only [n_alloc, n_put, n_kill, n_allocT, n_tabH, n_less]; omega) | (simp; done) | fail)
      rw [told_eq]
      have htl := toldL_length n (fr ps)
      simp (disch := first | omega | (simp only [n_alloc, n_put, n_kill, n_allocT, n_tabH, n_less]; omega) | (simp; done) | fail)
      refine run_for (n - 1) (fun i E H2 => H2 = H' ∧ E 5 = intsT (toldL n (fr ps)) ∧ E 26 = intsT (toldL n (fr ps)) ∧ E 27 = .int .i64 ((n - 1 : Nat) : Int) ∧ E 28 = .int .i64 i ∧ ((toldL n (fr ps)).take i).Nodup) 0 (Nat.zero_le _) ?_ ?_
      · simp (disch := first | omega | (simp only [n_alloc, n_put, n_kill, n_allocT, n_tabH, n_less]; omega) | (simp; done) | fail) [htl]
      · rintro i E H2 hw2 hi ⟨rfl, h5, h26, h27, h28, hc⟩
        simp (disch := first | omega | (simp only [n_alloc, n_put, n_kill, n_allocT, n_tabH, n_less]; omega) | (simp; done) | fail) [h5, h26, h27, h28]
        refine cP (fun g => ?_) fun g => ?_
        · have hlt : i < (toldL n (fr ps)).length := by omega
          simp (disch := first | omega | (simp only [n_alloc, n_put, n_kill, n_allocT, n_tabH, n_less]; omega) | (simp; done) | fail) [h5, h26, h27, h28, htl, ints_take]
          refine run_pureBE (l1Has_ok ((toldL n (fr ps)).take i) (toldL n (fr ps))[i] (by simp; omega)) (by simp [htl]; omega) fun b hb => ?_
          have hst : ((toldL n (fr ps)).take (i + 1)).Nodup ↔ ((toldL n (fr ps)).take i).Nodup ∧ (toldL n (fr ps))[i] ∉ (toldL n (fr ps)).take i := by
            rw [List.take_succ_eq_append_getElem hlt, List.nodup_append]
            simp
            intro _
            constructor
            · intro h hm; exact h _ hm rfl
            · intro h a ha e; subst e; exact h ha
          simp (disch := first | omega | (simp only [n_alloc, n_put, n_kill, n_allocT, n_tabH, n_less]; omega) | (simp; done) | fail)
          refine cB (fun q => ?_) fun q => ?_
          · simp (disch := first | omega | (simp only [n_alloc, n_put, n_kill, n_allocT, n_tabH, n_less]; omega) | (simp; done) | fail)
            refine Done.no he1 fun hp => (hst.1 ?_).2 (hb.1 q)
            exact hp.2.sublist (List.take_sublist _ _)
          · simp (disch := first | omega | (simp only [n_alloc, n_put, n_kill, n_allocT, n_tabH, n_less]; omega) | (simp; done) | fail) [h5, h26, h27, h28]
            exact ⟨g, htl, hst.2 ⟨hc, fun hm => by rw [hb.2 hm] at q; cases q⟩⟩
        · simp (disch := first | omega | (simp only [n_alloc, n_put, n_kill, n_allocT, n_tabH, n_less]; omega) | (simp; done) | fail)
          refine Done.yes he1 ⟨hs, ?_⟩
          rw [List.take_of_length_le (by omega)] at hc
          exact hc
theorem haEven_ok (n : Int) (ps : List (Int × Int)) (hl : ps.length < 2 ^ 31) : PCall Try.prog 47 [partyT n ps] (IsB (GoodP n ps ∧ 2 ≤ n ∧ n % 2 = 0)) := by
  refine PCall.run mix Try.func47 (by kernel_rfl) fun w0 H hw => ?_
  simp (disch := first | omega | (simp only [n_alloc, n_put, n_kill, n_allocT, n_tabH, n_less]; omega) | (simp; done) | fail) [Try.f47]
  refine box_f rfl ?_
  simp (disch := first | omega | (simp only [n_alloc, n_put, n_kill, n_allocT, n_tabH, n_less]; omega) | (simp; done) | fail)
  refine run_pureB (paGood_ok n ps hl) fun b hb => ?_
  simp (disch := first | omega | (simp only [n_alloc, n_put, n_kill, n_allocT, n_tabH, n_less]; omega) | (simp; done) | fail)
  refine gB (fun q => ?_) fun q => ?_
  · have hg := hb.1 q
    have hn := hg.1
    have e : n.tmod 2 = n % 2 := Int.tmod_eq_emod_of_nonneg hn.1
    simp (disch := first | omega | (simp only [n_alloc, n_put, n_kill, n_allocT, n_tabH, n_less]; omega) | (simp; done) | fail) [q, e]
    refine gP (fun h => ?_) fun h => ?_
    · simp (disch := first | omega | (simp only [n_alloc, n_put, n_kill, n_allocT, n_tabH, n_less]; omega) | (simp; done) | fail) [q, h]
      exact Done.iff (Ext.refl _) (by rw [e]; simp [hg, h])
    · simp (disch := first | omega | (simp only [n_alloc, n_put, n_kill, n_allocT, n_tabH, n_less]; omega) | (simp; done) | fail) [q, h]
      exact Done.no (Ext.refl _) fun h' => by omega
  · simp (disch := first | omega | (simp only [n_alloc, n_put, n_kill, n_allocT, n_tabH, n_less]; omega) | (simp; done) | fail) [q]
    exact Done.no (Ext.refl _) fun h => by have := hb.2 h.1; simp_all
/-- A party of an even number of people. -/
def EvP (n : Int) (ps : List (Int × Int)) : Prop := GoodP n ps ∧ 2 ≤ n ∧ n % 2 = 0
/-- The answer whether it is one of couples. -/
def AnsAre (n : Int) (ps : List (Int × Int)) (v : AV) : Prop := (EvP n ps ∧ ∃ a, v = .tuple [.bool a, .bool true] ∧ (a = true ↔ CoupleP n.toNat (fr ps))) ∨ (¬ EvP n ps ∧ v = .tuple [.bool false, .bool false])
theorem implAre_ok (n : Int) (ps : List (Int × Int)) (hl : ps.length < 2 ^ 31) : PCall Try.prog 17 [partyT n ps] (AnsAre n ps) := by
  refine PCall.run mix Try.func17 (by kernel_rfl) fun w0 H hw => ?_
  simp (disch := first | omega | (simp only [n_alloc, n_put, n_kill, n_allocT, n_tabH, n_less]; omega) | (simp; done) | fail) [Try.f17]
  refine box_f rfl ?_
  simp (disch := first | omega | (simp only [n_alloc, n_put, n_kill, n_allocT, n_tabH, n_less]; omega) | (simp; done) | fail)
  refine run_pureB (isParty_ok n ps hl) fun b hb => ?_
  simp (disch := first | omega | (simp only [n_alloc, n_put, n_kill, n_allocT, n_tabH, n_less]; omega) | (simp; done) | fail)
  have stop : ¬ EvP n ps → Done H H (.tuple [.bool false, .bool false]) (AnsAre n ps) := fun h => Done.flat (Ext.refl _) rfl (.inr ⟨h, rfl⟩)
  refine gB (fun q => ?_) fun q => ?_
  · have hg := hb.1 q
    have hn := hg.1
    obtain ⟨n, rfl⟩ := Int.eq_ofNat_of_zero_le hn.1
    have e : ((n : Int)).tmod 2 = ((n % 2 : Nat) : Int) := by rw [Int.tmod_eq_emod_of_nonneg hn.1]; simp
    simp (disch := first | omega | (simp only [n_alloc, n_put, n_kill, n_allocT, n_tabH, n_less]; omega) | (simp; done) | fail) [q, e]
    refine gN (fun h => ?_) fun h => ?_
    · simp (disch := first | omega | (simp only [n_alloc, n_put, n_kill, n_allocT, n_tabH, n_less]; omega) | (simp; done) | fail) [q, e, h]
      refine cP (fun h' => ?_) fun h' => ?_
      · simp (disch := first | omega | (simp only [n_alloc, n_put, n_kill, n_allocT, n_tabH, n_less]; omega) | (simp; done) | fail)
        exact stop fun hE => by have := hE.2; omega
      · simp (disch := first | omega | (simp only [n_alloc, n_put, n_kill, n_allocT, n_tabH, n_less]; omega) | (simp; done) | fail)
        have hE : EvP n ps := ⟨hg, by omega, by omega⟩
        refine run_pureB (areCouples_ok n ps hg (by omega) (by omega) hl) fun a ha => ?_
        simp (disch := first | omega | (simp only [n_alloc, n_put, n_kill, n_allocT, n_tabH, n_less]; omega) | (simp; done) | fail)
        exact Done.flat (Ext.refl _) rfl (.inl ⟨hE, a, rfl, by simpa using ha⟩)
    · simp (disch := first | omega | (simp only [n_alloc, n_put, n_kill, n_allocT, n_tabH, n_less]; omega) | (simp; done) | fail) [q, e, h]
      exact stop fun hE => by have := hE.2; omega
  · simp (disch := first | omega | (simp only [n_alloc, n_put, n_kill, n_allocT, n_tabH, n_less]; omega) | (simp; done) | fail) [q]
    exact stop fun hE => by have := hb.2 hE.1; simp_all
theorem specAre_ok (n : Int) (ps : List (Int × Int)) (hl : ps.length < 2 ^ 31) : PCall Try.prog 18 [partyT n ps] (AnsAre n ps) := by
  refine PCall.run mix Try.func18 (by kernel_rfl) fun w0 H hw => ?_
  simp (disch := first | omega | (simp only [n_alloc, n_put, n_kill, n_allocT, n_tabH, n_less]; omega) | (simp; done) | fail) [Try.f18]
  refine box_f rfl ?_
  simp (disch := first | omega | (simp only [n_alloc, n_put, n_kill, n_allocT, n_tabH, n_less]; omega) | (simp; done) | fail)
  refine run_pureB (haEven_ok n ps hl) fun b hb => ?_
  simp (disch := first | omega | (simp only [n_alloc, n_put, n_kill, n_allocT, n_tabH, n_less]; omega) | (simp; done) | fail)
  refine cNB (fun q => ?_) fun q => ?_
  · simp (disch := first | omega | (simp only [n_alloc, n_put, n_kill, n_allocT, n_tabH, n_less]; omega) | (simp; done) | fail)
    exact Done.flat (Ext.refl _) rfl (.inr ⟨fun hE => by have := hb.2 hE; simp_all, rfl⟩)
  · have hE : EvP n ps := hb.1 q
    obtain ⟨n, rfl⟩ := Int.eq_ofNat_of_zero_le hE.1.1.1
    have h3 := hE.2
    simp (disch := first | omega | (simp only [n_alloc, n_put, n_kill, n_allocT, n_tabH, n_less]; omega) | (simp; done) | fail)
    refine run_pureB (haCouples_ok n ps hE.1 (by omega) (by omega) hl) fun a ha => ?_
    simp (disch := first | omega | (simp only [n_alloc, n_put, n_kill, n_allocT, n_tabH, n_less]; omega) | (simp; done) | fail)
    exact Done.flat (Ext.refl _) rfl (.inl ⟨hE, a, rfl, by simpa using ha⟩)
end Go.Proofs.Ythkmbfifiojmhaa
