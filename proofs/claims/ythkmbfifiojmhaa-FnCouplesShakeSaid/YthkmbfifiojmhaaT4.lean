/- Tables, continued: the reference's; the parties of tables. -/
import Derived.Test.YthkmbfifiojmhaaT3
set_option linter.unusedSimpArgs false
set_option linter.unusedVariables false
set_option maxRecDepth 100000
namespace Go.Proofs.Ythkmbfifiojmhaa
open Go.Abs
variable {w0 : World} {H : Heap}
theorem paTableOwn_ok (n : Nat) (ps : List (Int × Int)) (hg : GoodP n ps) (hl : ps.length < 2 ^ 31) : ACall Try.prog w0 31 [partyT n ps] H fun v H' => v = tabO H.n n ∧ H' = tabH H n (fr ps) := by
  have hn := hg.1
  refine ACall.table (K := fun v H' => Ext H H' ∧ ∃ (Bs : List Nat), Bs.length = n ∧ Rc v (.lst none n 1 (trees (fun k => .slice (some k) 0 n 1 (some n)) Bs)) ∧ Bs.Nodup ∧ (∀ k ∈ Bs, H.n ≤ k) ∧ BRows H' n Bs (fr ps)) ?_ (fun v H' _ _ hh => hh)
  refine ACall.enterW mix Try.func31 (by kernel_rfl) fun hw => ?_
  simp (disch := first | omega | (simp only [n_alloc, n_put, n_kill, n_allocT, n_tabH, n_less]; omega) | (simp; done) | fail) [Try.f31]
  refine box_f rfl ?_
  simp (disch := first | omega | (simp only [n_alloc, n_put, n_kill, n_allocT, n_tabH, n_less]; omega) | (simp; done) | fail)
  refine run_for n (fun i E H' => Ext H H' ∧ E 1 = .fptr [.int .i64 n, pairsT ps] ∧ E 4 = .int .i64 i ∧
    ∃ Bs : List Nat, Bs.length = i ∧ Tl H.n H' (E 3) i 1 (trees (fun k => .slice (some k) 0 n 1 (some n)) Bs) ∧ Bs.Nodup ∧ (∀ k ∈ Bs, H.n ≤ k) ∧ BRows H' n Bs (fun _ _ => false)) 0 (Nat.zero_le _) ?_ ?_
  · simp (disch := first | omega | (simp only [n_alloc, n_put, n_kill, n_allocT, n_tabH, n_less]; omega) | (simp; done) | fail)
    exact ⟨Tl.nil, fun a ha => by simp at ha⟩
  · rintro i E H' hw' hi ⟨he, h1, h4, Bs, hBl, hT, hnd, hlo, hR⟩
    simp (disch := first | omega | (simp only [n_alloc, n_put, n_kill, n_allocT, n_tabH, n_less]; omega) | (simp; done) | fail) [h1, h4]
    refine cP (fun h => ?_) fun h => ?_
    · simp (disch := first | omega | (simp only [n_alloc, n_put, n_kill, n_allocT, n_tabH, n_less]; omega) | (simp; done) | fail) [h1, h4]
      refine make_row ?_
      simp (disch := first | omega | (simp only [n_alloc, n_put, n_kill, n_allocT, n_tabH, n_less]; omega) | (simp; done) | fail)
      refine ⟨by omega, ?_⟩
      refine build_lst ?_
      simp (disch := first | omega | (simp only [n_alloc, n_put, n_kill, n_allocT, n_tabH, n_less]; omega) | (simp; done) | fail) [buildL]
      have hlen := hT.hlen
      have he1 := he.1
      refine append_tl (n := 1) (new := [.slice (some H'.n) 0 n 1 (some n)]) (hT.alloc hw') (wf_alloc hw') (by (first | omega | (simp only [n_alloc, n_put, n_kill, n_allocT, n_tabH, n_less]; omega))) (by simp (disch := first | omega | (simp only [n_alloc, n_put, n_kill, n_allocT, n_tabH, n_less]; omega) | (simp; done) | fail); omega) (by simp (disch := first | omega | (simp only [n_alloc, n_put, n_kill, n_allocT, n_tabH, n_less]; omega) | (simp; done) | fail)) (by omega) (by simp (disch := first | omega | (simp only [n_alloc, n_put, n_kill, n_allocT, n_tabH, n_less]; omega) | (simp; done) | fail)) (by simp (disch := first | omega | (simp only [n_alloc, n_put, n_kill, n_allocT, n_tabH, n_less]; omega) | (simp; done) | fail)) (by simp (disch := first | omega | (simp only [n_alloc, n_put, n_kill, n_allocT, n_tabH, n_less]; omega) | (simp; done) | fail)) (by omega) fun v' H2 hw2 hT2 hk2 _ => ?_
      have hx : Ext H H2 := (hT.alloc hw').ext hk2 (he.alloc _) (Nat.le_refl _)
      have hR2 : BRows H2 n (Bs ++ [H'.n]) fun _ _ => false := fun a ha => by
        by_cases e : a < Bs.length
        · rw [List.getElem_append_left e]
          exact (hT.alloc hw').rows (wf_alloc hw') hk2 (hR.alloc hw' a e)
        · have : a = Bs.length := by simp at ha; omega
          subst this
          rw [List.getElem_append_right (by omega)]
          simp only [Nat.sub_self, List.getElem_cons_zero]
          rw [← rowT_false]
          exact (hT.alloc hw').rows (wf_alloc hw') hk2 get_alloc_new
      rw [trees_snoc (fun k => AV.slice (some k) 0 n 1 (some n))] at hT2
      simp (disch := first | omega | (simp only [n_alloc, n_put, n_kill, n_allocT, n_tabH, n_less]; omega) | (simp; done) | fail) [h1, h4]
      refine ⟨h, hx, Bs ++ [H'.n], by simp [hBl], hT2, ?_, fun k hk => ?_, hR2⟩
      · rw [List.nodup_append]
        refine ⟨hnd, by simp, fun x hx y hy => ?_⟩
        simp at hy; subst hy
        obtain ⟨a, ha, rfl⟩ := List.getElem_of_mem hx
        have := hw' _ _ (hR a ha)
        omega
      · rcases List.mem_append.1 hk with hk | hk
        · exact hlo k hk
        · simp at hk; subst hk; exact he.1
    · have : i = n := by omega
      subst this
      simp (disch := first | omega | (simp only [n_alloc, n_put, n_kill, n_allocT, n_tabH, n_less]; omega) | (simp; done) | fail) [h1]
      refine run_for ps.length (fun j E H' => Ext H H' ∧ E 20 = pairsT ps ∧ E 21 = .int .i64 ps.length ∧ E 22 = .int .i64 j ∧
        Tl H.n H' (E 3) i 1 (trees (fun k => .slice (some k) 0 i 1 (some i)) Bs) ∧ BRows H' i Bs (fr (ps.take j))) 0 (Nat.zero_le _) ?_ ?_
      · simp (disch := first | omega | (simp only [n_alloc, n_put, n_kill, n_allocT, n_tabH, n_less]; omega) | (simp; done) | fail)
        exact ⟨he, hT, hR⟩
      · clear h1 h4 he hT hR hw' H' E
        rintro j E H' hw' hj ⟨he, h20, h21, h22, hT, hR⟩
        have hln : ∀ e s, lenA (.slice e s) (E 3) = some (.int .i64 i) := fun e s => hT.ln
        simp (disch := first | omega | (simp only [n_alloc, n_put, n_kill, n_allocT, n_tabH, n_less]; omega) | (simp; done) | fail) [h20, h21, h22]
        refine cP (fun g => ?_) fun g => ?_
        · obtain ⟨q1, q2, q3, _⟩ := hg.2 j g
          have hA : ps[j].1.toNat < Bs.length := by omega
          have hB : ps[j].2.toNat < Bs.length := by omega
          have hix : ∀ (e : TypeId) (k : Int), 0 ≤ k → k < i → idxAddrA (.slice e 1) (E 3) (.int .i64 k) = some (.fptr ((trees (fun k => AV.slice (some k) 0 i 1 (some i)) Bs).drop k.toNat)) := fun e k h0 h1 => by
            have := hT.idx (e := e) (k := .i64) h0 h1 (by omega)
            simpa using this
          have hR1 := hR.alloc hw' (ds := [.int .i64 ps[j].1, .int .i64 ps[j].2])
          have hgA := hR1 _ hA
          simp (disch := first | omega | (simp only [n_alloc, n_put, n_kill, n_allocT, n_tabH, n_less]; omega) | (simp; done) | fail) [h20, h21, h22, g]
          refine run_any plan31_9 (by kernel_rfl) ?_
          simp (disch := first | omega | (simp only [n_alloc, n_put, n_kill, n_allocT, n_tabH, n_less]; omega) | (simp; done) | fail) [plan31_9, h20, h21, h22, g, hix, hgA, splice_row, rowT_length]
          refine Run.of ⟨by omega, ?_⟩
          refine run_any plan31_10 (by kernel_rfl) ?_
          have hR2 := hR1.put hnd hA (x := ps[j].2.toNat) (v := true)
          have hgB := hR2 _ hB
          have hg0 : (H'.alloc [.int .i64 ps[j].1, .int .i64 ps[j].2]).get H'.n = some (.cells [.int .i64 ps[j].1, .int .i64 ps[j].2] true) := get_alloc_new
          have hnA : Bs[ps[j].1.toNat] < H'.n := hw' _ _ (hR _ hA)
          have hnB : Bs[ps[j].2.toNat] < H'.n := hw' _ _ (hR _ hB)
          have hlA := hlo _ (List.getElem_mem hA)
          have hlB := hlo _ (List.getElem_mem hB)
          have he1 := he.1
          simp (disch := first | omega | (simp only [n_alloc, n_put, n_kill, n_allocT, n_tabH, n_less]; omega) | (simp; done) | fail) [plan31_10, h20, h21, h22, g, hix, hgB, splice_row, rowT_length]
          refine Run.of ⟨by omega, ?_⟩
          have hR3 := hR2.put hnd hB (x := ps[j].1.toNat) (v := true)
          rw [fr_step ps j g (by omega) (by omega)] at hR3
          refine ⟨he, ?_, hR3⟩
          have hT1 := hT.alloc hw' (ds := [.int .i64 ps[j].1, .int .i64 ps[j].2])
          exact (hT1.put hgA).put hgB
        · have : j = ps.length := by omega
          subst this
          rw [List.take_length] at hR
          simp (disch := first | omega | (simp only [n_alloc, n_put, n_kill, n_allocT, n_tabH, n_less]; omega) | (simp; done) | fail)
          exact ⟨he, Bs, hBl, hT.rc, hnd, hlo, hR⟩
theorem paTable_ok (n : Nat) (ps : List (Int × Int)) (hg : GoodP n ps) (hl : ps.length < 2 ^ 31) : PCall Try.prog 31 [partyT n ps] fun v => v = tabT n (fr ps) :=
  PCall.table fun w0 H hw => paTableOwn_ok n ps hg hl
end Go.Proofs.Ythkmbfifiojmhaa
